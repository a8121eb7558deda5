/- Small things for the functions' proofs. -/
import Derived.Test.YtjbnpbnfkgmkoaaDoorS5
import Derived.ChangeStays
import Derived.ChangeShapes
import Derived.ChangeSlices
import Derived.RowKit
import Derived.LaidMore
import Derived.OpenShut
import Derived.FnData
import Derived.ChangeAt
set_option linter.all false
namespace Go.SE
open Go

instance (n : Int) : Decidable (inI64 n) := by unfold inI64; exact inferInstance
def maskT (keep : List Nat) (tm : List (Nat × SV)) : Nat → List SV → List SV
  | _, [] => []
  | i, v :: r => (match look tm i with
    | some x => x
    | none => match keep.contains i with
      | true => v
      | false => .any) :: maskT keep tm (i + 1) r
/-- A loop's head: the temporaries kept, those set, the blocks. -/
def tpl (s : St) (fresh : Nat) (keep : List Nat) (tm : List (Nat × SV)) (bl : List (Nat × List Seg)) : St := { tmps := maskT keep tm 0 s.tmps, heap := bl, next := s.next + fresh, hs := s.hs, nh := s.nh }
/-- A loop with a counter. -/
def cntInv (n : Nat) (st : Nat → St → St) : Inv := ⟨Nat, 0, fun i => i ≤ n, fun i => i + 1, fun i => n - i, st⟩
theorem bsplit_dec {c : Prop} [Decidable c] {p q : Prop} (hp : c → p) (hq : ¬ c → q) : bsplit (decide c) p q := by
  by_cases h : c
  · rw [decide_eq_true h]; exact hp h
  · rw [decide_eq_false h]; exact hq h
theorem bsplit_bool {b : Bool} {p q : Prop} (hp : b = true → p) (hq : b = false → q) : bsplit b p q := by
  cases b
  · exact hq rfl
  · exact hp rfl
theorem holds_of {V : VT} {p : Prop} (e : V.holds = p) (h : p) : V.holds := e ▸ h
theorem TabFOK.nil {P : Program} {G : List (Nat × SV)} : TabFOK P G [] := fun _ _ h => by cases h
theorem TabFOK.cons {P : Program} {G : List (Nat × SV)} {f : Nat} {S : Spec} {FT : FTab} (h : CallOK P G f S) (h' : TabFOK P G FT) : TabFOK P G ((f, S) :: FT) := fun g S' e => by
  rw [look_cons] at e
  split at e
  · rename_i hf; cases e; subst hf; exact h
  · exact h' g S' e
end Go.SE
/- Environments, put together. -/
namespace Go.SE
open Go
/-- The bodies of iterators that are walked in place. -/
def FBOK (P : Program) (FB : List (Nat × FBody)) : Prop :=
  ∀ g fb, look FB g = some fb → ∃ fn, P.funcs[g]? = some fn ∧ fn.body = some fb.code ∧ fn.ntmps = fb.ntmps ∧ fn.results = #[] ∧ (fn.name == "runtime.NumGoroutine") = false
theorem FBOK.nil {P : Program} : FBOK P [] := fun _ _ h => by cases h
theorem FBOK.cons {P : Program} {FB : List (Nat × FBody)} {g : Nat} {fn : Func} {c : Code} (h : P.funcs[g]? = some fn) (hb : fn.body = some c) (hr : fn.results = #[]) (hn : (fn.name == "runtime.NumGoroutine") = false) (h' : FBOK P FB) :
    FBOK P ((g, ⟨fn.ntmps, c⟩) :: FB) := fun k fb e => by
  unfold look at e
  split at e
  · rename_i hk
    cases e
    exact ⟨fn, hk ▸ h, hb, rfl, hr, hn⟩
  · exact h' k fb e
/-- More is known of the variables. -/
theorem CallOK.mono {P : Program} {G G' : List (Nat × SV)} {f : Nat} {S : Spec} (h : CallOK P G f S) (hG : ∀ p ∈ G, p ∈ G') : CallOK P G' f S :=
  ⟨h.body, fun X s ρ lh w fr args vs e rd hs hf hd hok =>
    have hs' : SatH X G s ρ lh w := ⟨hs.blk, hs.inj, hs.foreign, hs.nxt, hs.hd, hs.hinj, hs.hnxt, fun g sv hg => hs.glob g sv (hG _ hg), hs.xlt⟩
    (h.sound X s ρ lh w fr args vs e rd hs' hf hd hok).mono fun e0 w' hq => by
      cases e0 with
      | returned v => 
        obtain ⟨ρ', h1, h2, h3, h4⟩ := hq
        exact ⟨ρ', ⟨h1.blk, h1.inj, h1.foreign, h1.nxt, h1.hd, h1.hinj, h1.hnxt, fun g sv hg => (hs.glob g sv hg).stab h3.stab, h1.xlt⟩, h2, h3, h4⟩
      | _ => exact hq⟩
/-- What is to be shown, kept shut. -/
@[irreducible] def VT.Holds (V : VT) : Prop := V.holds
theorem holdsI {V : VT} {p : Prop} (e : V.holds = p) (h : p) : V.Holds := by
  unfold VT.Holds
  rw [e]
  exact h
theorem VT.Holds.out {V : VT} (h : V.Holds) : V.holds := by
  unfold VT.Holds at h
  exact h
theorem callOK_ofI {P : Program} {E : Env} (hE : EnvOK P E) {f : Nat} {fn : Func} {code : Code} (hfn : P.funcs[f]? = some fn) (hb : fn.body = some code) (hname : (fn.name == "runtime.NumGoroutine") = false) {frz : Bool} {modes : List Mode} {post : List SV → List (List Seg) → FPost}
    (hbody : ∀ L H out, Typed L H → (post L H).Ok out → ∃ (A : Ann) (fuel : Nat), (wpFn E fuel A code fn.ntmps fn.results.toList L H out).Holds) : CallOK P E.G f (specOf frz modes post) :=
  callOK_of hE hfn hb hname fun L H out ht hp => by
    obtain ⟨A, fuel, h⟩ := hbody L H out ht hp
    exact ⟨A, fuel, h.out⟩
theorem bsplit_not {c : Prop} [Decidable c] {p q : Prop} (hp : ¬ c → p) (hq : c → q) : bsplit (!decide c) p q := by
  by_cases h : c
  · simp only [h, decide_true, Bool.not_true]; exact hq h
  · simp only [h, decide_false, Bool.not_false]; exact hp h
theorem bsplit_t {b : Bool} {p q : Prop} (hb : b = true) (h : p) : bsplit b p q := by rw [hb]; exact h
theorem bsplit_f {b : Bool} {p q : Prop} (hb : b = false) (h : q) : bsplit b p q := by rw [hb]; exact h
end Go.SE
/- What the lengths of a function's arguments are. -/
namespace Go.SE
open Go
def lnG (f : SV → Prop) : Seg → Prop
  | .one v => f v
  | .ints n xs => xs.length = n
  | .b8s n xs => xs.length = n
  | .b32s n xs => xs.length = n
  | .rows n xs => xs.length = n
  | .spare => True
def lnS (f : SV → Prop) : List Seg → Prop
  | [] => True
  | g :: r => lnG f g ∧ lnS f r
def lnV : Nat → SV → Prop
  | 0, _ => True
  | f + 1, x => match x with
    | .agg o => lnS (lnV f) o
    | .ip o _ => lnS (lnV f) o
    | .ipi o _ _ => lnS (lnV f) o
    | .sl es n g => match g with
      | .b8s m xs => xs.length = m ∧ mulE es n = m
      | .ints m xs => xs.length = m ∧ mulE es n = m
      | .b32s m xs => xs.length = m ∧ mulE es n = m
      | .rows m xs => xs.length = m ∧ mulE es n = m
      | _ => True
    | _ => True
def lnL (f : Nat) : List SV → Prop
  | [] => True
  | x :: r => lnV f x ∧ lnL f r
def lnH (f : Nat) : List (List Seg) → Prop
  | [] => True
  | g :: r => lnS (lnV f) g ∧ lnH f r
section
variable {w : World} {own : Nat → Prop} {ρ : Rho} {lh : Lam}
theorem lnS0_ok {f : Nat} (ih : ∀ x v, Den0 w own x v → lnV f x) : ∀ (o : List Seg) (l : List Value), DenS0 w own o l → lnS (lnV f) o
  | [], _, _ => trivial
  | g :: r, l, h => by
    cases h with
    | one hv h1 hr => exact ⟨ih _ _ hv, lnS0_ok ih _ _ hr⟩
    | ints hn hr => exact ⟨hn, lnS0_ok ih _ _ hr⟩
    | b8s hn hr => exact ⟨hn, lnS0_ok ih _ _ hr⟩
    | b32s hn hr => exact ⟨hn, lnS0_ok ih _ _ hr⟩
    | rows hn h1 hr => exact ⟨hn, lnS0_ok ih _ _ hr⟩
    | spare h1 => exact ⟨trivial, trivial⟩
theorem lnV0_ok : ∀ (f : Nat) (x : SV) (v : Value), Den0 w own x v → lnV f x
  | 0, _, _, _ => trivial
  | f + 1, x, v, h => by
    cases h with
    | ip hb ho hl hp => exact lnS0_ok (lnV0_ok f) _ _ hl
    | ipi hb ho hl hp => exact lnS0_ok (lnV0_ok f) _ _ hl
    | agg h => exact lnS0_ok (lnV0_ok f) _ _ h
    | sl hl hn hc hp =>
      cases hl with
      | one => trivial
      | spare => trivial
      | ints h1 h2 => cases h2; exact ⟨h1, by simp at hn; rw [mulE_eq]; omega⟩
      | b8s h1 h2 => cases h2; exact ⟨h1, by simp at hn; rw [mulE_eq]; omega⟩
      | b32s h1 h2 => cases h2; exact ⟨h1, by simp at hn; rw [mulE_eq]; omega⟩
      | rows h1 h3 h2 => cases h2; exact ⟨h1, by have := h3.length; simp at hn; rw [mulE_eq]; omega⟩
    | _ => trivial
theorem lnS_ok {f : Nat} (ih : ∀ x v, Den w own ρ lh x v → lnV f x) : ∀ (o : List Seg) (l : List Value), DenS w own ρ lh o l → lnS (lnV f) o
  | [], _, _ => trivial
  | g :: r, l, h => by
    cases h with
    | one hv h1 hr => exact ⟨ih _ _ hv, lnS_ok ih _ _ hr⟩
    | seg hg hr =>
      refine ⟨?_, lnS_ok ih _ _ hr⟩
      exact (lnS0_ok (lnV0_ok f) _ _ hg).1
theorem lnV_ok : ∀ (f : Nat) (x : SV) (v : Value), Den w own ρ lh x v → lnV f x
  | 0, _, _, _ => trivial
  | f + 1, x, v, h => by
    cases h with
    | im h => exact lnV0_ok _ _ _ h
    | agg h => exact lnS_ok (lnV_ok f) _ _ h
    | _ => trivial
theorem lnL_ok (f : Nat) : ∀ (L : List SV) (l : List Value), DenL w own ρ lh L l → lnL f L
  | [], _, _ => trivial
  | _ :: _, _, .cons h hr => ⟨lnV_ok f _ _ h, lnL_ok f _ _ hr⟩
end
theorem lnH_ok {w : World} {own : Nat → Prop} (f : Nat) : ∀ (H : List (List Seg)), (∀ g ∈ H, ∃ l, DenS0 w own g l) → lnH f H
  | [], _ => trivial
  | g :: r, h => ⟨(h g (by simp)).elim fun l hl => lnS0_ok (lnV0_ok f) _ _ hl, lnH_ok f r fun g hg => h g (by simp [hg])⟩
/-- The lengths are as the values say. -/
theorem Typed.lens {L : List SV} {H : List (List Seg)} (h : Typed L H) : lnL 6 L ∧ lnH 6 H := by
  obtain ⟨w, own, ρ, l, h1, h2⟩ := h
  exact ⟨lnL_ok 6 _ _ h1, lnH_ok 6 _ h2⟩
theorem FPost.ok_split {b : Bool} {t f : FPost} {out : Out} (h : (FPost.split b t f).Ok out) : (b = true ∧ t.Ok out) ∨ (b = false ∧ f.Ok out) := by
  cases b
  · exact .inr ⟨rfl, h⟩
  · exact .inl ⟨rfl, h⟩
end Go.SE
/- Loops' heads, by what changes. -/
namespace Go.SE
open Go
def undefAny : SV → SV
  | .tup [] => .any
  | v => v
def setTs : List SV → List (Nat × SV) → List SV
  | ts, [] => ts
  | ts, (t, v) :: r => setTs (ts.set t v) r
def setH1 (id : Nat) (g : List Seg) : List (Nat × List Seg) → List (Nat × List Seg)
  | [] => [(id, g)]
  | (k, x) :: r => match decide (k = id) with
    | true => (k, g) :: r
    | false => (k, x) :: setH1 id g r
def setHeap : List (Nat × List Seg) → List (Nat × List Seg) → List (Nat × List Seg)
  | h, [] => h
  | h, (id, g) :: r => setHeap (setH1 id g h) r
def memId (id : Nat) : List (Nat × List Seg) → Bool
  | [] => false
  | (k, _) :: r => match decide (k = id) with
    | true => true
    | false => memId id r
/-- A slice of a block that changes is no longer known. -/
def killS (bl : List (Nat × List Seg)) : SV → SV
  | .os id es n => match memId id bl with
    | true => .any
    | false => .os id es n
  | .osub id es o n => match memId id bl with
    | true => .any
    | false => .osub id es o n
  | v => v
/-- The state at a loop's head: what changes in the loop is given. -/
def tplA (s : St) (tm : List (Nat × SV)) (bl : List (Nat × List Seg)) : St :=
  { s with tmps := setTs (s.tmps.map fun v => killS bl (undefAny v)) tm, heap := setHeap s.heap bl }
/-- Some new names kept free. -/
def tplF (n : Nat) (s : St) (tm : List (Nat × SV)) (bl : List (Nat × List Seg)) : St :=
  { s with tmps := setTs (s.tmps.map fun v => killS bl (undefAny v)) tm, heap := setHeap s.heap bl, next := s.next + n }
def svId : SV → Nat
  | .ptr id _ | .ptri id _ _ | .os id _ _ | .osub id _ _ _ => id
  | _ => 0
/-- The block that a temporary names. -/
def idT (s : St) (t : Nat) : Nat := svId ((s.tmps[t]?).getD .any)
/-- The same of a loop under way (0: the innermost). -/
def idU (s : St) (k t : Nat) : Nat := match s.hs[k]? with
  | some (_, h) => svId ((h.tmps[t]?).getD .any)
  | none => 0
/-- The block that a variable's content names. -/
def idIn (s : St) (id : Nat) : Nat := match look s.heap id with
  | some (.one v :: _) => svId v
  | _ => 0
/-- What a state holds where a loop is entered. -/
def tmpAt (s : St) (t : Nat) : SV := (s.tmps[t]?).getD .any
def blkAt (s : St) (id : Nat) : Option (List Seg) := look s.heap id
def intT (s : St) (t : Nat) : Int := match tmpAt s t with
  | .int n => n
  | _ => 0
def intB (s : St) (id : Nat) : Int := match blkAt s id with
  | some (.one (.int n) :: _) => n
  | _ => 0
def intsB (s : St) (id : Nat) : List Int := match blkAt s id with
  | some (.ints _ xs :: _) => xs
  | _ => []
def b8sB (s : St) (id : Nat) : List (BitVec 8) := match blkAt s id with
  | some (.b8s _ xs :: _) => xs
  | _ => []
def b32sB (s : St) (id : Nat) : List (BitVec 32) := match blkAt s id with
  | some (.b32s _ xs :: _) => xs
  | _ => []
/-- The bytes of a slice. -/
def slT (s : St) (t : Nat) : List (BitVec 8) := match tmpAt s t with
  | .sl _ _ (.b8s _ xs) => xs
  | .os id _ _ => b8sB s id
  | .osub id _ off n => ((b8sB s id).drop off).take n
  | _ => []
def isOs (s : St) (t : Nat) : Bool := match tmpAt s t with
  | .os _ _ _ => true
  | .osub _ _ _ _ => true
  | _ => false
def cntS (n step : Nat) (st : Nat → St → St) : Inv := ⟨Nat, 0, fun i => i ≤ n, fun i => i + step, fun i => n - i, st⟩
end Go.SE
/- A new slice of bytes, seen as nobody's; functions with two specifications. -/
namespace Go.SE
open Go
/-- What is handed back as a new slice is frozen at once. -/
def frzE (fr : Nat) (e : Eff) : Tr := match e.v, e.new with
  | .osub id 1 0 n, [[.b8s m xs, .spare]] => match decide (id = fr) with
    | true => match e.set.all fun p => decide (p.1 ≠ fr) with
      | true => .vc (n = m ∧ xs.length = m) (.done ⟨.sl 1 xs.length (.b8s xs.length xs), e.drop, e.set, []⟩)
      | false => .fail
    | false => .fail
  | .os id 1 n, [[.b8s m xs, .spare]] => match decide (id = fr) with
    | true => match e.set.all fun p => decide (p.1 ≠ fr) with
      | true => .vc (n = m ∧ xs.length = m) (.done ⟨.sl 1 xs.length (.b8s xs.length xs), e.drop, e.set, []⟩)
      | false => .fail
    | false => .fail
  | .tup [.osub id 1 0 n, .int k], [[.b8s m xs]] => match decide (id = fr) with
    | true => match e.set.all fun p => decide (p.1 ≠ fr) with
      | true => .vc (n = m ∧ xs.length = m) (.done ⟨.tup [.sl 1 xs.length (.b8s xs.length xs), .int k], e.drop, e.set, []⟩)
      | false => .fail
    | false => .fail
  | .tup [.nils, .int k], [] => .done ⟨.tup [.nils, .int k], e.drop, e.set, []⟩
  | _, _ => .fail
def frzTr (fr : Nat) : Tr → Tr
  | .blk id k => .blk id fun g => frzTr fr (k g)
  | .vc p k => .vc p (frzTr fr k)
  | .split b t f => .split b (frzTr fr t) (frzTr fr f)
  | .done e => frzE fr e
  | .fail => .fail
theorem frzTr_ok {h : Nat → Option (List Seg)} {fr : Nat} {tr : Tr} : ∀ {e' : Eff} {rd : List Nat}, (frzTr fr tr).Ok h e' rd → ∃ e, tr.Ok h e rd ∧ (frzE fr e).Ok h e' [] := by
  induction tr with
  | blk id k ih =>
    rintro e' rd ⟨g, rd', hg, rfl, hk⟩
    obtain ⟨e, h1, h2⟩ := ih g hk
    exact ⟨e, ⟨g, rd', hg, rfl, h1⟩, h2⟩
  | vc p k ih =>
    rintro e' rd ⟨hp, hk⟩
    obtain ⟨e, h1, h2⟩ := ih hk
    exact ⟨e, ⟨hp, h1⟩, h2⟩
  | split b t f iht ihf =>
    intro e' rd hk
    cases b
    · exact ihf hk
    · exact iht hk
  | done e =>
    intro e' rd hk
    have hk' : (frzE fr e).Ok h e' rd := hk
    have : rd = [] := by
      unfold frzE at hk'
      split at hk'
      · split at hk'
        · split at hk'
          · exact hk'.2.2
          · exact hk'.elim
        · exact hk'.elim
      · split at hk'
        · split at hk'
          · exact hk'.2.2
          · exact hk'.elim
        · exact hk'.elim
      · split at hk'
        · split at hk'
          · exact hk'.2.2
          · exact hk'.elim
        · exact hk'.elim
      · exact hk'.2
      · exact hk'.elim
    subst this
    exact ⟨e, ⟨rfl, rfl⟩, hk'⟩
  | fail => intro e' rd hk; exact hk.elim
section
variable {P : Program} {X : Nat → Prop} {G : List (Nat × SV)} {s : St} {ρ : Rho} {lh : Lam} {w w' : World} {fr : Nat}
/-- The value of a block that is frozen. -/
theorem frz_val {s' : St} {ρ' : Rho} {own1 : Nat → Prop} {r : List Seg} {m : Nat} {xs : List (BitVec 8)} {v : Value} {v0 : SV} (h1 : SatH X G s' ρ' lh w') (hg : s'.blk fr = some (.b8s m xs :: r)) (hl : xs.length = m)
    (hv0 : v0 = .os fr 1 m ∨ v0 = .osub fr 1 0 m) (h2 : Den w' own1 ρ' lh v0 v) : Den0 w' (Own X (s'.drop fr) ρ' lh) (.sl 1 xs.length (.b8s xs.length xs)) v := by
  have hfz : ∀ (b sz cap : Nat), ρ' fr = some (b, sz) → m ≤ cap → Den0 w' (Own X (s'.drop fr) ρ' lh) (.sl 1 xs.length (.b8s xs.length xs)) (.slice (some ⟨b, 0, none⟩) m cap) := by
    intro b sz cap hr hc
    have := frozen_slice (off := 0) (n := m) h1 hg hr (ys := xs) (by rw [List.drop_zero, List.take_length]) (cap := cap) (by omega)
    have e : ∀ k, k = xs.length → Den0 w' (Own X (s'.drop fr) ρ' lh) (.sl 1 xs.length (.b8s xs.length xs)) (.slice (some ⟨b, 0, none⟩) k cap) := by
      intro k hk; subst hk; exact this
    exact e m hl.symm
  have nil : xs.length = 0 → ∀ a, Den0 w' (Own X (s'.drop fr) ρ' lh) (.sl 1 xs.length (.b8s xs.length xs)) (.slice a 0 0) := by
    intro hm a
    obtain rfl : xs = [] := List.eq_nil_of_length_eq_zero hm
    exact .sl (l := []) (.b8s rfl .nil) rfl (Nat.zero_le _) (.inl rfl)
  rcases hv0 with hv0 | hv0
  · subst hv0
    cases h2 with
    | im h0 => cases h0
    | os h hc hz => exact hfz _ _ _ h hc
    | osn h => exact nil hl _
  · subst hv0
    cases h2 with
    | im h0 => cases h0
    | osub h hc hz => exact hfz _ _ _ h hc
    | osubn h => exact nil hl _
    | osubz h => exact nil hl _
theorem does_frz {v0 v1 : SV} {dr : List Nat} {st : List (Nat × List Seg)} {g : List Seg} {v : Value}
    (hval : ∀ (s' : St) (ρ' : Rho), SatH X G s' ρ' lh w' → s'.blk fr = some g → Den w' (Own X s' ρ' lh) ρ' lh v0 v → Den w' (Own X (s'.drop fr) ρ' lh) ρ' lh v1 v)
    (hd : Does X G s ρ lh w ⟨v0, dr, st, [g]⟩ fr v w') (hfr : s.blk fr = none) (hst : ∀ p ∈ st, p.1 ≠ fr) :
    Does X G s ρ lh w ⟨v1, dr, st, []⟩ fr v w' := by
  obtain ⟨ρ', h1, h2, h3, h4⟩ := hd
  have hblk : ∀ id, ((s.eff ⟨v0, dr, st, [g]⟩ fr).drop fr).blk id = (s.eff ⟨v1, dr, st, []⟩ fr).blk id := by
    intro id
    rw [St.blk_drop, blk_eff, blk_eff]
    by_cases h : id = fr
    · subst h
      rw [if_pos rfl]
      have hs : setAct id st = none := by
        cases hh : setAct id st with
        | none => rfl
        | some x => 
          have := setAct_mem (id := id) (l := st) (by rw [hh]; simp)
          obtain ⟨p, hp, hp2⟩ := List.mem_map.1 this
          exact absurd hp2 (hst p hp)
      simp only [Eff.act, newAt, setAct, hs]
      cases hd : dropAct id dr with
      | none => simp [hfr]
      | some x =>
        have : ∀ l : List Nat, ∀ x, dropAct id l = some x → x = none := by
          intro l
          induction l with
          | nil => intro x h; cases h
          | cons k r ih =>
            intro x h
            simp only [dropAct] at h
            split at h
            · rename_i y hy
              cases h; exact ih _ hy
            · split at h
              · cases h; rfl
              · cases h
        rw [this dr x hd]; rfl
    · rw [if_neg h]
      simp [Eff.act, newAt, setAct, h]
  have hhd : ∀ L, ((s.eff ⟨v0, dr, st, [g]⟩ fr).drop fr).hd L = (s.eff ⟨v1, dr, st, []⟩ fr).hd L := by
    intro L; simp [St.eff, St.hd_drop]
  have hg : (s.eff ⟨v0, dr, st, [g]⟩ fr).blk fr = some g := by
    rw [blk_eff]; simp [Eff.act, newAt, setAct]
  have hD := h1.drop fr
  have hown : Own X ((s.eff ⟨v0, dr, st, [g]⟩ fr).drop fr) ρ' lh = Own X (s.eff ⟨v1, dr, st, []⟩ fr) ρ' lh := by
    apply Own_congr <;> intro x
    · exact hblk x
    · exact hhd x
  have hmine : Mine ((s.eff ⟨v0, dr, st, [g]⟩ fr).drop fr) ρ' lh = Mine (s.eff ⟨v1, dr, st, []⟩ fr) ρ' lh := by
    apply Mine_congr <;> intro x
    · exact hblk x
    · exact hhd x
  refine ⟨ρ', hD.congr (fun id => (hblk id).symm) (fun L => (hhd L).symm) ?_ ?_, ?_, ?_, h4⟩
  · simp [St.eff, St.drop]
  · simp [St.eff, St.drop]
  · rw [← hown]
    exact hval _ _ h1 hg h2
  · have gg := Goes.drop (s := s.eff ⟨v0, dr, st, [g]⟩ fr) (ρ := ρ') (lh := lh) (w := w') fr
    have e : Ev s.next s.nh (Mine s ρ lh) (Mine ((s.eff ⟨v0, dr, st, [g]⟩ fr).drop fr) ρ' lh) ρ ρ' lh lh w w' := h3.trans gg (by simp [St.eff]) (by simp [St.eff])
    rw [hmine] at e
    exact e
end
/-- No bytes. -/
abbrev nil8 : List (BitVec 8) := []
abbrev nil32 : List (BitVec 32) := []
/-- A function whose result is frozen. -/
def frzS (S : Spec) : Spec := fun fr args => frzTr fr (S fr args)
theorem CallOK.frz {P : Program} {G : List (Nat × SV)} {f : Nat} {S : Spec} (h : CallOK P G f S) : CallOK P G f (frzS S) :=
  ⟨h.body, fun X s ρ lh w fr args vs e rd hs hf hd hok => by
    obtain ⟨e0, h1, h2⟩ := frzTr_ok hok
    refine (h.sound X s ρ lh w fr args vs e0 rd hs hf hd h1).mono fun e1 w' hq => ?_
    cases e1 with
    | returned v =>
      have hq' : Does X G s ρ lh w e0 fr v w' := hq
      show Does X G s ρ lh w e fr v w'
      have hfr : s.blk fr = none := blk_none_of_rho hs (hf.2 fr (Nat.le_refl _) (by omega))
      unfold frzE at h2
      obtain ⟨v0, dr, st, nw⟩ := e0
      split at h2
      · rename_i id n m xs hv hn
        split at h2
        · rename_i hid
          split at h2
          · rename_i hst
            obtain ⟨⟨rfl, hl⟩, rfl, _⟩ := h2
            dsimp only at hv hn hst
            subst hv hn
            obtain rfl := of_decide_eq_true hid
            exact does_frz (fun s' ρ' k1 k2 k3 => .im (frz_val k1 k2 hl (.inr rfl) k3)) hq' hfr (fun p hp => by simpa using List.all_eq_true.1 hst p hp)
          · exact h2.elim
        · exact h2.elim
      · rename_i id n m xs hv hn
        split at h2
        · rename_i hid
          split at h2
          · rename_i hst
            obtain ⟨⟨rfl, hl⟩, rfl, _⟩ := h2
            dsimp only at hv hn hst
            subst hv hn
            obtain rfl := of_decide_eq_true hid
            exact does_frz (fun s' ρ' k1 k2 k3 => .im (frz_val k1 k2 hl (.inl rfl) k3)) hq' hfr (fun p hp => by simpa using List.all_eq_true.1 hst p hp)
          · exact h2.elim
        · exact h2.elim
      · rename_i id n k m xs hv hn
        split at h2
        · rename_i hid
          split at h2
          · rename_i hst
            obtain ⟨⟨rfl, hl⟩, rfl, _⟩ := h2
            dsimp only at hv hn hst
            subst hv hn
            obtain rfl := of_decide_eq_true hid
            refine does_frz (fun s' ρ' k1 k2 k3 => ?_) hq' hfr (fun p hp => by simpa using List.all_eq_true.1 hst p hp)
            cases k3 with
            | im h0 => cases h0
            | tup hL =>
              cases hL with
              | cons a b =>
                cases b with
                | cons c d =>
                  cases d
                  refine .tup (.cons (.im (frz_val k1 k2 hl (.inr rfl) a)) (.cons ?_ .nil))
                  cases c with
                  | im h0 => cases h0; exact .im (.int _)
          · exact h2.elim
        · exact h2.elim
      · rename_i k hv hn
        obtain ⟨rfl, _⟩ := h2
        dsimp only at hv hn
        subst hv hn
        exact hq'
      · exact h2.elim
    | _ => exact hq⟩
/-- Two specifications of one function: for no receiver, and for one. -/
def altS (S0 S1 : Spec) : Spec := fun fr args => match args with
  | .nilp :: _ => S0 fr args
  | _ => S1 fr args
theorem CallOK.alt {P : Program} {G : List (Nat × SV)} {f : Nat} {S0 S1 : Spec} (h0 : CallOK P G f S0) (h1 : CallOK P G f S1) : CallOK P G f (altS S0 S1) :=
  ⟨h0.body, fun X s ρ lh w fr args vs e rd hs hf hd hok => by
    unfold altS at hok
    split at hok
    · exact h0.sound X s ρ lh w fr _ vs e rd hs hf hd hok
    · exact h1.sound X s ρ lh w fr args vs e rd hs hf hd hok⟩
end Go.SE
/- A law: the row's frame out of the call's specification. -/
namespace Go.SE
open Go Go.ChangeShapes Go.WideShapes Go.RowKit
/-- All that was there stays. -/
def Kept (W W' : World) : Prop := ∀ (b : Nat) (o : Obj), W.heap[b]? = some o → W'.heap[b]? = some o
/-- The state in which nothing is owned. -/
def s00 : St := { tmps := [], heap := [], next := 8, hs := [], nh := 0 }
def own00 : Nat → Prop := Own (fun _ => False) s00 (fun _ => none) (fun _ => none)
theorem not_own00 (b : Nat) : ¬ own00 b := by
  rintro (h | ⟨i, segs, sz, h1, h2, h3⟩ | ⟨L, x, h1, h2⟩)
  · exact h
  · cases h1
  · cases h1
/-- A call in a world of which nothing is owned: it returns so, and all that was there stays. -/
theorem law_call {P : Program} {G : List (Nat × SV)} {f : Nat} {S : Spec} (h : CallOK P G f S) {W : World} {args : List SV} {vs : Array Value} {sv : SV} {rd : List Nat}
    (hG : ∀ g sv, (g, sv) ∈ G → Den0 W own00 sv (.pointer (some ⟨g, 0, none⟩))) (hd : Den0L W own00 args vs.toList) (hok : (S 0 args).Ok s00.blk ⟨sv, [], [], []⟩ rd) :
    Calls P f vs W fun e W' => ∃ v, e = .returned v ∧ (∃ own ρ lh, Den W' own ρ lh sv v) ∧ W.heap.size ≤ W'.heap.size ∧ Kept W W' ∧ Mute W W' := by
  have hs : SatH (fun _ => False) G s00 (fun _ => none) (fun _ => none) W :=
    { blk := by intro id segs h; cases h
      inj := by intro id id' segs segs' b sz sz' h; cases h
      foreign := by intro b _ h; exact h
      nxt := by intro id r h; cases h
      hd := by intro L x h; cases h
      hinj := by intro L L' x x' l h; cases h
      hnxt := by intro L l h; cases h
      glob := hG
      xlt := by intro b h; exact False.elim h }
  have hfree : Free s00 (fun _ => none) 0 := ⟨Nat.le_refl _, fun _ _ _ => rfl⟩
  have := h.sound _ s00 _ _ W 0 args vs.toList _ rd hs hfree (Den0L.full hd) hok
  rw [Array.toArray_toList] at this
  refine (callsIn_wide.1 this).mono fun e W' hq => ?_
  cases e with
  | returned v =>
    obtain ⟨ρ', h1, h2, h3, _⟩ := hq
    exact ⟨v, rfl, ⟨_, _, _, h2⟩, h3.size, fun b o hb => h3.keep b o hb fun hm => not_own00 b (.inr hm), h3.out⟩
  | _ => exact hq.elim
theorem same_of_kept {W W' : World} (h : Kept W W') {p : MemPlace} (hp : p.block < W.heap.size) : W.sameAt W' p := by
  have e : ∀ b, b < W.heap.size → W'.heap[b]? = W.heap[b]? := fun b hb => by
    rw [Array.getElem?_eq_getElem hb]; exact h b _ (Array.getElem?_eq_getElem hb)
  cases p with
  | cell b o => exact World.cell?_of_block (w := W) (e b hp)
  | map b => exact e b hp
theorem kept_of {W W' : World} (h : Kept W W') (hm : Mute W W') (may : MemPlace → Prop) : W.keptBut W' may := by
  refine ⟨hm.1, hm.2, fun i hi => ?_⟩
  have e : W'.heap[i]? = W.heap[i]? := by rw [Array.getElem?_eq_getElem hi]; exact h i _ (Array.getElem?_eq_getElem hi)
  rw [e]
  split <;> simp_all
section
variable {H : Type} {enc : TypeId × Value → H} {P : Program} {W W' : World}
/-- An argument reads as it did. -/
theorem trod_kept (hl : laidOutB P = true) (hm : mapsRowed P = true) (hz : ∀ {t e : TypeId}, t < P.types.size → P.underlying t = some (.slice e) → 0 < P.cellsOf e) {t : TypeId} (ht : t < P.types.size) {v : Value} {d : DataW H} {p : List MemPlace}
    (h : DataW.Trod enc P W 0 (fun _ => true) true t v d p) (hk : Kept W W') (hlt : ∀ x ∈ p, x.block < W.heap.size) :
    DataW.Trod enc P W' 0 (fun b => decide (b < W.heap.size)) true t v d p := by
  obtain ⟨n, hn⟩ := h
  exact ⟨n, DataW.trod_stays (kids_rows hl hm) hz (by simp) ht hn (fun q hq => same_of_kept hk (hlt q hq)) (fun q hq => decide_eq_true (hlt q hq))⟩
theorem trodAll_kept (hl : laidOutB P = true) (hm : mapsRowed P = true) (hz : ∀ {t e : TypeId}, t < P.types.size → P.underlying t = some (.slice e) → 0 < P.cellsOf e) : ∀ {ts : List TypeId} {vs : List Value} {ds : List (DataW H)} {p : List MemPlace},
    (∀ t ∈ ts, t < P.types.size) → DataW.TrodAll enc P W 0 (fun _ => true) true ts vs ds p → Kept W W' → (∀ x ∈ p, x.block < W.heap.size) →
    DataW.TrodAll enc P W' 0 (fun b => decide (b < W.heap.size)) true ts vs ds p := by
  intro ts
  induction ts with
  | nil =>
    intro vs ds p _ h _ _
    obtain ⟨rfl, rfl, rfl⟩ := trodAll_nil h
    exact trodAll_mk0
  | cons t ts ih =>
    intro vs ds p ht h hk hlt
    obtain ⟨v, vs', d, ds', p1, p2, rfl, rfl, rfl, h1, h2⟩ := trodAll_cons h
    exact ⟨p1, p2, trod_kept hl hm hz (ht t (by simp)) h1 hk (fun x hx => hlt x (by simp [hx])), ih (fun u hu => ht u (by simp [hu])) h2 hk (fun x hx => hlt x (by simp [hx])), rfl⟩
end
theorem wf_u8 {n : Int} (h : (Lit.int .u8 n).wf = true) : 0 ≤ n ∧ n < 256 := by
  simp [Lit.wf, IntKind.min, IntKind.max, IntKind.signed, IntKind.bits] at h
  omega
theorem wf_u16 {n : Int} (h : (Lit.int .u16 n).wf = true) : 0 ≤ n ∧ n < 65536 := by
  simp [Lit.wf, IntKind.min, IntKind.max, IntKind.signed, IntKind.bits] at h
  omega
theorem v8_of {n : Int} (h : 0 ≤ n ∧ n < 256) : v8 (BitVec.ofInt 8 n) = .int .u8 n := by
  unfold v8
  rw [BitVec.toNat_ofInt]
  congr 1
  omega
theorem v16_of {n : Int} (h : 0 ≤ n ∧ n < 65536) : v16 (BitVec.ofInt 16 n) = .int .u16 n := by
  unfold v16
  rw [BitVec.toNat_ofInt]
  congr 1
  omega
/-- A row of cells in memory. -/
theorem lies_of {W : World} {a : Addr} {l : List Value} (hne : l ≠ []) (h : ∀ i, i < l.length → W.cell? (a.add i) = l[i]?) :
    ∃ b off cs elem fr, a = ⟨b, off, none⟩ ∧ W.heap[b]? = some (.cells cs elem fr) ∧ liesAt cs off l := by
  have hpos : 0 < l.length := List.length_pos_iff.2 hne
  obtain ⟨b, off, spot⟩ := a
  have h0 := h 0 hpos
  have e0 : (Addr.add ⟨b, off, spot⟩ 0) = ⟨b, off, spot⟩ := by simp [Addr.add]
  rw [e0, List.getElem?_eq_getElem hpos] at h0
  obtain rfl : spot = none := World.cell?_spot h0
  have hc : ∃ cs elem fr, W.heap[b]? = some (.cells cs elem fr) := by
    unfold World.cell? at h0
    split at h0
    · rename_i c e f hh; exact ⟨c, e, f, hh⟩
    · cases h0
  obtain ⟨cs, elem, fr, hb⟩ := hc
  refine ⟨b, off, cs, elem, fr, rfl, hb, ?_⟩
  unfold liesAt
  apply List.ext_getElem?
  intro i
  rw [List.getElem?_take]
  split
  · rename_i hi
    have := h i hi
    rw [add_zero_spot] at this
    unfold World.cell? at this
    rw [hb] at this
    simp only [Option.isSome_none, Bool.false_eq_true, if_false] at this
    rw [List.getElem?_drop, ← this]
    simp
  · rename_i hi
    rw [List.getElem?_eq_none (by omega)]
/-- A byte slice that was handed in. -/
theorem den_bytes {H : Type} {enc : TypeId × Value → H} {P : Program} {W : World} {own : Nat → Prop} (hown : ∀ b, ¬ own b) {t e : TypeId} {v : Value} {d : DataW H} {p : List MemPlace} (ht : P.underlying t = some (.slice e)) (he : P.underlying e = some (.int .u8)) (hc : P.cellsOf e = 1)
    {r : Go.Reach} {b0 : Nat} (hval : Value.okWide P W r b0 t v) (h : DataW.Trod enc P W 0 (fun _ => true) true t v d p) : ∃ xs : List (BitVec 8), Den0 W own (.sl 1 xs.length (.b8s xs.length xs)) v := by
  obtain ⟨a0, len0, cap0, rfl⟩ := okWide_slice ht hval
  obtain ⟨fuel, hf⟩ := h
  have hcells : ∀ x : Value, (Value.slice a0 len0 cap0).cells.toList = [x] → x = .slice a0 len0 cap0 := by
    intro x hx; simp [Value.cells] at hx; exact hx.symm
  rcases open_ints ht he hc hf with ⟨hcs, _⟩ | ⟨a, len, cap, zs, hcs, _, hl, _, hz, _, hcell, hwz⟩
  · have := hcells _ hcs
    rw [← this]
    exact ⟨[], .sl (l := []) (.b8s rfl .nil) rfl (Nat.le_refl _) (.inl rfl)⟩
  · have := hcells _ hcs
    rw [← this]
    simp only [if_true] at hz
    refine ⟨(zs.take len).map fun z => BitVec.ofInt 8 z, ?_⟩
    have hlen : ((zs.take len).map fun z => BitVec.ofInt 8 z).length = len := by rw [List.length_map, List.length_take]; omega
    have hmap : ((zs.take len).map fun z => BitVec.ofInt 8 z).map v8 = (zs.take len).map fun z => Value.int .u8 z := by
      rw [List.map_map]
      apply List.map_congr_left
      intro z hzm
      exact v8_of (wf_u8 (hwz z (List.mem_of_mem_take hzm)))
    rw [hlen]
    refine .sl (l := ((zs.take len).map fun z => BitVec.ofInt 8 z).map v8) (by have := DenS0.b8s (w := W) (own := own) (n := len) hlen .nil; rwa [List.append_nil] at this) (by rw [List.length_map, hlen, Nat.mul_one]) hl ?_
    by_cases h0 : len = 0
    · subst h0; left; simp
    · right
      rw [hmap]
      have hne : ((zs.take len).map fun z => Value.int .u8 z) ≠ [] := by
        intro hn
        have h5 := congrArg List.length hn
        rw [List.length_map, List.length_take, List.length_nil] at h5
        omega
      obtain ⟨b, off, cs, elem, fr, rfl, h1, h2⟩ := lies_of (W := W) (a := a) hne (fun i hi => by
        have hi' : i < len := by rw [List.length_map, List.length_take] at hi; omega
        rw [hcell i (by omega), List.getElem?_map, List.getElem?_take, if_pos hi', List.getD_eq_getElem?_getD, List.getElem?_eq_getElem (by omega)]
        rfl)
      exact ⟨b, off, cs, elem, fr, rfl, h1, hown b, h2⟩
/-- The same of a cell that is read. -/
theorem den_bytesC {H : Type} {enc : TypeId × Value → H} {P : Program} {W : World} {own : Nat → Prop} (hown : ∀ b, ¬ own b) {t e : TypeId} {fuel : Nat} {cs : List Value} {x : DataW H × List MemPlace} (ht : P.underlying t = some (.slice e)) (he : P.underlying e = some (.int .u8)) (hc : P.cellsOf e = 1)
    (hf : DataW.trod enc P W 0 (fun _ => true) true fuel t cs = some x) : ∃ (v : Value) (xs : List (BitVec 8)), cs = [v] ∧ v.oneCell' = true ∧ Den0 W own (.sl 1 xs.length (.b8s xs.length xs)) v := by
  rcases open_ints ht he hc hf with ⟨hcs, _⟩ | ⟨a, len, cap, zs, hcs, _, hl, _, hz, _, hcell, hwz⟩
  · exact ⟨_, [], hcs, rfl, .sl (l := []) (.b8s rfl .nil) rfl (Nat.le_refl _) (.inl rfl)⟩
  · simp only [if_true] at hz
    refine ⟨_, (zs.take len).map fun z => BitVec.ofInt 8 z, hcs, rfl, ?_⟩
    have hlen : ((zs.take len).map fun z => BitVec.ofInt 8 z).length = len := by rw [List.length_map, List.length_take]; omega
    have hmap : ((zs.take len).map fun z => BitVec.ofInt 8 z).map v8 = (zs.take len).map fun z => Value.int .u8 z := by
      rw [List.map_map]
      apply List.map_congr_left
      intro z hzm
      exact v8_of (wf_u8 (hwz z (List.mem_of_mem_take hzm)))
    rw [hlen]
    refine .sl (l := ((zs.take len).map fun z => BitVec.ofInt 8 z).map v8) (by have := DenS0.b8s (w := W) (own := own) (n := len) hlen .nil; rwa [List.append_nil] at this) (by rw [List.length_map, hlen, Nat.mul_one]) hl ?_
    by_cases h0 : len = 0
    · subst h0; left; simp
    · right
      rw [hmap]
      have hne : ((zs.take len).map fun z => Value.int .u8 z) ≠ [] := by
        intro hn
        have h5 := congrArg List.length hn
        rw [List.length_map, List.length_take, List.length_nil] at h5
        omega
      obtain ⟨b, off, cs, elem, fr, rfl, h1, h2⟩ := lies_of (W := W) (a := a) hne (fun i hi => by
        have hi' : i < len := by rw [List.length_map, List.length_take] at hi; omega
        rw [hcell i (by omega), List.getElem?_map, List.getElem?_take, if_pos hi', List.getD_eq_getElem?_getD, List.getElem?_eq_getElem (by omega)]
        rfl)
      exact ⟨b, off, cs, elem, fr, rfl, h1, hown b, h2⟩
theorem denR_of {W : World} {own : Nat → Prop} (f : Nat → Value) (g : Nat → List (BitVec 8)) : ∀ l : List Nat, (∀ i ∈ l, Den0 W own (.sl 1 (g i).length (.b8s (g i).length (g i))) (f i)) → DenR W own (l.map g) (l.map f)
  | [], _ => .nil
  | i :: r, h => .cons (h i (by simp)) (denR_of f g r fun j hj => h j (by simp [hj]))
/-- A slice of slices of bytes that was handed in. -/
theorem den_rows {H : Type} {enc : TypeId × Value → H} {P : Program} {W : World} {own : Nat → Prop} (hown : ∀ b, ¬ own b) {t e u : TypeId} {v : Value} {d : DataW H} {p : List MemPlace} (ht : P.underlying t = some (.slice e)) (he : P.underlying e = some (.slice u)) (hu : P.underlying u = some (.int .u8)) (hce : P.cellsOf e = 1) (hcu : P.cellsOf u = 1)
    {r : Go.Reach} {b0 : Nat} (hval : Value.okWide P W r b0 t v) (h : DataW.Trod enc P W 0 (fun _ => true) true t v d p) : ∃ xss : List (List (BitVec 8)), Den0 W own (.sl 1 xss.length (.rows xss.length xss)) v := by
  obtain ⟨a0, len0, cap0, rfl⟩ := okWide_slice ht hval
  obtain ⟨fuel, hf⟩ := h
  have hcells : ∀ x : Value, (Value.slice a0 len0 cap0).cells.toList = [x] → x = .slice a0 len0 cap0 := by
    intro x hx; simp [Value.cells] at hx; exact hx.symm
  rcases DataW.trod_slice ht hf with ⟨hcs, _⟩ | ⟨a, len, cap, elems, rest, n, _, hcs, _, _, hl, _, hlen, hel, _, _⟩
  · have := hcells _ hcs
    rw [← this]
    exact ⟨[], .sl (l := []) (by have := DenS0.rows (w := W) (own := own) (n := 0) (xss := []) (vs := []) rfl .nil .nil; simpa using this) rfl (Nat.le_refl _) (.inl rfl)⟩
  · have := hcells _ hcs
    rw [← this]
    have each : ∀ i, i < len → ∃ (v : Value) (xs : List (BitVec 8)), W.cell? (a.add i) = some v ∧ v.oneCell' = true ∧ Den0 W own (.sl 1 xs.length (.b8s xs.length xs)) v := by
      intro i hi
      have h1 := hel i hi
      rw [List.getElem?_eq_getElem (by omega), hce, Nat.mul_one, Option.bind_eq_some_iff] at h1
      obtain ⟨cs', hc', hy⟩ := h1
      obtain ⟨v, xs, rfl, h2, h3⟩ := den_bytesC (own := own) hown he hu hcu hy
      exact ⟨v, xs, cell_of_cells?_one hc', h2, h3⟩
    classical
    have hne : Nonempty Value := ⟨.bool true⟩
    let f : Nat → Value := fun i => if h : i < len then Classical.choose (each i h) else .bool true
    let g : Nat → List (BitVec 8) := fun i => if h : i < len then Classical.choose (Classical.choose_spec (each i h)) else []
    have hfg : ∀ i, i < len → W.cell? (a.add i) = some (f i) ∧ (f i).oneCell' = true ∧ Den0 W own (.sl 1 (g i).length (.b8s (g i).length (g i))) (f i) := by
      intro i hi
      have := Classical.choose_spec (Classical.choose_spec (each i hi))
      simp only [f, g, dif_pos hi]
      exact this
    refine ⟨(List.range len).map g, ?_⟩
    have hR := denR_of (W := W) (own := own) f g (List.range len) fun i hi => (hfg i (List.mem_range.1 hi)).2.2
    have hlg : ((List.range len).map g).length = len := by simp
    rw [hlg]
    refine .sl (l := (List.range len).map f) (by have := DenS0.rows (w := W) (own := own) (n := len) hlg hR .nil; rwa [List.append_nil] at this) (by simp) hl ?_
    by_cases h0 : len = 0
    · subst h0; left; simp
    · right
      obtain ⟨b, off, cs, elem, fr, rfl, h1, h2⟩ := lies_of (W := W) (a := a) (l := (List.range len).map f) (by simpa using h0) (fun i hi => by
        have hi' : i < len := by simpa using hi
        rw [(hfg i hi').1, List.getElem?_map, List.getElem?_range hi']
        rfl)
      exact ⟨b, off, cs, elem, fr, rfl, h1, hown b, h2⟩
theorem den_i64 {H : Type} {enc : TypeId × Value → H} {P : Program} {W : World} {own : Nat → Prop} {t : TypeId} {v : Value} {d : DataW H} {p : List MemPlace} (ht : P.underlying t = some (.int .i64))
    {r : Go.Reach} {b0 : Nat} (hval : Value.okWide P W r b0 t v) (h : DataW.Trod enc P W 0 (fun _ => true) true t v d p) : ∃ n : Int, Den0 W own (.int n) v ∧ inI64 n := by
  obtain ⟨n, rfl, _, _, hw⟩ := open_int ht hval h
  refine ⟨n, .int n, ?_⟩
  simp [Lit.wf, IntKind.min, IntKind.max, IntKind.signed, IntKind.bits] at hw
  unfold inI64; omega
theorem den_u8 {H : Type} {enc : TypeId × Value → H} {P : Program} {W : World} {own : Nat → Prop} {t : TypeId} {v : Value} {d : DataW H} {p : List MemPlace} (ht : P.underlying t = some (.int .u8))
    {r : Go.Reach} {b0 : Nat} (hval : Value.okWide P W r b0 t v) (h : DataW.Trod enc P W 0 (fun _ => true) true t v d p) : ∃ x : BitVec 8, Den0 W own (.b8 x) v := by
  obtain ⟨n, rfl, _, _, hw⟩ := open_int ht hval h
  refine ⟨BitVec.ofInt 8 n, ?_⟩
  rw [← v8_of (wf_u8 hw)]
  exact .b8 _
theorem den_u16 {H : Type} {enc : TypeId × Value → H} {P : Program} {W : World} {own : Nat → Prop} {t : TypeId} {v : Value} {d : DataW H} {p : List MemPlace} (ht : P.underlying t = some (.int .u16))
    {r : Go.Reach} {b0 : Nat} (hval : Value.okWide P W r b0 t v) (h : DataW.Trod enc P W 0 (fun _ => true) true t v d p) : ∃ x : BitVec 16, Den0 W own (.b16 x) v := by
  obtain ⟨n, rfl, _, _, hw⟩ := open_int ht hval h
  refine ⟨BitVec.ofInt 16 n, ?_⟩
  rw [← v16_of (wf_u16 hw)]
  exact .b16 _
/-- The answer is true. -/
theorem den_true {W : World} {own : Nat → Prop} {ρ : Rho} {lh : Lam} {b : Bool} {v : Value} (h : Den W own ρ lh (.bool b) v) : v = .bool b := by
  cases h with | im h0 => cases h0; rfl
end Go.SE
/- Package-level tables that a row lists. -/
namespace Go.SE
open Go Go.ChangeShapes Go.WideShapes Go.RowKit Go.ChangeAt
theorem var?_heap {P : Program} {w : World} {n : String} {g : Nat} {cs : Array Value} (hg : P.globalNamed n = some g) (h : w.var? P n = some cs) : ∃ t fr, w.heap[g]? = some (.cells cs t fr) := by
  simp only [World.var?, hg, Option.bind_some] at h
  split at h
  · rename_i c t fr hh
    cases h
    exact ⟨t, fr, hh⟩
  · cases h
theorem ints_of_array {H : Type} {enc : TypeId × Value → H} {P : Program} {w : World} {base : Nat} {spare : Nat → Bool} {held : Bool} {fuel : Nat} {t e : TypeId} {n : Nat} {k : IntKind} {cs : List Value} {zs : List Int} {p : List MemPlace}
    (ht : P.underlying t = some (.array n e)) (he : P.underlying e = some (.int k)) (hc : P.cellsOf e = 1) (hct : P.cellsOf t = n) (h : DataW.trod enc P w base spare held fuel t cs = some (.agg (zs.map fun z => .lit (.int k z)), p)) :
    cs = zs.map fun z => Value.int k z := by
  obtain ⟨xs, m, _, hx, hlen, hn, hel⟩ := DataW.trod_array ht h
  simp only [Prod.mk.injEq, DataW.agg.injEq] at hx
  obtain ⟨hx1, _⟩ := hx
  have hzl : zs.length = n := by
    have := congrArg List.length hx1
    simpa [hn] using this
  apply List.ext_getElem?
  intro i
  by_cases hi : i < n
  · have h0 := hel i hi
    rw [hc, Nat.mul_one] at h0
    obtain ⟨y, hy⟩ : ∃ y, xs[i]? = some y := ⟨xs[i], List.getElem?_eq_getElem (by omega)⟩
    rw [hy] at h0
    obtain ⟨v, e1, e2, _⟩ := DataW.trod_int he h0
    have e3 : (zs.map fun z => (DataW.lit (.int k z) : DataW H))[i]? = some y.1 := by rw [hx1, List.getElem?_map, hy]; rfl
    rw [List.getElem?_map] at e3
    rw [List.getElem?_map]
    have hzi : i < zs.length := by omega
    rw [List.getElem?_eq_getElem hzi] at e3 ⊢
    simp only [Option.map_some, Option.some.injEq, e2, DataW.lit.injEq, Lit.int.injEq, true_and] at e3
    have e4 : ((cs.drop i).take 1)[0]? = some (Value.int k v) := by rw [e1]; rfl
    rw [List.getElem?_take, if_pos (by decide), List.getElem?_drop, Nat.add_zero] at e4
    rw [e4, e3]; rfl
  · rw [List.getElem?_eq_none (by omega), List.getElem?_eq_none (by simp; omega)]
theorem den_var {W : World} {own : Nat → Prop} (hown : ∀ b, ¬ own b) {g : Nat} {cs : Array Value} {t : TypeId} {fr : Nat × Nat} (hb : W.heap[g]? = some (.cells cs t fr)) {o : List Seg} (hl : DenS0 W own o cs.toList) :
    Den0 W own (.ip o 0) (.pointer (some ⟨g, 0, none⟩)) := by
  have := Den0.ip (base := 0) (off := 0) hb (hown g) hl (by unfold liesAt; rw [List.drop_zero, List.take_length])
  simpa using this
theorem den_b32var {W : World} {own : Nat → Prop} (hown : ∀ b, ¬ own b) {g : Nat} {cs : Array Value} {t : TypeId} {fr : Nat × Nat} (hb : W.heap[g]? = some (.cells cs t fr)) {xs : List (BitVec 32)} {n : Nat} (hn : xs.length = n) (h : cs.toList = xs.map v32) :
    Den0 W own (.ip [.b32s n xs] 0) (.pointer (some ⟨g, 0, none⟩)) := den_var hown hb (by rw [h]; have := DenS0.b32s (w := W) (own := own) hn .nil; rwa [List.append_nil] at this)
theorem den_b8var {W : World} {own : Nat → Prop} (hown : ∀ b, ¬ own b) {g : Nat} {cs : Array Value} {t : TypeId} {fr : Nat × Nat} (hb : W.heap[g]? = some (.cells cs t fr)) {xs : List (BitVec 8)} {n : Nat} (hn : xs.length = n) (h : cs.toList = xs.map v8) :
    Den0 W own (.ip [.b8s n xs] 0) (.pointer (some ⟨g, 0, none⟩)) := den_var hown hb (by rw [h]; have := DenS0.b8s (w := W) (own := own) hn .nil; rwa [List.append_nil] at this)
/-- A slice of ints that a variable holds. -/
theorem den_slvar {H : Type} {enc : TypeId × Value → H} {P : Program} {W : World} {own : Nat → Prop} (hown : ∀ b, ¬ own b) {g : Nat} {cs : Array Value} {t tt e : TypeId} {fr : Nat × Nat} (hb : W.heap[g]? = some (.cells cs tt fr)) {base : Nat} {held : Bool} {fuel : Nat} {zs : List Int} {p : List MemPlace}
    (ht : P.underlying t = some (.slice e)) (he : P.underlying e = some (.int .i64)) (hc : P.cellsOf e = 1) (h : DataW.trod enc P W base (fun _ => true) held fuel t cs.toList = some (.slice (zs.map fun z => .lit (.int .i64 z)) [], p)) (hne : zs ≠ []) :
    Den0 W own (.ip [.one (.sl 1 zs.length (.ints zs.length zs))] 0) (.pointer (some ⟨g, 0, none⟩)) := by
  rcases open_ints ht he hc h with ⟨_, hx⟩ | ⟨a, len, cap, ys, hcs, _, hl, _, hz, hx, hcell, _⟩
  · simp at hx
  · simp only [Prod.mk.injEq, DataW.slice.injEq] at hx
    obtain ⟨⟨hx1, hx2⟩, _⟩ := hx
    have e1 : ys.take len = zs := by
      have h1 : (ys.take len).map (fun z => (DataW.lit (.int .i64 z) : DataW H)) = zs.map fun z => .lit (.int .i64 z) := by
        rw [hx1]; rfl
      have inj : Function.Injective (fun z : Int => (DataW.lit (.int .i64 z) : DataW H)) := by
        intro x y hxy; simpa using hxy
      exact List.map_inj_right (fun x y h => inj h) |>.1 h1
    have e2 : zs.length = len := by
      rw [← e1, List.length_take]
      simp only [if_true] at hz
      omega
    refine den_var hown hb ?_
    rw [hcs]
    simp only [if_true] at hz
    have hd : Den0 W own (.sl 1 zs.length (.ints zs.length zs)) (.slice (some a) len cap) := by
      rw [← e2]
      refine .sl (l := zs.map vInt) (by have := DenS0.ints (w := W) (own := own) (n := zs.length) (xs := zs) rfl .nil; rwa [List.append_nil] at this) (by rw [List.length_map, Nat.mul_one]) (by omega) ?_
      right
      obtain ⟨b, off, cs', elem, fr', rfl, h1, h2⟩ := lies_of (W := W) (a := a) (l := zs.map vInt) (by simpa using hne) (fun i hi => by
        have hi' : i < len := by rw [List.length_map] at hi; omega
        rw [hcell i (by omega), List.getElem?_map, ← e1, List.getElem?_take, if_pos hi', List.getD_eq_getElem?_getD, List.getElem?_eq_getElem (by omega)]
        rfl)
      exact ⟨b, off, cs', elem, fr', rfl, h1, hown b, h2⟩
    exact .one hd rfl .nil
end Go.SE
