/- Regions: one operation; in order; in any order. -/
import Derived.Test.YtjbnpbnfkgmkoaaDoorS3
import Derived.RangeFuncRecord
set_option linter.all false
namespace Go.SE
open Go

/-- How a call of yield goes on: the loop's name, the arguments, what is done with the answer. -/
abbrev YH := St → Nat → List SV → (SV → St → VT) → VT

def yieldOf (G : List (Nat × SV)) (s : St) (o : Oper) : Option (Nat × List SV) := match o.op with
  | .call c => match c.callee with
    | .value f => match ev G s f with
      | .yv L => some (L, evs G s c.args.toList)
      | _ => none
    | _ => none
  | _ => none
/-- A slice held against nil: its length, where it cannot be told whether it is nil. -/
def nilEqOf (T : List TI) (G : List (Nat × SV)) (s : St) (o : Oper) : Option Nat := match o.op with
  | .binOp op t x y _ => match op, (ty T t).k, ev G s x, ev G s y with
    | .eql, .slice _, .sl 1 n _, .nils => some n
    | _, _, _, _ => none
  | _ => none
/-- A product that may overflow (where the table's first function stands twice). -/
def mulOf (T : List TI) (FT : FTab) (G : List (Nat × SV)) (s : St) (o : Oper) : Option (Int × Int) := match FT with
  | (f, _) :: (g, _) :: _ => match decide (f = g) with
    | true => match o.op with
      | .binOp op t x y _ => match op, (ty T t).k, ev G s x, ev G s y with
        | .mul, .i64, .int a, .int b => some (a, b)
        | _, _, _, _ => none
      | _ => none
    | false => none
  | _ => none
def wpRun (T : List TI) (FT : FTab) (G : List (Nat × SV)) (Y : YH) (o : Oper) (s : St) (K : St → VT) : VT := match yieldOf G s o with
  | some (L, args) => Y s L args fun v s' => K (s'.setTmp o.dst v)
  | none => match nilEqOf T G s o with
    | some n => .all fun b : Bool => .imp (b = true → n = 0) (K (s.setTmp o.dst (.bool b)))
    | none => match mulOf T FT G s o with
      | some (a, b) => .all fun W : Int => .imp (W = IntKind.i64.wrap (a * b)) (K (s.setTmp o.dst (.int W)))
      | none => (act T FT G (s.raise 8) s.next o).vt s.blk [] fun e _ => match decide (e.new.length ≤ 8) with
        | true => K ((s.raise 8).app s.next e o.dst)
        | false => .fail
def gtmp (ops : List Oper) (j : Nat) : Option Tmp := match ops[j]? with
  | some o => o.dst
  | none => none
def wpGuard (T : List TI) (FT : FTab) (G : List (Nat × SV)) (Y : YH) (o : Oper) (K : St → VT) (t : Tmp) (b c : Bool) (s : St) : VT := match c == b with
  | true => wpRun T FT G Y o (s.setTmp (some t) (.bool c)) K
  | false => K ((s.setTmp (some t) (.bool c)).setTmp o.dst (.tup []))
def wpStep (T : List TI) (FT : FTab) (G : List (Nat × SV)) (Y : YH) (ops : List Oper) (o : Oper) (s : St) (K : St → VT) : VT := match o.guard with
  | none => wpRun T FT G Y o s K
  | some (j, b) => match gtmp ops j with
    | some t => match s.tmps[t]? with
      | some (.bool v) => .split v (wpGuard T FT G Y o K t b true s) (wpGuard T FT G Y o K t b false s)
      | some (.tup []) => K (s.setTmp o.dst (.tup []))
      | _ => .fail
    | none => .fail
def wpSeq (T : List TI) (FT : FTab) (G : List (Nat × SV)) (Y : YH) (ops : List Oper) : List Oper → St → (St → VT) → VT
  | [], s, K => K s
  | o :: r, s, K => wpStep T FT G Y ops o s fun s' => wpSeq T FT G Y ops r s' K

def opTmps (o : Oper) : List Tmp := o.op.operands.toList.filterMap fun x => match x with
  | .tmp t => some t
  | _ => none
/-- The operations of a part of a region, in the order of the text; what they do. -/
def segRun (T : List TI) (FT : FTab) (G : List (Nat × SV)) (ops : List Oper) : List Oper → Nat → St → List Info → (St → List Info → VT) → VT
  | [], _, s, acc, K => K s acc
  | o :: r, fr, s, acc, K =>
    match o.guard with
    | none => (act T FT G s fr o).vt s.blk [] fun e rd => match decide (e.new.length ≤ 8) with
      | true => segRun T FT G ops r (fr + 8) (s.app fr e o.dst) (acc ++ [⟨o.dst, opTmps o, e, rd, fr⟩]) K
      | false => .fail
    | some (j, b) => match gtmp ops j with
      | some t => match s.tmps[t]? with
        | some (.bool v) => .split v
            (match b with
              | true => (act T FT G (s.setTmp (some t) (.bool true)) fr o).vt (s.setTmp (some t) (.bool true)).blk [] fun e rd => match decide (e.new.length ≤ 8) with
                | true => segRun T FT G ops r (fr + 8) ((s.setTmp (some t) (.bool true)).app fr e o.dst) (acc ++ [⟨o.dst, t :: opTmps o, e, rd, fr⟩]) K
                | false => .fail
              | false => segRun T FT G ops r (fr + 8) ((s.setTmp (some t) (.bool true)).app fr ⟨.tup [], [], [], []⟩ o.dst) (acc ++ [⟨o.dst, [t], ⟨.tup [], [], [], []⟩, [], fr⟩]) K)
            (match b with
              | false => (act T FT G (s.setTmp (some t) (.bool false)) fr o).vt (s.setTmp (some t) (.bool false)).blk [] fun e rd => match decide (e.new.length ≤ 8) with
                | true => segRun T FT G ops r (fr + 8) ((s.setTmp (some t) (.bool false)).app fr e o.dst) (acc ++ [⟨o.dst, t :: opTmps o, e, rd, fr⟩]) K
                | false => .fail
              | true => segRun T FT G ops r (fr + 8) ((s.setTmp (some t) (.bool false)).app fr ⟨.tup [], [], [], []⟩ o.dst) (acc ++ [⟨o.dst, [t], ⟨.tup [], [], [], []⟩, [], fr⟩]) K)
        | some (.tup []) => segRun T FT G ops r (fr + 8) (s.app fr ⟨.tup [], [], [], []⟩ o.dst) (acc ++ [⟨o.dst, [t], ⟨.tup [], [], [], []⟩, [], fr⟩]) K
        | _ => .fail
      | none => .fail
theorem St.setTmp_self {s : St} {t : Tmp} {v : SV} (h : s.tmps[t]? = some v) : s.setTmp (some t) v = s := by
  obtain ⟨tm, hp, nx, hs, nh⟩ := s
  simp only [St.setTmp]
  congr 1
  apply List.ext_getElem?
  intro i
  rw [List.getElem?_set]
  split
  · rename_i hi
    subst hi
    have hlt := (List.getElem?_eq_some_iff.1 h).1
    rw [if_pos hlt]
    exact h.symm
  · rfl
def dummy : Info := ⟨none, [], ⟨.any, [], [], []⟩, [], 0⟩
def wpSegm (T : List TI) (FT : FTab) (G : List (Nat × SV)) (ops : List Oper) (lo hi : Nat) (s : St) (K : St → VT) : VT :=
  segRun T FT G ops ((ops.drop lo).take (hi - lo)) s.next (s.raise (8 * (hi - lo))) [] fun s' xs => match clashes ops ops.length (List.replicate lo dummy ++ xs) (List.replicate lo dummy ++ xs) 0 with
    | false => K s'
    | true => .fail
def cutAt (ops : List Oper) (p : Nat) : Bool := (List.range p).all fun j => (List.range ops.length).all fun i => decide (i < p) || isAnc ops ops.length j i
def isDyn (o : Oper) : Bool := match o.op with
  | .call c => match c.callee with
    | .value (.tmp _) => true
    | _ => false
  | _ => false
def cutsOf (ops : List Oper) : List Nat := match ops.any isDyn with
  | true => ((List.range ops.length).filter fun p => decide (0 < p) && cutAt ops p) ++ [ops.length]
  | false => [ops.length]
def wpCuts (T : List TI) (FT : FTab) (G : List (Nat × SV)) (Y : YH) (ops : List Oper) : Nat → List Nat → St → (St → VT) → VT
  | lo, [], s, K => match decide (lo = ops.length) with
    | true => K s
    | false => .fail
  | lo, hi :: r, s, K => match decide (lo < hi ∧ hi ≤ ops.length) && (decide (hi = ops.length) || cutAt ops hi) with
    | true => match decide (hi = lo + 1), ops[lo]? with
      | true, some o => wpStep T FT G Y ops o s fun s' => wpCuts T FT G Y ops hi r s' K
      | _, _ => wpSegm T FT G ops lo hi s fun s' => wpCuts T FT G Y ops hi r s' K
    | false => .fail
def wpRegion (T : List TI) (FT : FTab) (G : List (Nat × SV)) (Y : YH) (ops : List Oper) (draw : Bool) (s : St) (K : St → VT) : VT := match draw with
  | false => wpSeq T FT G Y ops ops s K
  | true => match tidy ops with
    | true => wpCuts T FT G Y ops 0 (cutsOf ops) s K
    | false => .fail

/-- Where a walk began. -/
structure Start where
  N : Nat
  M : Nat
  hs : List (Nat × (List SV × (Array Tmp × (Code × (Code × Nat)))))
  mine : Nat → Prop
  ρ : Rho
  lh : Lam
  w : World
/-- What does not change of a loop's record. -/
def hsC (l : List (Nat × Hd)) : List (Nat × (List SV × (Array Tmp × (Code × (Code × Nat))))) := l.map fun p => (p.1, p.2.tmps, p.2.params, p.2.assign, p.2.body, p.2.lim)
structure Reach (X : Nat → Prop) (G : List (Nat × SV)) (st : Start) (s : St) (ρ : Rho) (lh : Lam) (a : Act) (w : World) : Prop where
  sat : Sat X G s ρ lh a w
  ev : Ev st.N st.M st.mine (Mine s ρ lh) st.ρ ρ st.lh lh st.w w
  hN : st.N ≤ s.next
  hM : st.M ≤ s.nh
  hc : hsC s.hs = st.hs
  dm : ∀ d ∈ a.defers, ∃ r, d.target = .collected r ∧ st.w.heap.size ≤ r

section
variable {P : Program} {X : Nat → Prop} {G : List (Nat × SV)} {st : Start} {s : St} {ρ : Rho} {lh : Lam} {a : Act} {w : World} {fr : Nat}

theorem SatT.congr {s' : St} (h : SatT X s ρ lh a w) (ht : s'.tmps = s.tmps) (hb : ∀ id, s'.blk id = s.blk id) (hh : ∀ L, s'.hd L = s.hd L) : SatT X s' ρ lh a w := by
  have ho := Own_congr X hb hh ρ lh
  exact ⟨by rw [ht]; exact h.size, fun t sv e => by rw [ho]; exact h.tmp t sv (by rw [← ht]; exact e), let ⟨ms, h1, h2, h3⟩ := h.marks; ⟨ms, h1, h2, fun r hr => by rw [ho]; exact h3 r hr⟩⟩
theorem Reach.congr {s' : St} (h : Reach X G st s ρ lh a w) (ht : s'.tmps = s.tmps) (hb : ∀ id, s'.blk id = s.blk id) (hh : ∀ L, s'.hd L = s.hd L) (hn : s.next ≤ s'.next) (hm : s.nh ≤ s'.nh) (hc : hsC s'.hs = hsC s.hs) : Reach X G st s' ρ lh a w :=
  ⟨⟨h.sat.H.congr hb hh hn hm, h.sat.T.congr ht hb hh⟩, by rw [Mine_congr hb hh]; exact h.ev, Nat.le_trans h.hN hn, Nat.le_trans h.hM hm, hc.trans h.hc, h.dm⟩
theorem Reach.veq {s' : St} (h : Reach X G st s ρ lh a w) (e : Veq s s') : Reach X G st s' ρ lh a w := h.congr e.tmps e.blk e.hd (by rw [e.next]; exact Nat.le_refl _) (by rw [e.nh]; exact Nat.le_refl _) (by rw [e.hs])
theorem Reach.raise (h : Reach X G st s ρ lh a w) (n : Nat) : Reach X G st (s.raise n) ρ lh a w := h.congr rfl (fun _ => rfl) (fun _ => rfl) (Nat.le_add_right _ _) (Nat.le_refl _) rfl
theorem SatH.stabT {s' : St} {ρ' : Rho} {w' : World} (hs : SatH X G s ρ lh w) (hT : SatT X s ρ lh a w) (e : Goes s.next s.nh s s' ρ ρ' lh lh w w') (ht : s'.tmps = s.tmps) : SatT X s' ρ' lh a w' :=
  let ⟨h1, h2⟩ := hs.full e (Nat.le_refl _) (Nat.le_refl _)
  hT.stab e.stab h1 h2 ht
theorem put_defers' (a : Act) (dst : Option Tmp) (v : Value) : (a.put dst v).defers = a.defers := by cases dst <;> rfl
theorem Reach.does (h : Reach X G st s ρ lh a w) {e : Eff} {v : Value} {w' : World} {dst : Option Tmp} (hd : Does X G s ρ lh w e fr v w') :
    ∃ ρ', Reach X G st (s.app fr e dst) ρ' lh (a.put dst v) w' ∧ ∀ id, ρ' id ≠ none → ρ id ≠ none ∨ (fr ≤ id ∧ id < fr + 8) := by
  obtain ⟨ρ', h1, h2, h3, h4⟩ := hd
  have hT := h.sat.H.stabT h.sat.T h3 (by simp)
  refine ⟨ρ', ⟨⟨h1.congr (by simp [St.app]) (by simp [St.app]) (by simp) (by simp), hT.put dst h2⟩, ?_, by simpa using h.hN, by simpa using h.hM, by simpa using h.hc, by rw [put_defers']; exact h.dm⟩, h4⟩
  have : Mine (s.app fr e dst) ρ' lh = Mine (s.eff e fr) ρ' lh := Mine_congr (by simp [St.app]) (by simp [St.app]) ρ' lh
  rw [this]
  exact h.ev.trans h3 h.hN h.hM
theorem Reach.put (h : Reach X G st s ρ lh a w) {dst : Option Tmp} {sv : SV} {v : Value} (hv : Den w (Own X s ρ lh) ρ lh sv v) : Reach X G st (s.setTmp dst sv) ρ lh (a.put dst v) w :=
  ⟨⟨h.sat.H.congr (by simp) (by simp) (by simp) (by simp), h.sat.T.put dst hv⟩, by rw [Mine_congr (s := s) (by simp) (by simp)]; exact h.ev, by simpa using h.hN, by simpa using h.hM, by simpa using h.hc, by rw [put_defers']; exact h.dm⟩
/-- What a temporary is known to be is written down. -/
theorem Reach.know (h : Reach X G st s ρ lh a w) {t : Tmp} {sv : SV} (hv : t < s.tmps.length → Den w (Own X s ρ lh) ρ lh sv (a.tmps.getD t undef)) : Reach X G st (s.setTmp (some t) sv) ρ lh a w := by
  refine ⟨⟨h.sat.H.congr (by simp) (by simp) (by simp) (by simp), ?_⟩, by rw [Mine_congr (s := s) (by simp) (by simp)]; exact h.ev, by simpa using h.hN, by simpa using h.hM, by simpa using h.hc, h.dm⟩
  have ho := Own_congr (s := s) (s' := s.setTmp (some t) sv) X (by simp) (by simp) ρ lh
  refine ⟨by simpa [St.setTmp] using h.sat.T.size, fun t' sv' e => ?_, let ⟨ms, h1, h2, h3⟩ := h.sat.T.marks; ⟨ms, h1, h2, fun r hr => by rw [ho]; exact h3 r hr⟩⟩
  rw [ho]
  simp only [St.setTmp, List.getElem?_set] at e
  by_cases ht : t = t'
  · subst ht
    by_cases hl : t < s.tmps.length
    · simp only [if_true, hl, Option.some.injEq] at e
      subst e
      exact hv hl
    · simp [hl] at e
  · simp only [ht, if_false] at e
    exact h.sat.T.tmp t' sv' e
theorem Reach.free (h : Reach X G st s ρ lh a w) : Free (s.raise 8) ρ s.next :=
  ⟨Nat.le_refl _, fun j hj _ => by
    cases e : ρ j with
    | none => rfl
    | some r => have := h.sat.H.nxt j r e; omega⟩

/-- What is asked of the loops' answers. -/
def YOK (P : Program) (X : Nat → Prop) (G : List (Nat × SV)) (st : Start) (Y : YH) : Prop :=
  ∀ (F : Fence) (n : Nat) (Q : Exit → Act → World → Prop), Fence.open F → ∀ (s : St) (L : Nat) (o : Oper) (c : Call) (f : Operand) (K : SV → St → VT), o.op = .call c → c.callee = .value f → ev G s f = .yv L → (Y s L (evs G s c.args.toList) K).holds →
    ∀ (ρ : Rho) (lh : Lam) (a : Act) (w : World), Reach X G st s ρ lh a w → ∀ next : Act → World → Prop,
      (∀ sv s' v ρ' lh' w', (K sv s').holds → Reach X G st s' ρ' lh' a w' → Den w' (Own X s' ρ' lh') ρ' lh' sv v → next (a.put o.dst v) w') → o.wpIn F n P a w next Q

theorem run_equalIn_slice {t e0 : Nat} (d : Nat) (hd : P.underlying t = some (.slice e0)) (p : Option Addr) (n c : Nat) :
    (Op.equalIn (d + 1) t (.slice p n c) (.slice none 0 0)).run P w = .ok p.isNone w := by
  cases p <;> simp [Op.equalIn, Go.run_underlying hd]
theorem nilEq_sound {T : List TI} (hT : TabOK P T) {F : Fence} (hF : Fence.open F) {n : Nat} {Q : Exit → Act → World → Prop} {o : Oper} {k : Nat} (hy : nilEqOf T G s o = some k) (hr : Reach X G st s ρ lh a w) {next : Act → World → Prop}
    (hnext : ∀ b : Bool, (b = true → k = 0) → next (a.put o.dst (.bool b)) w) : o.wpIn F n P a w next Q := by
  unfold nilEqOf at hy
  split at hy
  · rename_i op t x y ty0 ho
    split at hy
    · rename_i e0 len g hk hx0 hy0
      simp only [Option.some.injEq] at hy
      subst hy
      obtain ⟨d, hd, hkd⟩ := (hT.get (t := t) (by rw [hk]; simp)).und
      rw [hk] at hkd
      have hd' : P.underlying t = some (.slice e0) := by rw [hd, hkd]
      have hx := ev_den hr.sat x
      have hy1 := ev_den hr.sat y
      rw [hx0] at hx
      rw [hy0] at hy1
      obtain ⟨p, cap, hvx, hp⟩ : ∃ p cap, a.eval x = .slice p len cap ∧ (p = none → len = 0) := by
        generalize a.eval x = vx at hx
        cases hx with
        | im h0 =>
          cases h0 with
          | sl hl hn hc hp =>
            refine ⟨_, _, rfl, fun hnone => ?_⟩
            rcases hp with rfl | ⟨b, off, cs, el, fr, ha, _⟩
            · simp at hn; omega
            · rw [ha] at hnone; cases hnone
      have hvy : a.eval y = .slice none 0 0 := by
        generalize a.eval y = vy at hy1
        cases hy1 with
        | im h0 => cases h0; rfl
      refine ⟨fun f _ => hF.1 f, ?_⟩
      have hrun : (do eqGuard .eql t x y (a.eval x) (a.eval y); Go.binOp .eql t (a.eval x) (a.eval y) : Sem Value).run P w = .ok (.bool p.isNone) w := by
        rw [hvx, hvy, Sem.run_bind, run_eqGuard (.inl (by simp)) (.inl (by simp))]
        obtain ⟨sv, v, _, h2, h3⟩ := eq_run (P := P) (w := w) (own := fun _ => False) (op := .eql) (b := p.isNone) (h := s.blk) (e := ⟨.bool p.isNone, [], [], []⟩) (rd := []) (t := t) (x := .slice p len cap) (y := .slice none 0 0)
          ⟨rfl, rfl⟩ (by simp) (by simp) (by simp) (by simp) (by rw [equal_eq]; exact run_equalIn_slice _ hd' _ _ _)
        simp only [Result.andThen_ok]
        simp [Go.binOp, equal_eq, run_equalIn_slice _ hd'] 
      have hex : execOp a.eval o = (do pure (.value (← (do eqGuard .eql t x y (a.eval x) (a.eval y); Go.binOp .eql t (a.eval x) (a.eval y) : Sem Value)))) := by simp [execOp, ho]
      rw [Oper.semAt_eq _ _ _ (by rw [ho]; simp), hex, Sem.run_bind, hrun, Result.andThen_ok]
      exact hnext _ fun hb => hp (by cases p with | none => rfl | some _ => simp at hb)
    · cases hy
  · cases hy
theorem mul_sound {T : List TI} {FT : FTab} (hT : TabOK P T) {F : Fence} (hF : Fence.open F) {n : Nat} {Q : Exit → Act → World → Prop} {o : Oper} {p q : Int} (hy : mulOf T FT G s o = some (p, q)) (hr : Reach X G st s ρ lh a w) {next : Act → World → Prop}
    (hnext : next (a.put o.dst (vInt (IntKind.i64.wrap (p * q)))) w) : o.wpIn F n P a w next Q := by
  unfold mulOf at hy
  split at hy
  · split at hy
    · split at hy
      · rename_i op t x y ty0 ho
        split at hy
        · rename_i a0 b0 hk hx0 hy0
          simp only [Option.some.injEq, Prod.mk.injEq] at hy
          obtain ⟨rfl, rfl⟩ := hy
          have hx := ev_den hr.sat x
          have hy1 := ev_den hr.sat y
          rw [hx0] at hx
          rw [hy0] at hy1
          have hvx := den_int hx
          have hvy := den_int hy1
          refine ⟨fun f _ => hF.1 f, ?_⟩
          have hrun : (do eqGuard .mul t x y (a.eval x) (a.eval y); Go.binOp .mul t (a.eval x) (a.eval y) : Sem Value).run P w = .ok (vInt (IntKind.i64.wrap (a0 * b0))) w := by
            rw [hvx, hvy, Sem.run_bind, run_eqGuard (.inl (by simp)) (.inl (by simp))]
            simp [Go.binOp, vInt, Op.intArith]
          have hex : execOp a.eval o = (do pure (.value (← (do eqGuard .mul t x y (a.eval x) (a.eval y); Go.binOp .mul t (a.eval x) (a.eval y) : Sem Value)))) := by simp [execOp, ho]
          rw [Oper.semAt_eq _ _ _ (by rw [ho]; simp), hex, Sem.run_bind, hrun, Result.andThen_ok]
          exact hnext
        · cases hy
      · cases hy
    · cases hy
  · cases hy
theorem wpRun_sound {T : List TI} {FT : FTab} (hT : TabOK P T) (hFT : TabFOK P G FT) {F : Fence} (hF : Fence.open F) {n : Nat} {Q : Exit → Act → World → Prop} {Y : YH} (hY : YOK P X G st Y) {o : Oper} {K : St → VT}
    (hw : (wpRun T FT G Y o s K).holds) (hr : Reach X G st s ρ lh a w) {next : Act → World → Prop} (hnext : ∀ s' ρ' lh' a' w', (K s').holds → Reach X G st s' ρ' lh' a' w' → next a' w') : o.wpIn F n P a w next Q := by
  unfold wpRun at hw
  split at hw
  · rename_i L args hy
    unfold yieldOf at hy
    split at hy
    · rename_i c ho
      split at hy
      · rename_i f hc
        split at hy
        · rename_i L' hev
          simp only [Option.some.injEq, Prod.mk.injEq] at hy
          obtain ⟨rfl, rfl⟩ := hy
          exact hY F n Q hF s _ o c f _ ho hc hev hw ρ lh a w hr next fun sv s' v ρ' lh' w' hk hr' hd => hnext _ _ _ _ _ hk (hr'.put hd)
        · cases hy
      · cases hy
    · cases hy
  · split at hw
    · rename_i k hy
      exact nilEq_sound hT hF hy hr fun b hb => hnext _ _ _ _ _ (hw b hb) (hr.put (.im (.bool b)))
    · split at hw
      · rename_i p q hy
        exact mul_sound hT hF hy hr (hnext _ _ _ _ _ (hw _ rfl) (hr.put (.im (.int _))))
      · obtain ⟨e, rd', hok, hk⟩ := Tr.ok_of_vt hw
        split at hk
        · have hr8 := hr.raise 8
          exact act_sound hT hFT hF hr8.sat hr.free hok fun v w' hd => by
            obtain ⟨ρ', h1, _⟩ := hr8.does (dst := o.dst) hd
            exact hnext _ _ _ _ _ hk h1
        · exact hk.elim

theorem yielded_of {ops : Array Oper} {j : Nat} {t : Tmp} {tm : Array Value} (ht : gtmp ops.toList j = some t) : (∀ v, tm[t]? = some (.bool v) → yielded ops tm j = some v) ∧ ((∀ v, tm[t]? ≠ some (.bool v)) → yielded ops tm j = none) := by
  unfold gtmp at ht
  split at ht
  · rename_i oj hoj
    have : ops[j]? = some oj := by simpa using hoj
    unfold yielded
    rw [this]
    simp only [Option.bind_some, ht]
    constructor
    · intro v hv; rw [hv]
    · intro hn
      split
      · rename_i v hv; exact absurd hv (hn v)
      · rfl
  · cases ht
/-- The operation is wanted (not wanted), as far as its guard tells. -/
def GOn (ops : List Oper) (s : St) (o : Oper) (tr : List Tmp) : Prop := o.guard = none ∨ ∃ j b t, o.guard = some (j, b) ∧ gtmp ops j = some t ∧ s.tmps[t]? = some (.bool b) ∧ t ∈ tr
def GOff (ops : List Oper) (s : St) (o : Oper) (tr : List Tmp) : Prop := ∃ j b t, o.guard = some (j, b) ∧ gtmp ops j = some t ∧ (s.tmps[t]? = some (.bool (!b)) ∨ s.tmps[t]? = some (.tup [])) ∧ t ∈ tr
theorem Reach.boolAt (hr : Reach X G st s ρ lh a w) {t : Tmp} {v : Bool} (hv : s.tmps[t]? = some (.bool v)) : a.tmps[t]? = some (.bool v) := by
  have hlt : t < s.tmps.length := (List.getElem?_eq_some_iff.1 hv).1
  have hd := hr.sat.T.tmp t _ hv
  have hsz := hr.sat.T.size
  have : a.tmps.getD t undef = .bool v := by
    generalize a.tmps.getD t undef = u at hd
    cases hd with | im h0 => cases h0; rfl
  have hlt2 : t < a.tmps.size := by rw [hsz]; exact hlt
  rw [Array.getD_eq_getD_getElem?, Array.getElem?_eq_getElem hlt2] at this
  rw [Array.getElem?_eq_getElem hlt2]
  simpa using this
theorem Reach.tupAt (hr : Reach X G st s ρ lh a w) {t : Tmp} (hv : s.tmps[t]? = some (.tup [])) : ∀ v, a.tmps[t]? ≠ some (.bool v) := by
  have hd := hr.sat.T.tmp t _ hv
  have hun : a.tmps.getD t undef = .tuple #[] := by
    generalize a.tmps.getD t undef = u at hd
    cases hd with
    | im h0 => cases h0
    | tup h => cases h; rfl
  intro v hv
  rw [Array.getD_eq_getD_getElem?, hv] at hun
  cases hun
theorem wanted_on {ops : Array Oper} {o : Oper} {tr : List Tmp} (h : GOn ops.toList s o tr) (hr : Reach X G st s ρ lh a w) : Region.wanted o (yielded ops a.tmps) = true := by
  rcases h with hg | ⟨j, b, t, hg, ht, hv, _⟩
  · simp [Region.wanted, hg]
  · simp [Region.wanted, hg, (yielded_of ht).1 _ (hr.boolAt hv)]
theorem wanted_off {ops : Array Oper} {o : Oper} {tr : List Tmp} (h : GOff ops.toList s o tr) (hr : Reach X G st s ρ lh a w) : Region.wanted o (yielded ops a.tmps) = false := by
  obtain ⟨j, b, t, hg, ht, hv | hv, _⟩ := h
  · simp [Region.wanted, hg, (yielded_of ht).1 _ (hr.boolAt hv)]
  · simp [Region.wanted, hg, (yielded_of ht).2 (hr.tupAt hv)]
theorem wpStep_sound {T : List TI} {FT : FTab} (hT : TabOK P T) (hFT : TabFOK P G FT) {F : Fence} (hF : Fence.open F) {n : Nat} {Q : Exit → Act → World → Prop} {Y : YH} (hY : YOK P X G st Y) {ops : Array Oper} {i : Nat} {o : Oper} (hi : ops[i]? = some o) {K : St → VT}
    (hw : (wpStep T FT G Y ops.toList o s K).holds) (hr : Reach X G st s ρ lh a w) {next : Act → World → Prop} (hnext : ∀ s' ρ' lh' a' w', (K s').holds → Reach X G st s' ρ' lh' a' w' → next a' w') : wpOpIn F n P ops Q i next a w := by
  unfold wpOpIn
  rw [hi]
  dsimp only
  have undef_tup : ∀ {w' : World} {s' : St} {ρ' : Rho} {lh' : Lam}, Den w' (Own X s' ρ' lh') ρ' lh' (.tup []) undef := Den.tup .nil
  have skip : Region.wanted o (yielded ops a.tmps) = false → ∀ {s' : St}, Reach X G st s' ρ lh a w → (K (s'.setTmp o.dst (.tup []))).holds →
      (if Region.wanted o (yielded ops a.tmps) = true then o.wpIn F n P a w next Q else (∀ f, o.about P w a.eval = some f → F.fn f) ∧ next (a.put o.dst undef) w) := fun h0 {s'} hr' hk => by
    rw [if_neg (by rw [h0]; simp)]
    exact ⟨fun f _ => hF.1 f, hnext _ _ _ _ _ hk (hr'.put undef_tup)⟩
  unfold wpStep at hw
  split at hw
  · rename_i hg
    rw [if_pos (by simp [Region.wanted, hg])]
    exact wpRun_sound hT hFT hF hY hw hr hnext
  · rename_i j b hg
    split at hw
    · rename_i t ht
      have hyd : (∀ v, a.tmps[t]? = some (.bool v) → yielded ops a.tmps j = some v) ∧ ((∀ v, a.tmps[t]? ≠ some (.bool v)) → yielded ops a.tmps j = none) := by
        unfold gtmp at ht
        split at ht
        · rename_i oj hoj
          have : ops[j]? = some oj := by simpa using hoj
          unfold yielded
          rw [this]
          simp only [Option.bind_some, ht]
          constructor
          · intro v hv; rw [hv]
          · intro hn
            split
            · rename_i v hv; exact absurd hv (hn v)
            · rfl
        · cases ht
      split at hw
      · rename_i v hv
        have hlt : t < s.tmps.length := (List.getElem?_eq_some_iff.1 hv).1
        have hd := hr.sat.T.tmp t _ hv
        have hav : a.tmps[t]? = some (.bool v) := by
          have hsz := hr.sat.T.size
          have : a.tmps.getD t undef = .bool v := by
            generalize a.tmps.getD t undef = u at hd
            cases hd with | im h0 => cases h0; rfl
          have hlt2 : t < a.tmps.size := by rw [hsz]; exact hlt
          rw [Array.getD_eq_getD_getElem?, Array.getElem?_eq_getElem hlt2] at this
          rw [Array.getElem?_eq_getElem hlt2]
          simpa using this
        have hy2 : yielded ops a.tmps j = some v := hyd.1 v hav
        have know : Reach X G st (s.setTmp (some t) (.bool v)) ρ lh a w := hr.know fun _ => hd
        have fin : (wpGuard T FT G Y o K t b v s).holds → (if Region.wanted o (yielded ops a.tmps) = true then o.wpIn F n P a w next Q else (∀ f, o.about P w a.eval = some f → F.fn f) ∧ next (a.put o.dst undef) w) := fun hw => by
          unfold wpGuard at hw
          split at hw
          · rename_i hvb
            rw [if_pos (by simp [Region.wanted, hg, hy2]; simpa using hvb)]
            exact wpRun_sound hT hFT hF hY hw know hnext
          · rename_i hvb
            exact skip (by simp [Region.wanted, hg, hy2]; simpa using hvb) know hw
        cases v
        · exact fin hw
        · exact fin hw
      · rename_i hv
        have hd := hr.sat.T.tmp t _ hv
        have hun : a.tmps.getD t undef = .tuple #[] := by
          generalize a.tmps.getD t undef = u at hd
          cases hd with
          | im h0 => cases h0
          | tup h => cases h; rfl
        refine skip ?_ hr hw
        have : yielded ops a.tmps j = none := hyd.2 fun v hv => by
          rw [Array.getD_eq_getD_getElem?, hv] at hun
          cases hun
        simp [Region.wanted, hg, this]
      · exact hw.elim
    · exact hw.elim

/-- Operations in the order of the text. -/
theorem wpSeq_sound {T : List TI} {FT : FTab} (hT : TabOK P T) (hFT : TabFOK P G FT) {F : Fence} (hF : Fence.open F) {n : Nat} {Q : Exit → Act → World → Prop} {Y : YH} (hY : YOK P X G st Y) {ops : Array Oper} {K : St → VT} : ∀ (l : List Oper) (i : Nat) (s : St) (ρ : Rho) (lh : Lam) (a : Act) (w : World),
    ops.toList.drop i = l → (wpSeq T FT G Y ops.toList l s K).holds → Reach X G st s ρ lh a w → (∀ s' ρ' lh' a' w', (K s').holds → Reach X G st s' ρ' lh' a' w' → Q .normal a' w') →
    wpOpsIn F n P ops Q (List.range' i (ops.size - i)) a w := by
  intro l
  induction l with
  | nil =>
    intro i s ρ lh a w hl hw hr hQ
    have : ops.size - i = 0 := by
      have := congrArg List.length hl
      simpa using this
    rw [this]
    exact hQ _ _ _ _ _ hw hr
  | cons o r ih =>
    intro i s ρ lh a w hl hw hr hQ
    have hlt : i < ops.size := by
      have := congrArg List.length hl
      simp at this; omega
    have hi : ops[i]? = some o := by
      have : (ops.toList.drop i)[0]? = some o := by rw [hl]; rfl
      rw [List.getElem?_drop] at this
      simpa using this
    rw [show ops.size - i = (ops.size - (i + 1)) + 1 by omega, List.range'_succ, wpOpsIn_cons]
    refine wpStep_sound hT hFT hF hY hi hw hr fun s' ρ' lh' a' w' hk hr' => ih (i + 1) s' ρ' lh' a' w' ?_ hk hr' hQ
    rw [← List.drop_drop, hl]; rfl
end
end Go.SE
/- Regions that draw their order of evaluation. -/
namespace Go.SE
open Go
section
variable {P : Program} {X : Nat → Prop} {G : List (Nat × SV)} {st : Start} {s : St} {ρ : Rho} {lh : Lam} {a : Act} {w : World} {fr : Nat}

theorem ev_congr {s s' : St} {x : Operand} (h : ∀ t, x = .tmp t → s.tmps[t]? = s'.tmps[t]?) : ev G s x = ev G s' x := by
  cases x with
  | tmp t => simp only [ev]; rw [h t rfl]
  | const v => rfl
  | global g => rfl
  | func f => rfl
theorem act_congr {T : List TI} {FT : FTab} {s s' : St} {o : Oper} (h : ∀ t ∈ opTmps o, s.tmps[t]? = s'.tmps[t]?) : act T FT G s fr o = act T FT G s' fr o := by
  have hx : ∀ x ∈ o.op.operands, ev G s x = ev G s' x := fun x hx => ev_congr fun t ht => h t (by
    subst ht
    exact List.mem_filterMap.2 ⟨.tmp t, by simpa using hx, rfl⟩)
  have hl : ∀ l : List Operand, (∀ x ∈ l, x ∈ o.op.operands) → evs G s l = evs G s' l := fun l hl => List.map_congr_left fun x hxl => hx x (hl x hxl)
  have hp : ∀ l : List (Nat × Operand), (∀ p ∈ l, p.2 ∈ o.op.operands) → evp G s l = evp G s' l := fun l hl => List.map_congr_left fun p hpl => by rw [hx p.2 (hl p hpl)]
  have ho : ∀ l : Option Operand, (∀ x ∈ l, x ∈ o.op.operands) → evo G s l = evo G s' l := fun l hl => by
    cases l with
    | none => rfl
    | some x => simp only [evo, Option.map_some]; rw [hx x (hl x rfl)]
  obtain ⟨dst, op, type, pos, after, guard⟩ := o
  unfold act
  cases op <;> dsimp only at hx hl hp ho ⊢ <;> try rfl
  case move x => rw [hx x (by simp [Op.operands])]
  case assign x => rw [hx x (by simp [Op.operands])]
  case pick c x y => rw [hx c (by simp [Op.operands]), hx x (by simp [Op.operands]), hx y (by simp [Op.operands])]
  case box t x => rw [hx x (by simp [Op.operands])]
  case build t ps => rw [hp ps.toList (fun p hp => by simp [Op.operands]; exact ⟨p.1, by simpa using hp⟩)]
  case buildSlice t n ps => rw [hp ps.toList (fun p hp => by simp [Op.operands]; exact ⟨p.1, by simpa using hp⟩)]
  case load t x => rw [hx x (by simp [Op.operands])]
  case store t x y => rw [hx x (by simp [Op.operands]), hx y (by simp [Op.operands])]
  case nilCheck x => rw [hx x (by simp [Op.operands])]
  case binOp b t x y z => rw [hx x (by simp [Op.operands]), hx y (by simp [Op.operands])]
  case unOp b t x => rw [hx x (by simp [Op.operands])]
  case convert a b x => rw [hx x (by simp [Op.operands])]
  case sliceToArrayPointer t x => rw [hx x (by simp [Op.operands])]
  case makeFunc fn first caps => cases fn <;> try rfl
                                 dsimp only
                                 rw [hl first.toList (fun x hx => by simp [Op.operands]; exact .inl (by simpa using hx)), hl caps.toList (fun x hx => by simp [Op.operands]; exact .inr (by simpa using hx))]
  case makeSlice t x y => rw [hx x (by simp [Op.operands]), hx y (by simp [Op.operands])]
  case slice t x lo hi mx => rw [hx x (by simp [Op.operands]), ho lo (fun y hy => by simp [Op.operands]; simp at hy; simp [hy]), ho hi (fun y hy => by simp [Op.operands]; simp at hy; simp [hy]), ho mx (fun y hy => by simp [Op.operands]; simp at hy; simp [hy])]
  case fieldAddr t x f => rw [hx x (by simp [Op.operands])]
  case field t x f => rw [hx x (by simp [Op.operands])]
  case indexAddr t x y => rw [hx x (by simp [Op.operands]), hx y (by simp [Op.operands])]
  case index t x y => rw [hx x (by simp [Op.operands]), hx y (by simp [Op.operands])]
  case extract t i => rw [hx t (by simp [Op.operands])]
  case call c =>
    have hargs : evs G s c.args.toList = evs G s' c.args.toList := hl c.args.toList (fun x hx => by
      cases hc : c.callee <;> simp [Op.operands, Call.operands, hc] <;> first | exact .inr (by simpa using hx) | exact (by simpa using hx))
    unfold callT
    cases hc : c.callee with
    | value f => dsimp only; rw [hx f (by simp [Op.operands, Call.operands, hc]), hargs]
    | invoke r m => rfl
    | builtin b => dsimp only; rw [hargs]

/-- What an operation of a part does. -/
inductive OpOK (T : List TI) (FT : FTab) (G : List (Nat × SV)) (ops : List Oper) (s : St) (o : Oper) (fr : Nat) : Info → Prop
  | run {tr : List Tmp} {e : Eff} {rd : List Nat} (hg : GOn ops s o tr) (htr : ∀ t ∈ opTmps o, t ∈ tr) (hok : (act T FT G s fr o).Ok s.blk e rd) (hn : e.new.length ≤ 8) : OpOK T FT G ops s o fr ⟨o.dst, tr, e, rd.reverse, fr⟩
  | skip {tr : List Tmp} (hg : GOff ops s o tr) : OpOK T FT G ops s o fr ⟨o.dst, tr, ⟨.tup [], [], [], []⟩, [], fr⟩
/-- The canonical run of a part of a region. -/
inductive SegOK (T : List TI) (FT : FTab) (G : List (Nat × SV)) (ops : List Oper) : List Oper → Nat → St → List Info → Prop
  | nil (fr : Nat) (s : St) : SegOK T FT G ops [] fr s []
  | cons {o : Oper} {r : List Oper} {fr : Nat} {s : St} {x : Info} {xs : List Info} (hx : OpOK T FT G ops s o fr x)
      (hr : SegOK T FT G ops r (fr + 8) (s.info x) xs) : SegOK T FT G ops (o :: r) fr s (x :: xs)
theorem segRun_ok {T : List TI} {FT : FTab} {ops : List Oper} : ∀ (l : List Oper) (fr : Nat) (s : St) (acc : List Info) (K : St → List Info → VT), (segRun T FT G ops l fr s acc K).holds →
    ∃ xs, SegOK T FT G ops l fr s xs ∧ (K (xs.foldl St.info s) (acc ++ xs)).holds := by
  intro l
  induction l with
  | nil => intro fr s acc K h; exact ⟨[], .nil _ _, by rw [List.append_nil]; exact h⟩
  | cons o r ih =>
    intro fr s acc K h
    have run : ∀ (tr : List Tmp), GOn ops s o tr → (∀ t ∈ opTmps o, t ∈ tr) →
        ((act T FT G s fr o).vt s.blk [] fun e rd => match decide (e.new.length ≤ 8) with
          | true => segRun T FT G ops r (fr + 8) (s.app fr e o.dst) (acc ++ [⟨o.dst, tr, e, rd, fr⟩]) K
          | false => .fail).holds → ∃ xs, SegOK T FT G ops (o :: r) fr s xs ∧ (K (xs.foldl St.info s) (acc ++ xs)).holds := by
      intro tr hg htr h
      obtain ⟨e, rd', hok, hk⟩ := Tr.ok_of_vt h
      rw [List.append_nil] at hk
      split at hk
      · rename_i hn
        obtain ⟨xs, h1, h2⟩ := ih _ _ _ _ hk
        exact ⟨_ :: xs, .cons (.run hg htr hok (of_decide_eq_true hn)) h1, by simpa [List.append_assoc, St.info] using h2⟩
      · exact hk.elim
    have skip : ∀ (tr : List Tmp), GOff ops s o tr → (segRun T FT G ops r (fr + 8) (s.app fr ⟨.tup [], [], [], []⟩ o.dst) (acc ++ [⟨o.dst, tr, ⟨.tup [], [], [], []⟩, [], fr⟩]) K).holds →
        ∃ xs, SegOK T FT G ops (o :: r) fr s xs ∧ (K (xs.foldl St.info s) (acc ++ xs)).holds := by
      intro tr hg h
      obtain ⟨xs, h1, h2⟩ := ih _ _ _ _ h
      exact ⟨_ :: xs, .cons (.skip hg) h1, by simpa [List.append_assoc, St.info] using h2⟩
    simp only [segRun] at h
    split at h
    · rename_i hg
      exact run _ (.inl hg) (fun _ h => h) h
    · rename_i j b hg
      split at h
      · rename_i t ht
        split at h
        · rename_i v hv
          have on : v = b → GOn ops s o (t :: opTmps o) := fun e => .inr ⟨j, b, t, hg, ht, by rw [hv, e], by simp⟩
          have off : v = !b → GOff ops s o [t] := fun e => ⟨j, b, t, hg, ht, .inl (by rw [hv, e]), by simp⟩
          cases v <;> cases b
          · have h' := h
            simp only [VT.holds, bsplit, St.setTmp_self hv] at h'
            exact run _ (on rfl) (fun _ h => List.mem_cons_of_mem _ h) h'
          · have h' := h
            simp only [VT.holds, bsplit, St.setTmp_self hv] at h'
            exact skip _ (off rfl) h'
          · have h' := h
            simp only [VT.holds, bsplit, St.setTmp_self hv] at h'
            exact skip _ (off rfl) h'
          · have h' := h
            simp only [VT.holds, bsplit, St.setTmp_self hv] at h'
            exact run _ (on rfl) (fun _ h => List.mem_cons_of_mem _ h) h'
        · rename_i hv
          exact skip _ ⟨j, b, t, hg, ht, .inr hv, by simp⟩ h
        · exact h.elim
      · exact h.elim
theorem SegOK.length {T : List TI} {FT : FTab} {ops : List Oper} {l : List Oper} {fr : Nat} {s : St} {xs : List Info} (h : SegOK T FT G ops l fr s xs) : xs.length = l.length := by
  induction h with
  | nil => rfl
  | cons _ _ ih => simp [ih]
theorem SegOK.get {T : List TI} {FT : FTab} {ops : List Oper} {l : List Oper} {fr : Nat} {s : St} {xs : List Info} (h : SegOK T FT G ops l fr s xs) : ∀ {k : Nat} {o : Oper}, l[k]? = some o →
    ∃ x, xs[k]? = some x ∧ OpOK T FT G ops ((xs.take k).foldl St.info s) o (fr + 8 * k) x := by
  induction h with
  | nil => intro k o h; simp at h
  | @cons o r fr s x xs hx hr ih =>
    intro k o' hk
    cases k with
    | zero =>
      simp only [List.getElem?_cons_zero, Option.some.injEq] at hk
      subst hk
      exact ⟨x, rfl, hx⟩
    | succ k =>
      obtain ⟨x', h1, h2⟩ := ih (k := k) (by simpa using hk)
      refine ⟨x', by rw [List.getElem?_cons_succ, h1], ?_⟩
      rw [List.take_succ_cons, List.foldl_cons, show fr + 8 * (k + 1) = fr + 8 + 8 * k by omega]
      exact h2

theorem info_dummy (s : St) : s.info dummy = s := rfl
theorem runD_dummy (D : Nat → Bool) (xs : List Info) : ∀ (lo i : Nat) (s : St), runD D (List.replicate lo dummy ++ xs) i s = runD D xs (i + lo) s := by
  intro lo
  induction lo with
  | zero => intro i s; rfl
  | succ lo ih =>
    intro i s
    rw [List.replicate_succ, List.cons_append]
    simp only [runD]
    cases D i with
    | true => simp only [info_dummy]; rw [ih]; congr 1; omega
    | false => simp only []; rw [ih]; congr 1; omega
theorem runD_take : ∀ (xs : List Info) (k i : Nat) (s : St), runD (fun j => decide (j < i + k)) xs i s = (xs.take k).foldl St.info s := by
  intro xs
  induction xs with
  | nil => intro k i s; simp [runD]
  | cons x r ih =>
    intro k i s
    simp only [runD]
    cases k with
    | zero =>
      rw [show decide (i < i + 0) = false by simp]
      have := ih 0 (i + 1) s
      simp only [List.take_zero, List.foldl_nil] at this ⊢
      rw [← this]
      -- nothing is done at all
      have off : ∀ (l : List Info) (j : Nat) (D : Nat → Bool), (∀ m, j ≤ m → D m = false) → runD D l j s = s := by
        intro l
        induction l with
        | nil => intro j D _; rfl
        | cons y l ih2 => intro j D h; simp only [runD]; rw [h j (Nat.le_refl _)]; exact ih2 (j + 1) D fun m hm => h m (by omega)
      rw [off _ _ _ (fun m hm => by simp; omega), off _ _ _ (fun m hm => by simp; omega)]
    | succ k =>
      rw [show decide (i < i + (k + 1)) = true by simp]
      have := ih k (i + 1) (s.info x)
      rw [show i + 1 + k = i + (k + 1) by omega] at this
      simpa using this

/-- How many are left. -/
def cnt (D : Nat → Bool) : Nat → Nat
  | 0 => 0
  | h + 1 => cnt D h + (match D h with
    | true => 0
    | false => 1)
theorem cnt_congr {D D' : Nat → Bool} : ∀ (h : Nat), (∀ j, j < h → D j = D' j) → cnt D h = cnt D' h := by
  intro h
  induction h with
  | zero => intro _; rfl
  | succ h ih => intro hh; simp only [cnt]; rw [ih fun j hj => hh j (by omega), hh h (by omega)]
theorem cnt_set {D D' : Nat → Bool} {i : Nat} : ∀ (h : Nat), i < h → D i = false → D' i = true → (∀ j, j ≠ i → D' j = D j) → cnt D h = cnt D' h + 1 := by
  intro h
  induction h with
  | zero => intro hi; omega
  | succ h ih =>
    intro hi h0 h1 hne
    simp only [cnt]
    by_cases hh : i = h
    · subst hh
      rw [h0, h1, cnt_congr (D := D') (D' := D) i fun j hj => hne j (by omega)]
      rfl
    · rw [ih (by omega) h0 h1 hne, hne h (by omega)]
      omega
theorem cnt_zero {D : Nat → Bool} : ∀ (h : Nat), cnt D h = 0 → ∀ j, j < h → D j = true := by
  intro h
  induction h with
  | zero => intro _ j hj; omega
  | succ h ih =>
    intro hc j hj
    simp only [cnt] at hc
    cases hD : D h with
    | false => rw [hD] at hc; simp at hc
    | true =>
      rw [hD] at hc
      by_cases hjh : j = h
      · subst hjh; exact hD
      · exact ih (by simpa using hc) j (by omega)
theorem cnt_pos {D : Nat → Bool} : ∀ (h : Nat), cnt D h ≠ 0 → ∃ j, j < h ∧ D j = false ∧ ∀ k, k < j → D k = true := by
  intro h
  induction h with
  | zero => intro hc; exact absurd rfl hc
  | succ h ih =>
    intro hc
    by_cases h0 : cnt D h = 0
    · simp only [cnt, h0] at hc
      cases hD : D h with
      | true => rw [hD] at hc; exact absurd rfl hc
      | false => exact ⟨h, by omega, hD, fun k hk => cnt_zero h h0 k hk⟩
    · obtain ⟨j, h1, h2, h3⟩ := ih h0
      exact ⟨j, by omega, h2, h3⟩
theorem cnt_below {D : Nat → Bool} {lo : Nat} : ∀ (h : Nat), lo ≤ h → (∀ j, D j = decide (j < lo)) → cnt D h = h - lo := by
  intro h
  induction h with
  | zero => intro _ _; simp [cnt]
  | succ h ih =>
    intro hle hD
    simp only [cnt]
    rw [hD h]
    by_cases hl : lo = h + 1
    · subst hl
      rw [show decide (h < h + 1) = true by simp]
      have : ∀ m, m ≤ h + 1 → cnt D m = 0 := by
        intro m
        induction m with
        | zero => intro _; rfl
        | succ m ihm => intro hm; simp only [cnt]; rw [ihm (by omega), hD m, decide_eq_true (by omega)]; rfl
      rw [this h (by omega)]
      show 0 + 0 = _
      omega
    · rw [ih (by omega) hD, decide_eq_false (by omega)]
      show h - lo + 1 = _
      omega

/-- An operation whose predecessors are listed may come up. -/
theorem tidy_lt {ops : List Oper} (h : tidy ops = true) {i k : Nat} (hi : i < ops.length) (hk : k ∈ afters ops i) : k < i := by
  simp only [tidy, List.all_eq_true, List.mem_range, decide_eq_true_eq] at h
  exact h i hi k hk
theorem mem_afters {ops : Array Oper} {i : Nat} {o : Oper} (ho : ops[i]? = some o) {k : Nat} : k ∈ afters ops.toList i ↔ ∃ e ∈ o.after, Region.binds .any e = true ∧ e.on = k := by
  unfold afters
  rw [show ops.toList[i]? = some o by simpa using ho]
  simp only [List.mem_map, List.mem_filter, Array.mem_toList_iff]
  exact ⟨fun ⟨e, ⟨h1, h2⟩, h3⟩ => ⟨e, h1, h2, h3⟩, fun ⟨e, h1, h2, h3⟩ => ⟨e, ⟨h1, h2⟩, h3⟩⟩
theorem ready_iff {ops : Array Oper} {listed : Array Bool} (hsz : listed.size = ops.size) {i : Nat} : i ∈ Region.ready .any ops listed ↔ i < ops.size ∧ listed.getD i false = false ∧ ∀ k ∈ afters ops.toList i, listed.getD k false = true := by
  rw [mem_ready]
  constructor
  · rintro ⟨h0, o, ho, hall⟩
    have hlt : i < ops.size := (Array.getElem?_eq_some_iff.1 ho).1
    refine ⟨hlt, ?_, fun k hk => ?_⟩
    · rw [Array.getD_eq_getD_getElem?, Array.getElem?_eq_getElem (by omega)] at h0 ⊢
      simpa using h0
    · obtain ⟨e, h1, h2, rfl⟩ := (mem_afters ho).1 hk
      exact hall e h1 h2
  · rintro ⟨hlt, h0, hall⟩
    refine ⟨?_, ops[i], by simp [hlt], fun e he hb => hall _ ((mem_afters (o := ops[i]) (by simp [hlt])).2 ⟨e, he, hb, rfl⟩)⟩
    rw [Array.getD_eq_getD_getElem?, Array.getElem?_eq_getElem (by omega)] at h0 ⊢
    simpa using h0
theorem getD_set {listed : Array Bool} {i : Nat} (hi : i < listed.size) (j : Nat) : (listed.setIfInBounds i true).getD j false = if j = i then true else listed.getD j false := by
  by_cases h : j = i
  · subst h; simp [Array.getD_eq_getD_getElem?, hi]
  · rw [getD_set_ne false (Ne.symm h), if_neg h]

/-- What is done with the rest once a part is through. -/
def SegNext (P : Program) (X : Nat → Prop) (G : List (Nat × SV)) (st : Start) (F : Fence) (n : Nat) (Q : Exit → Act → World → Prop) (ops : Array Oper) (hi : Nat) (K : St → VT) : Prop :=
  ∀ s' ρ' lh' a' w', (K s').holds → Reach X G st s' ρ' lh' a' w' → ∀ listed : Array Bool, listed.size = ops.size → (∀ j, listed.getD j false = decide (j < hi)) → wpAnyIn F n P .any ops Q (ops.size - hi) listed a' w'

/-- Later operations hang on all the earlier ones. -/
def CutOK (ops : List Oper) (hi : Nat) : Prop := ∀ i j, j < hi → hi ≤ i → i < ops.length → isAnc ops ops.length j i = true
theorem cutAt_ok {ops : List Oper} {hi : Nat} (h : (decide (hi = ops.length) || cutAt ops hi) = true) : CutOK ops hi := by
  intro i j hj hle hlt
  rcases Bool.or_eq_true_iff.1 h with h | h
  · have := of_decide_eq_true h; omega
  · simp only [cutAt, List.all_eq_true, List.mem_range, Bool.or_eq_true, decide_eq_true_eq] at h
    rcases h j hj i hlt with h | h
    · omega
    · exact h

theorem wpSegm_sound {T : List TI} {FT : FTab} (hT : TabOK P T) (hFT : TabFOK P G FT) {F : Fence} (hF : Fence.open F) {n : Nat} {Q : Exit → Act → World → Prop} {ops : Array Oper} (htidy : tidy ops.toList = true) {lo hi : Nat} (hlo : lo < hi) (hhi : hi ≤ ops.size)
    (hcut : CutOK ops.toList hi) {K : St → VT} (hw : (wpSegm T FT G ops.toList lo hi s K).holds) (hr : Reach X G st s ρ lh a w) (hK : SegNext P X G st F n Q ops hi K) {listed : Array Bool} (hsz : listed.size = ops.size)
    (hl : ∀ j, listed.getD j false = decide (j < lo)) : wpAnyIn F n P .any ops Q (ops.size - lo) listed a w := by
  obtain ⟨xs, hseg, hk⟩ := segRun_ok _ _ _ _ _ hw
  rw [List.nil_append] at hk
  split at hk
  case h_2 => exact hk.elim
  rename_i hcl
  have hlen : xs.length = hi - lo := by rw [hseg.length]; simp; omega
  have hI := Indep.of_check hcl
  have hn : ops.toList.length = ops.size := by simp
  rw [hn] at hI
  have hlxs : (List.replicate lo dummy ++ xs).length = hi := by simp; omega
  -- the whole induction
  have main : ∀ (m : Nat) (listed : Array Bool) (ρ : Rho) (lh : Lam) (a : Act) (w : World), listed.size = ops.size → (∀ j, j < lo → listed.getD j false = true) → (∀ j, hi ≤ j → listed.getD j false = false) →
      Closed ops.toList (fun j => listed.getD j false) → cnt (fun j => listed.getD j false) hi = m →
      Reach X G st (runD (fun j => listed.getD j false) (List.replicate lo dummy ++ xs) 0 (s.raise (8 * (hi - lo)))) ρ lh a w →
      (∀ id, s.next ≤ id → ρ id ≠ none → ∃ k, lo + k < hi ∧ listed.getD (lo + k) false = true ∧ s.next + 8 * k ≤ id ∧ id < s.next + 8 * k + 8) →
      wpAnyIn F n P .any ops Q (m + (ops.size - hi)) listed a w := by
    intro m
    induction m with
    | zero =>
      intro listed ρ lh a w hsz h1 h2 hc hcnt hr hnames
      have hall := cnt_zero hi hcnt
      have hD : ∀ j, listed.getD j false = decide (j < hi) := fun j => by
        by_cases hj : j < hi
        · rw [hall j hj, decide_eq_true hj]
        · rw [h2 j (by omega), decide_eq_false hj]
      rw [Nat.zero_add]
      have : (fun j => listed.getD j false) = fun j => decide (j < 0 + lo + (hi - lo)) := funext fun j => by rw [hD j]; congr 1; rw [show 0 + lo + (hi - lo) = hi by omega]
      rw [this, runD_dummy, runD_take, List.take_of_length_le (by omega)] at hr
      exact hK _ _ _ _ _ hk hr listed hsz hD
    | succ m ih =>
      intro listed ρ lh a w hsz h1 h2 hc hcnt hr hnames
      rw [show m + 1 + (ops.size - hi) = (m + (ops.size - hi)) + 1 by omega]
      obtain ⟨j0, hj0, hD0, hbelow⟩ := cnt_pos (D := fun j => listed.getD j false) hi (by omega)
      have hj0s : j0 < ops.size := by omega
      refine ⟨fun hnil => ?_, fun i hi' => ?_⟩
      · have : j0 ∈ Region.ready .any ops listed := (ready_iff hsz).2 ⟨hj0s, hD0, fun k hk => hbelow k (tidy_lt htidy (by simpa using hj0s) hk)⟩
        rw [hnil] at this
        cases this
      · obtain ⟨hlt, hDi, haft⟩ := (ready_iff hsz).1 hi'
        have hilo : lo ≤ i := by
          rcases Nat.lt_or_ge i lo with h | h
          · rw [h1 i h] at hDi; cases hDi
          · exact h
        have hihi : i < hi := by
          rcases Nat.lt_or_ge i hi with h | h
          · exact h
          · have h5 : listed.getD j0 false = true := hc.anc haft (hcut i j0 hj0 h (by simpa using hlt))
            have h6 : listed.getD j0 false = false := hD0
            rw [h6] at h5; cases h5
        have ho : ops[i]? = some ops[i] := by simp [hlt]
        have hlk : ((ops.toList.drop lo).take (hi - lo))[i - lo]? = some ops[i] := by
          rw [List.getElem?_take, if_pos (by omega), List.getElem?_drop, show lo + (i - lo) = i by omega]
          simp [hlt]
        obtain ⟨x0, hx, hop⟩ := hseg.get hlk
        have hx' : (List.replicate lo dummy ++ xs)[i]? = some x0 := by
          rw [List.getElem?_append_right (by simpa using hilo), List.length_replicate]; exact hx
        have hcanon : runD (fun j => decide (j < i)) (List.replicate lo dummy ++ xs) 0 (s.raise (8 * (hi - lo))) = (xs.take (i - lo)).foldl St.info (s.raise (8 * (hi - lo))) := by
          rw [runD_dummy]
          have := runD_take xs (i - lo) (0 + lo) (s.raise (8 * (hi - lo)))
          rw [show 0 + lo + (i - lo) = i by omega] at this
          exact this
        obtain ⟨r1, r2⟩ := reads_same (s := s.raise (8 * (hi - lo))) hI hc hx' hDi haft
        rw [hcanon] at r1 r2
        have hrest := runD_rest (fun j => listed.getD j false) (List.replicate lo dummy ++ xs) 0 (s.raise (8 * (hi - lo)))
        have hfree : Free (runD (fun j => listed.getD j false) (List.replicate lo dummy ++ xs) 0 (s.raise (8 * (hi - lo)))) ρ (s.next + 8 * (i - lo)) := by
          refine ⟨by rw [hrest.2.1]; simp only [St.raise]; omega, fun j hj1 hj2 => ?_⟩
          cases hρ : ρ j with
          | none => rfl
          | some r =>
            obtain ⟨k, hk1, hk2, hk3, hk4⟩ := hnames j (by omega) (by rw [hρ]; simp)
            have : i - lo = k := by omega
            subst this
            rw [show lo + (i - lo) = i by omega] at hk2
            rw [hDi] at hk2; cases hk2
        unfold wpOpIn
        rw [ho]
        dsimp only
        suffices hfin : ∀ a' w' ρ', Reach X G st ((runD (fun j => listed.getD j false) (List.replicate lo dummy ++ xs) 0 (s.raise (8 * (hi - lo)))).info x0) ρ' lh a' w' →
            (∀ id, ρ' id ≠ none → ρ id ≠ none ∨ (s.next + 8 * (i - lo) ≤ id ∧ id < s.next + 8 * (i - lo) + 8)) → wpAnyIn F n P .any ops Q (m + (ops.size - hi)) (listed.setIfInBounds i true) a' w' by
          cases hop with
          | @run tr e rd hg htr hok hn8 =>
            have hok' := hok
            rw [← act_congr (s := runD (fun j => listed.getD j false) (List.replicate lo dummy ++ xs) 0 (s.raise (8 * (hi - lo)))) (fun t ht => r1 t (htr t ht))] at hok'
            have hok2 := hok'.local (h' := (runD (fun j => listed.getD j false) (List.replicate lo dummy ++ xs) 0 (s.raise (8 * (hi - lo)))).blk) fun id hid => r2 id (by simpa using hid)
            have hon : GOn ops.toList (runD (fun j => listed.getD j false) (List.replicate lo dummy ++ xs) 0 (s.raise (8 * (hi - lo)))) ops[i] tr := by
              rcases hg with hg | ⟨j, b, t, g1, g2, g3, g4⟩
              · exact .inl hg
              · exact .inr ⟨j, b, t, g1, g2, by rw [r1 t g4]; exact g3, g4⟩
            rw [if_pos (wanted_on hon hr)]
            refine act_sound hT hFT hF hr.sat hfree hok2 fun v w' hd => ?_
            obtain ⟨ρ', hr', hnm⟩ := hr.does (dst := ops[i].dst) hd
            exact hfin _ _ ρ' hr' hnm
          | @skip tr hg =>
            have hoff : GOff ops.toList (runD (fun j => listed.getD j false) (List.replicate lo dummy ++ xs) 0 (s.raise (8 * (hi - lo)))) ops[i] tr := by
              obtain ⟨j, b, t, g1, g2, g3, g4⟩ := hg
              exact ⟨j, b, t, g1, g2, by rw [r1 t g4]; exact g3, g4⟩
            rw [if_neg (by rw [wanted_off hoff hr]; simp)]
            exact ⟨fun f _ => hF.1 f, hfin _ _ ρ (hr.put (Den.tup .nil)) fun id h => .inl h⟩
        intro a' w' ρ' hr' hnm
        have hset := getD_set (listed := listed) (i := i) (by omega)
        have hDi' : (listed.setIfInBounds i true).getD i false = true := by rw [hset, if_pos rfl]
        have hne : ∀ j, j ≠ i → (listed.setIfInBounds i true).getD j false = listed.getD j false := fun j hj => by rw [hset, if_neg hj]
        have hveq := runD_add (s := s.raise (8 * (hi - lo))) (D' := fun j => (listed.setIfInBounds i true).getD j false) hI hc hx' hDi hDi' hne
        refine ih (listed.setIfInBounds i true) ρ' lh _ w' (by simpa using hsz) (fun j hj => ?_) (fun j hj => ?_) ?_ ?_ (Reach.veq hr' hveq) ?_
        · rw [hset]; split
          · rfl
          · exact h1 j hj
        · rw [hne j (by omega)]; exact h2 j hj
        · intro j hj k hk
          have hj' : (listed.setIfInBounds i true).getD j false = true := hj
          show (listed.setIfInBounds i true).getD k false = true
          rw [hset] at hj' ⊢
          split
          · rfl
          · split at hj'
            · rename_i hji; subst hji; exact haft k hk
            · exact hc j hj' k hk
        · have := cnt_set (D := fun j => listed.getD j false) (D' := fun j => (listed.setIfInBounds i true).getD j false) hi hihi hDi hDi' hne
          omega
        · intro id hid hne0
          rcases hnm id hne0 with h | ⟨h3, h4⟩
          · obtain ⟨k, k1, k2, k3, k4⟩ := hnames id hid h
            refine ⟨k, k1, ?_, k3, k4⟩
            rw [hset]; split
            · rfl
            · exact k2
          · exact ⟨i - lo, by omega, by rw [show lo + (i - lo) = i by omega]; exact hDi', h3, by omega⟩
  have h0 := main (hi - lo) listed ρ lh a w hsz (fun j hj => by rw [hl j, decide_eq_true hj]) (fun j hj => by rw [hl j, decide_eq_false (by omega)])
    (fun j hj k hk => by
      have hj : listed.getD j false = true := hj
      show listed.getD k false = true
      rw [hl] at hj ⊢
      have hj := of_decide_eq_true hj
      have := tidy_lt htidy (by simp; omega) hk
      exact decide_eq_true (by omega))
    (cnt_below hi (by omega) hl) ?_ ?_
  · rwa [show hi - lo + (ops.size - hi) = ops.size - lo by omega] at h0
  · have : (fun j => listed.getD j false) = fun j => decide (j < 0 + lo + 0) := funext fun j => by rw [hl j]; simp
    rw [this, runD_dummy, runD_take, List.take_zero]
    exact hr.raise _
  · intro id hid hne
    cases hρ : ρ id with
    | none => exact absurd hρ hne
    | some r => have := hr.sat.H.nxt id r hρ; omega

/-- The parts one after the other. -/
theorem wpCuts_sound {T : List TI} {FT : FTab} (hT : TabOK P T) (hFT : TabFOK P G FT) {F : Fence} (hF : Fence.open F) {n : Nat} {Q : Exit → Act → World → Prop} {Y : YH} (hY : YOK P X G st Y) {ops : Array Oper} (htidy : tidy ops.toList = true) {K : St → VT}
    (hQ : ∀ s' ρ' lh' a' w', (K s').holds → Reach X G st s' ρ' lh' a' w' → Q .normal a' w') : ∀ (cuts : List Nat) (lo : Nat) (s : St) (ρ : Rho) (lh : Lam) (a : Act) (w : World),
    (wpCuts T FT G Y ops.toList lo cuts s K).holds → Reach X G st s ρ lh a w → ∀ listed : Array Bool, listed.size = ops.size → (∀ j, listed.getD j false = decide (j < lo)) → wpAnyIn F n P .any ops Q (ops.size - lo) listed a w := by
  intro cuts
  induction cuts with
  | nil =>
    intro lo s ρ lh a w hw hr listed hsz hl
    simp only [wpCuts] at hw
    split at hw
    · rename_i hlo
      have hlo := of_decide_eq_true hlo
      have hlo : lo = ops.size := by simpa using hlo
      refine wpAnyIn_done ?_ (hQ _ _ _ _ _ hw hr) _
      rw [List.eq_nil_iff_forall_not_mem]
      intro i hi
      obtain ⟨h1, h2, _⟩ := (ready_iff hsz).1 hi
      rw [hl, decide_eq_true (by omega)] at h2
      cases h2
    · exact hw.elim
  | cons hi r ih =>
    intro lo s ρ lh a w hw hr listed hsz hl
    simp only [wpCuts] at hw
    split at hw
    · rename_i hc
      simp only [Bool.and_eq_true, decide_eq_true_eq] at hc
      obtain ⟨⟨hlo, hhi⟩, hcut⟩ := hc
      have hhi : hi ≤ ops.size := by simpa using hhi
      have hcut := cutAt_ok hcut
      have hK : SegNext P X G st F n Q ops hi (fun s' => wpCuts T FT G Y ops.toList hi r s' K) := fun s' ρ' lh' a' w' hk hr' listed' hsz' hl' => ih hi s' ρ' lh' a' w' hk hr' listed' hsz' hl'
      split at hw
      · rename_i o h1 ho
        have h1 := of_decide_eq_true h1
        subst h1
        have ho : ops[lo]? = some o := by simpa using ho
        have hlt : lo < ops.size := by omega
        rw [show ops.size - lo = (ops.size - (lo + 1)) + 1 by omega]
        have hready : lo ∈ Region.ready .any ops listed := (ready_iff hsz).2 ⟨hlt, by rw [hl, decide_eq_false (by omega)], fun k hk => by rw [hl, decide_eq_true (tidy_lt htidy (by simpa using hlt) hk)]⟩
        refine ⟨fun hnil => (by rw [hnil] at hready; cases hready), fun i hi' => ?_⟩
        obtain ⟨hlt', hDi, haft⟩ := (ready_iff hsz).1 hi'
        have hclosed : Closed ops.toList (fun j => listed.getD j false) := fun j hj k hk => by
          have hj : listed.getD j false = true := hj
          show listed.getD k false = true
          rw [hl] at hj ⊢
          have hj := of_decide_eq_true hj
          have := tidy_lt htidy (by simp; omega) hk
          exact decide_eq_true (by omega)
        have hil : i = lo := by
          rw [hl] at hDi
          have h3 := of_decide_eq_false hDi
          rcases Nat.lt_or_ge lo i with h | h
          · have h5 : listed.getD lo false = true := hclosed.anc haft (hcut i lo (by omega) (by omega) (by simpa using hlt'))
            rw [hl, decide_eq_false (by omega)] at h5; cases h5
          · omega
        subst hil
        refine wpStep_sound hT hFT hF hY ho hw hr fun s' ρ' lh' a' w' hk hr' => ih (i + 1) s' ρ' lh' a' w' hk hr' _ (by simpa using hsz) fun j => ?_
        rw [getD_set (by omega), hl]
        by_cases hj : j = i
        · simp [hj]
        · rw [if_neg hj]
          congr 1
          rw [eq_iff_iff]; omega
      · exact wpSegm_sound hT hFT hF htidy hlo hhi hcut hw hr hK hsz hl
    · exact hw.elim

/-- A region. -/
theorem wpRegion_sound (hmix : P.follows .mixedOrders = true) {T : List TI} {FT : FTab} (hT : TabOK P T) (hFT : TabFOK P G FT) {F : Fence} (hF : Fence.open F) {n : Nat} {Q : Exit → Act → World → Prop} {Y : YH} (hY : YOK P X G st Y) {id : Nat} {ops : Array Oper} {draw : Bool} {K : St → VT}
    (hw : (wpRegion T FT G Y ops.toList draw s K).holds) (hr : Reach X G st s ρ lh a w) (hQ : ∀ s' ρ' lh' a' w', (K s').holds → Reach X G st s' ρ' lh' a' w' → Q .normal a' w') : (Code.region id ops draw).wpIn F n P Q a w := by
  cases draw with
  | false =>
    refine wpIn_region ?_
    have := wpSeq_sound (n := n) hT hFT hF hY (ops := ops) ops.toList 0 s ρ lh a w rfl hw hr hQ
    rwa [Nat.sub_zero, ← List.range_eq_range'] at this
  | true =>
    simp only [wpRegion] at hw
    split at hw
    · rename_i ht
      refine wpIn_region_any hmix ?_
      have hr' : Reach X G st s ρ lh a { w with drawn := w.drawn + 1 } := by
        refine ⟨⟨hr.sat.H.of_heap rfl ⟨rfl, rfl⟩, ?_⟩, ?_, hr.hN, hr.hM, hr.hc, hr.dm⟩
        · exact hr.sat.T.stab (Stab.of_heap _ rfl) (Le.refl _) (Le.refl _) rfl
        · exact hr.ev.trans (Goes.of_heap rfl ⟨rfl, rfl⟩) hr.hN hr.hM
      have := wpCuts_sound (n := n) hT hFT hF hY ht hQ _ 0 s ρ lh a _ hw hr' (Array.replicate ops.size false) (by simp) (fun j => by
        rw [Array.getD_eq_getD_getElem?, Array.getElem?_replicate]
        split <;> simp)
      rwa [Nat.sub_zero] at this
    · exact hw.elim
end
end Go.SE
/- A state seen as another one: names changed, contents by equations. -/
namespace Go.SE
open Go

/-- Which name of the new state names which block of the old one; none: no block. -/
abbrev Ren := List (Nat × Option Nat)
abbrev MK := Ren → VT
def bind (m : Ren) (id' : Nat) (o : Option Nat) (K : MK) : VT := match look m id' with
  | none => K ((id', o) :: m)
  | some o' => match decide (o' = o) with
    | true => K m
    | false => .fail
def mList (f : SV → SV → Ren → MK → VT) : List SV → List SV → Ren → MK → VT
  | [], [], m, K => K m
  | x :: xs, y :: ys, m, K => f x y m fun m => mList f xs ys m K
  | _, _, _, _ => .fail
def mSegs (f : SV → SV → Ren → MK → VT) : List Seg → List Seg → Ren → MK → VT
  | [], [], m, K => K m
  | _, [.spare], m, K => K m
  | .one x :: xs, .one y :: ys, m, K => f x y m fun m => mSegs f xs ys m K
  | .b8s n u :: xs, .b8s n' u' :: ys, m, K => .vc (n = n' ∧ u = u') (mSegs f xs ys m K)
  | .b32s n u :: xs, .b32s n' u' :: ys, m, K => .vc (n = n' ∧ u = u') (mSegs f xs ys m K)
  | .ints n u :: xs, .ints n' u' :: ys, m, K => .vc (n = n' ∧ u = u') (mSegs f xs ys m K)
  | .rows n u :: xs, .rows n' u' :: ys, m, K => .vc (n = n' ∧ u = u') (mSegs f xs ys m K)
  | _, _, _, _ => .fail
def mSV : Nat → SV → SV → Ren → MK → VT
  | 0, _, _, _, _ => .fail
  | f + 1, x, y, m, K => match x, y with
    | _, .any => K m
    | .bool a, .bool b => .vc (a = b) (K m)
    | .int a, .int b => .vc (a = b) (K m)
    | .b8 a, .b8 b => .vc (a = b) (K m)
    | .b16 a, .b16 b => .vc (a = b) (K m)
    | .b32 a, .b32 b => .vc (a = b) (K m)
    | .b64 a, .b64 b => .vc (a = b) (K m)
    | .str a, .str b => .vc (a = b) (K m)
    | .nilp, .nilp => K m
    | .nilf, .nilf => K m
    | .nils, .nils => K m
    | .ptr id b, .ptr id' b' => match decide (b = b') with
      | true => bind m id' (some id) K
      | false => .fail
    | .ptri id b i, .ptri id' b' i' => .vc (b = b' ∧ i = i') (bind m id' (some id) K)
    | .ip o b, .ip o' b' => .vc (o = o' ∧ b = b') (K m)
    | .ipi o b i, .ipi o' b' i' => .vc (o = o' ∧ b = b' ∧ i = i') (K m)
    | .nils, .os id' _ n' => .vc (n' = 0) (bind m id' none K)
    | .nils, .osub id' _ _ n' => .vc (n' = 0) (bind m id' none K)
    | .os id es n, .os id' es' n' => match decide (es = es') with
      | true => .vc (n = n') (bind m id' (some id) K)
      | false => .fail
    | .os id es n, .osub id' es' o' n' => match decide (es = es') with
      | true => .vc (0 = o' ∧ n = n') (bind m id' (some id) K)
      | false => .fail
    | .osub id es o n, .osub id' es' o' n' => match decide (es = es') with
      | true => .vc (o = o' ∧ n = n') (bind m id' (some id) K)
      | false => .fail
    | .sl es n g, .sl es' n' g' => .vc (es = es' ∧ n = n' ∧ g = g') (K m)
    | .nils, .sl es' n' g' => .vc (n' = 0 ∧ g' = .b8s 0 []) (match decide (es' = 1) with
      | true => K m
      | false => .fail)
    | .fn g a b, .fn g' a' b' => match decide (g = g') with
      | true => mList (mSV f) a a' m fun m => mList (mSV f) b b' m K
      | false => .fail
    | .yv L, .yv L' => match decide (L = L') with
      | true => K m
      | false => .fail
    | .agg o, .agg o' => mSegs (mSV f) o o' m K
    | .tup a, .tup a' => mList (mSV f) a a' m K
    | _, _ => .fail
/-- Parts that are none. -/
def mNone : List Seg → VT → VT
  | [], K => K
  | [.spare], K => K
  | .b8s n u :: xs, K => .vc (n = 0 ∧ u = []) (mNone xs K)
  | .b32s n u :: xs, K => .vc (n = 0 ∧ u = []) (mNone xs K)
  | .ints n u :: xs, K => .vc (n = 0 ∧ u = []) (mNone xs K)
  | .rows n u :: xs, K => .vc (n = 0 ∧ u = []) (mNone xs K)
  | _, _ => .fail
def mBlk (s : St) (id : Nat) (g' : List Seg) (m : Ren) (K : MK) : VT := match s.blk id with
  | some g => mSegs (mSV 8) g g' m K
  | none => .fail
def mHeap (s : St) : List (Nat × List Seg) → Ren → MK → VT
  | [], m, K => K m
  | (id', g') :: r, m, K => match look m id' with
    | some (some id) => mBlk s id g' m fun m => mHeap s r m K
    | some none => mNone g' (mHeap s r m K)
    | none => mBlk s id' g' ((id', some id') :: m) fun m => mHeap s r m K
/-- The loops under way are as they were. -/
def hsOK (lo : Nat) : List (Nat × Hd) → List (Nat × Hd) → Bool
  | [], [] => true
  | (L, h) :: r, (L', h') :: r' => decide (L = L') && (decide (h.lim ≤ lo) && (decide (h.st = h'.st) && ((match h.pend, h'.pend with
    | none, none => true
    | _, _ => false) && hsOK lo r r')))
  | _, _ => false
/-- No two names name the same; the low names are kept; all are below the next one. -/
def inRange (lo nx : Nat) : Ren → Bool
  | [] => true
  | (a, o) :: r => decide (a < nx) && ((decide (lo ≤ a) || decide (o = some a)) && (!r.any (fun p => decide (p.1 = a) || (decide (p.2 = o) && o.isSome)) && inRange lo nx r))
def wk (lo : Nat) (s t : St) (K : VT) : VT := mList (mSV 8) s.tmps t.tmps [] fun m => mHeap s t.heap m fun m => match inRange lo t.next m && (decide (lo ≤ t.next) && (decide (t.nh = s.nh) && hsOK lo s.hs t.hs)) with
  | true => K
  | false => .fail

def Ren.sub (m m' : Ren) : Prop := ∀ id o, look m id = some o → look m' id = some o
theorem Ren.sub_refl (m : Ren) : Ren.sub m m := fun _ _ h => h
theorem Ren.sub_trans {a b c : Ren} (h : Ren.sub a b) (h' : Ren.sub b c) : Ren.sub a c := fun _ _ e => h' _ _ (h _ _ e)
theorem bind_ok {m : Ren} {id' : Nat} {o : Option Nat} {K : MK} (h : (bind m id' o K).holds) : ∃ m', Ren.sub m m' ∧ look m' id' = some o ∧ (K m').holds := by
  unfold bind at h
  split at h
  · rename_i hn
    refine ⟨_, fun i o' e => ?_, by simp [look], h⟩
    rw [look_cons]
    split
    · rename_i hi; subst hi; rw [hn] at e; cases e
    · exact e
  · rename_i o' ho
    split at h
    · rename_i hd
      rw [of_decide_eq_true hd] at ho
      exact ⟨m, Ren.sub_refl m, ho, h⟩
    · exact h.elim

section
variable {w : World} {own own' : Nat → Prop} {ρ ρ' : Rho} {lh : Lam}
/-- The new names agree with the map. -/
def RenOK (m : Ren) (ρ ρ' : Rho) : Prop := ∀ id' o, look m id' = some o → match o with
  | some id => ρ' id' = ρ id
  | none => ρ' id' = some (0, 0)
theorem RenOK.sub {m m' : Ren} (h : RenOK m' ρ ρ') (hs : Ren.sub m m') : RenOK m ρ ρ' := fun id o e => h id o (hs id o e)

/-- What a match says of one value. -/
def Good (w : World) (own own' : Nat → Prop) (ρ ρ' : Rho) (lh : Lam) (x y : SV) : Prop := ∀ v, Den w own ρ lh x v → Den w own' ρ' lh y v
def FOK (f : SV → SV → Ren → MK → VT) : Prop := ∀ x y m K, (f x y m K).holds → ∃ m', Ren.sub m m' ∧ (K m').holds ∧ ∀ (w : World) (own own' : Nat → Prop) (ρ ρ' : Rho) (lh : Lam), (∀ b, own' b → own b) → RenOK m' ρ ρ' → Good w own own' ρ ρ' lh x y

theorem mList_ok {f : SV → SV → Ren → MK → VT} (hf : FOK f) : ∀ (xs ys : List SV) (m : Ren) (K : MK), (mList f xs ys m K).holds → ∃ m', Ren.sub m m' ∧ (K m').holds ∧ xs.length = ys.length ∧ ∀ (w : World) (own own' : Nat → Prop) (ρ ρ' : Rho) (lh : Lam), (∀ b, own' b → own b) → RenOK m' ρ ρ' →
    ((∀ l, DenL w own ρ lh xs l → DenL w own' ρ' lh ys l) ∧ ∀ (i : Nat) (y : SV), ys[i]? = some y → ∃ x, xs[i]? = some x ∧ Good w own own' ρ ρ' lh x y) := by
  intro xs
  induction xs with
  | nil =>
    intro ys m K h
    cases ys with
    | nil => exact ⟨m, Ren.sub_refl m, h, rfl, fun w own own' ρ ρ' lh _ _ => ⟨fun l hl => by cases hl; exact .nil, fun i y hy => by simp at hy⟩⟩
    | cons _ _ => exact h.elim
  | cons x xs ih =>
    intro ys m K h
    cases ys with
    | nil => exact h.elim
    | cons y ys =>
      simp only [mList] at h
      obtain ⟨m1, h1, h2, h3⟩ := hf x y m _ h
      obtain ⟨m2, h4, h5, h6, h7⟩ := ih ys m1 K h2
      refine ⟨m2, Ren.sub_trans h1 h4, h5, by simp [h6], fun w own own' ρ ρ' lh ho hr => ?_⟩
      have g1 := h3 w own own' ρ ρ' lh ho (hr.sub h4)
      obtain ⟨g2, g3⟩ := h7 w own own' ρ ρ' lh ho hr
      refine ⟨fun l hl => ?_, fun i y' hy => ?_⟩
      · cases hl with
        | cons a b => exact .cons (g1 _ a) (g2 _ b)
      · cases i with
        | zero => simp only [List.getElem?_cons_zero, Option.some.injEq] at hy; subst hy; exact ⟨x, rfl, g1⟩
        | succ i => simpa using g3 i y' (by simpa using hy)

theorem DenS0.sub (h : ∀ b, own' b → own b) {o : List Seg} {l : List Value} (hd : DenS0 w own o l) : DenS0 w own' o l := hd.stab (Stab.of_sub h)
theorem mSegs_ok {f : SV → SV → Ren → MK → VT} (hf : FOK f) : ∀ (xs ys : List Seg) (m : Ren) (K : MK), (mSegs f xs ys m K).holds → ∃ m', Ren.sub m m' ∧ (K m').holds ∧ ∀ (w : World) (own own' : Nat → Prop) (ρ ρ' : Rho) (lh : Lam), (∀ b, own' b → own b) → RenOK m' ρ ρ' →
    ∀ l, DenS w own ρ lh xs l → DenS w own' ρ' lh ys l := by
  intro xs
  have spare : ∀ (xs : List Seg) (m : Ren) (K : MK), (K m).holds → ∃ m', Ren.sub m m' ∧ (K m').holds ∧ ∀ (w : World) (own own' : Nat → Prop) (ρ ρ' : Rho) (lh : Lam), (∀ b, own' b → own b) → RenOK m' ρ ρ' →
      ∀ l, DenS w own ρ lh xs l → DenS w own' ρ' lh [.spare] l := fun xs m K h => ⟨m, Ren.sub_refl m, h, fun w own own' ρ ρ' lh _ _ l hl => by
    have := DenS.seg (w := w) (own := own') (ρ := ρ') (lh := lh) (DenS0.spare hl.oneCell) .nil
    rwa [List.append_nil] at this⟩
  induction xs with
  | nil =>
    intro ys m K h
    cases ys with
    | nil => exact ⟨m, Ren.sub_refl m, h, fun w own own' ρ ρ' lh _ _ l hl => by cases hl; exact .nil⟩
    | cons y ys =>
      cases y with
      | spare => cases ys with
        | nil => exact spare _ _ _ h
        | cons _ _ => exact h.elim
      | _ => exact h.elim
  | cons x xs ih =>
    intro ys m K h
    have typed : ∀ (g : Seg) (ys : List Seg), (∀ v, x ≠ .one v) → g = x → (mSegs f xs ys m K).holds → ∃ m', Ren.sub m m' ∧ (K m').holds ∧ ∀ (w : World) (own own' : Nat → Prop) (ρ ρ' : Rho) (lh : Lam), (∀ b, own' b → own b) → RenOK m' ρ ρ' →
        ∀ l, DenS w own ρ lh (x :: xs) l → DenS w own' ρ' lh (g :: ys) l := fun g ys hne hg hk => by
      obtain ⟨m1, h1, h2, h3⟩ := ih ys m K hk
      subst hg
      refine ⟨m1, h1, h2, fun w own own' ρ ρ' lh ho hr l hl => ?_⟩
      obtain ⟨l1, l2, rfl, d1, d2⟩ := hl.inv_seg hne
      exact .seg (d1.sub ho) (h3 w own own' ρ ρ' lh ho hr _ d2)
    cases ys with
    | nil => cases x <;> exact h.elim
    | cons y ys =>
      cases y with
      | spare => cases ys with
        | nil => refine spare _ _ _ ?_; cases x <;> exact h
        | cons _ _ => cases x <;> exact h.elim
      | one b =>
        cases x with
        | one a =>
          obtain ⟨m1, h1, h2, h3⟩ := hf _ _ m _ h
          obtain ⟨m2, h4, h5, h6⟩ := ih _ m1 K h2
          refine ⟨m2, Ren.sub_trans h1 h4, h5, fun w own own' ρ ρ' lh ho hr l hl => ?_⟩
          obtain ⟨u, l2, rfl, d1, d2, d3⟩ := hl.inv_one
          exact .one (h3 w own own' ρ ρ' lh ho (hr.sub h4) _ d1) d2 (h6 w own own' ρ ρ' lh ho hr _ d3)
        | _ => exact h.elim
      | ints n u => cases x with
        | ints n u => obtain ⟨⟨rfl, rfl⟩, h⟩ := h; exact typed _ _ (by simp) rfl h
        | _ => exact h.elim
      | b8s n u => cases x with
        | b8s n u => obtain ⟨⟨rfl, rfl⟩, h⟩ := h; exact typed _ _ (by simp) rfl h
        | _ => exact h.elim
      | b32s n u => cases x with
        | b32s n u => obtain ⟨⟨rfl, rfl⟩, h⟩ := h; exact typed _ _ (by simp) rfl h
        | _ => exact h.elim
      | rows n u => cases x with
        | rows n u => obtain ⟨⟨rfl, rfl⟩, h⟩ := h; exact typed _ _ (by simp) rfl h
        | _ => exact h.elim

theorem Good.im {x y : SV} (h1 : ∀ v, Den w own ρ lh x v → Den0 w own x v) (h : x = y) (ho : ∀ b, own' b → own b) : Good w own own' ρ ρ' lh x y := fun v hd => by
  subst h
  exact .im ((h1 v hd).stab (Stab.of_sub ho))

theorem mSV_ok : ∀ f, FOK (mSV f) := by
  intro f
  induction f with
  | zero => intro x y m K h; exact h.elim
  | succ f ih =>
    intro x y m K h
    have keep : ∀ {p : Prop}, (∀ {w : World} {own own' : Nat → Prop} {ρ ρ' : Rho} {lh : Lam}, (∀ b, own' b → own b) → Good w own own' ρ ρ' lh x y) → (K m).holds →
        ∃ m', Ren.sub m m' ∧ (K m').holds ∧ ∀ (w : World) (own own' : Nat → Prop) (ρ ρ' : Rho) (lh : Lam), (∀ b, own' b → own b) → RenOK m' ρ ρ' → Good w own own' ρ ρ' lh x y :=
      fun {_} hg hk => ⟨m, Ren.sub_refl m, hk, fun _ _ _ _ _ _ ho _ => hg ho⟩
    have bnd : ∀ {id' : Nat} {o : Option Nat}, (bind m id' o K).holds → (∀ {w : World} {own own' : Nat → Prop} {ρ ρ' : Rho} {lh : Lam}, (∀ b, own' b → own b) → (match o with | some id => ρ' id' = ρ id | none => ρ' id' = some (0, 0)) → Good w own own' ρ ρ' lh x y) →
        ∃ m', Ren.sub m m' ∧ (K m').holds ∧ ∀ (w : World) (own own' : Nat → Prop) (ρ ρ' : Rho) (lh : Lam), (∀ b, own' b → own b) → RenOK m' ρ ρ' → Good w own own' ρ ρ' lh x y := fun {id' o} hb hg => by
      obtain ⟨m1, h1, h2, h3⟩ := bind_ok hb
      exact ⟨m1, h1, h3, fun _ _ _ _ _ _ ho hr => hg ho (hr id' o h2)⟩
    have imm : (∀ {w : World} {own : Nat → Prop} {ρ : Rho} {lh : Lam} v, Den w own ρ lh x v → Den0 w own x v) → x = y → (K m).holds → ∃ m', Ren.sub m m' ∧ (K m').holds ∧ ∀ (w : World) (own own' : Nat → Prop) (ρ ρ' : Rho) (lh : Lam), (∀ b, own' b → own b) → RenOK m' ρ ρ' → Good w own own' ρ ρ' lh x y :=
      fun h1 h2 hk => keep (p := True) (fun ho => Good.im (fun v hv => h1 v hv) h2 ho) hk
    unfold mSV at h
    split at h
    · exact keep (p := True) (fun _ v _ => .im (.any v)) h
    · obtain ⟨rfl, h⟩ := h; exact imm (fun v hv => by cases hv with | im h0 => exact h0) rfl h
    · obtain ⟨rfl, h⟩ := h; exact imm (fun v hv => by cases hv with | im h0 => exact h0) rfl h
    · obtain ⟨rfl, h⟩ := h; exact imm (fun v hv => by cases hv with | im h0 => exact h0) rfl h
    · obtain ⟨rfl, h⟩ := h; exact imm (fun v hv => by cases hv with | im h0 => exact h0) rfl h
    · obtain ⟨rfl, h⟩ := h; exact imm (fun v hv => by cases hv with | im h0 => exact h0) rfl h
    · obtain ⟨rfl, h⟩ := h; exact imm (fun v hv => by cases hv with | im h0 => exact h0) rfl h
    · obtain ⟨rfl, h⟩ := h; exact imm (fun v hv => by cases hv with | im h0 => exact h0) rfl h
    · exact imm (fun v hv => by cases hv with | im h0 => exact h0) rfl h
    · exact imm (fun v hv => by cases hv with | im h0 => exact h0) rfl h
    · exact imm (fun v hv => by cases hv with | im h0 => exact h0) rfl h
    · split at h
      · rename_i hb
        have hb := of_decide_eq_true hb
        subst hb
        exact bnd h fun _ hr v hv => by
          cases hv with
          | im h0 => cases h0
          | ptr e => exact .ptr (by rw [hr]; exact e)
      · exact h.elim
    · obtain ⟨⟨rfl, rfl⟩, h⟩ := h
      exact bnd h fun _ hr v hv => by
        cases hv with
        | im h0 => cases h0
        | ptri e => exact .ptri (by rw [hr]; exact e)
    · obtain ⟨⟨rfl, rfl⟩, h⟩ := h; exact imm (fun v hv => by cases hv with | im h0 => exact h0) rfl h
    · obtain ⟨⟨rfl, rfl, rfl⟩, h⟩ := h; exact imm (fun v hv => by cases hv with | im h0 => exact h0) rfl h
    · obtain ⟨rfl, h⟩ := h
      exact bnd h fun _ hr v hv => by
        cases hv with
        | im h0 => cases h0; exact .osn hr
    · obtain ⟨rfl, h⟩ := h
      exact bnd h fun _ hr v hv => by
        cases hv with
        | im h0 => cases h0; exact .osubn hr
    · split at h
      · rename_i hb
        have hb := of_decide_eq_true hb
        subst hb
        obtain ⟨rfl, h⟩ := h
        exact bnd h fun _ hr v hv => by
          cases hv with
          | im h0 => cases h0
          | os e hc hz => exact .os (by rw [hr]; exact e) hc hz
          | osn e => exact .osn (by rw [hr]; exact e)
      · exact h.elim
    · split at h
      · rename_i hb
        have hb := of_decide_eq_true hb
        subst hb
        obtain ⟨⟨rfl, rfl⟩, h⟩ := h
        exact bnd h fun _ hr v hv => by
          cases hv with
          | im h0 => cases h0
          | os e hc hz => exact .osub (by rw [hr]; exact e) hc (by omega)
          | osn e => exact .osubn (by rw [hr]; exact e)
      · exact h.elim
    · split at h
      · rename_i hb
        have hb := of_decide_eq_true hb
        subst hb
        obtain ⟨⟨rfl, rfl⟩, h⟩ := h
        exact bnd h fun _ hr v hv => by
          cases hv with
          | im h0 => cases h0
          | osub e hc hz => exact .osub (by rw [hr]; exact e) hc hz
          | osubn e => exact .osubn (by rw [hr]; exact e)
          | osubz e => exact .osubz (by rw [hr]; exact e)
      · exact h.elim
    · obtain ⟨⟨rfl, rfl, rfl⟩, h⟩ := h; exact imm (fun v hv => by cases hv with | im h0 => exact h0) rfl h
    · obtain ⟨⟨rfl, rfl⟩, h⟩ := h
      split at h
      · rename_i hb
        have hb := of_decide_eq_true hb
        subst hb
        refine keep (p := True) (fun _ v hv => ?_) h
        cases hv with
        | im h0 =>
          cases h0
          have := DenS0.b8s (w := ‹World›) (own := ‹Nat → Prop›) (n := 0) (xs := []) rfl .nil
          exact .im (.sl this (by simp) (Nat.le_refl _) (.inl (by simp)))
      · exact h.elim
    · split at h
      · rename_i hb
        have hb := of_decide_eq_true hb
        subst hb
        obtain ⟨m1, h1, h2, _, h3⟩ := mList_ok ih _ _ _ _ h
        obtain ⟨m2, h4, h5, _, h6⟩ := mList_ok ih _ _ _ _ h2
        refine ⟨m2, Ren.sub_trans h1 h4, h5, fun w own own' ρ ρ' lh ho hr v hv => ?_⟩
        obtain ⟨v1, v2, rfl, d1, d2⟩ := den_fn hv
        have := Den.fn (f := ‹Nat›) ((h3 w own own' ρ ρ' lh ho (hr.sub h4)).1 _ d1) ((h6 w own own' ρ ρ' lh ho hr).1 _ d2)
        simpa using this
      · exact h.elim
    · split at h
      · rename_i hb
        have hb := of_decide_eq_true hb
        subst hb
        exact keep (p := True) (fun _ v hv => by cases hv with | im h0 => cases h0 | yv e => exact .yv e) h
      · exact h.elim
    · obtain ⟨m1, h1, h2, h3⟩ := mSegs_ok ih _ _ _ _ h
      refine ⟨m1, h1, h2, fun w own own' ρ ρ' lh ho hr v hv => ?_⟩
      cases hv with
      | im h0 => cases h0 with
        | agg h => exact .agg (h3 w own own' ρ ρ' lh ho hr _ h.full)
      | agg h => exact .agg (h3 w own own' ρ ρ' lh ho hr _ h)
    · obtain ⟨m1, h1, h2, _, h3⟩ := mList_ok ih _ _ _ _ h
      refine ⟨m1, h1, h2, fun w own own' ρ ρ' lh ho hr v hv => ?_⟩
      cases hv with
      | im h0 => cases h0
      | tup h => exact .tup ((h3 w own own' ρ ρ' lh ho hr).1 _ h)
    · exact h.elim

theorem mNone_ok : ∀ (g : List Seg) (K : VT), (mNone g K).holds → K.holds ∧ ∀ (w : World) (own : Nat → Prop) (ρ : Rho) (lh : Lam), DenS w own ρ lh g [] := by
  intro g
  induction g with
  | nil => intro K h; exact ⟨h, fun _ _ _ _ => .nil⟩
  | cons x xs ih =>
    intro K h
    have zero : ∀ {g0 : Seg}, (∀ (w : World) (own : Nat → Prop), DenS0 w own [g0] []) → (mNone xs K).holds → K.holds ∧ ∀ (w : World) (own : Nat → Prop) (ρ : Rho) (lh : Lam), DenS w own ρ lh (g0 :: xs) [] := fun hz hk =>
      ⟨(ih K hk).1, fun w own ρ lh => by have := DenS.seg (hz w own) ((ih K hk).2 w own ρ lh); simpa using this⟩
    cases x with
    | one v => exact h.elim
    | ints n u => obtain ⟨⟨rfl, rfl⟩, h⟩ := h; exact zero (fun w own => by simpa using DenS0.ints (w := w) (own := own) (n := 0) (xs := []) rfl .nil) h
    | b8s n u => obtain ⟨⟨rfl, rfl⟩, h⟩ := h; exact zero (fun w own => by simpa using DenS0.b8s (w := w) (own := own) (n := 0) (xs := []) rfl .nil) h
    | b32s n u => obtain ⟨⟨rfl, rfl⟩, h⟩ := h; exact zero (fun w own => by simpa using DenS0.b32s (w := w) (own := own) (n := 0) (xs := []) rfl .nil) h
    | rows n u => obtain ⟨⟨rfl, rfl⟩, h⟩ := h; exact zero (fun w own => by simpa using DenS0.rows (w := w) (own := own) (n := 0) (xss := []) rfl .nil .nil) h
    | spare => cases xs with
      | nil => exact ⟨h, fun w own ρ lh => by have := DenS.seg (w := w) (own := own) (ρ := ρ) (lh := lh) (DenS0.spare (l := []) (by simp)) .nil; simpa using this⟩
      | cons _ _ => exact h.elim

def HeapGood (s : St) (m : Ren) (id' : Nat) (g' : List Seg) : Prop :=
  (∃ id g, look m id' = some (some id) ∧ s.blk id = some g ∧ ∀ (w : World) (own own' : Nat → Prop) (ρ ρ' : Rho) (lh : Lam), (∀ b, own' b → own b) → RenOK m ρ ρ' → ∀ l, DenS w own ρ lh g l → DenS w own' ρ' lh g' l) ∨
  (look m id' = some none ∧ ∀ (w : World) (own : Nat → Prop) (ρ : Rho) (lh : Lam), DenS w own ρ lh g' [])
theorem HeapGood.sub {s : St} {m m' : Ren} {id' : Nat} {g' : List Seg} (h : HeapGood s m id' g') (hs : Ren.sub m m') : HeapGood s m' id' g' := by
  rcases h with ⟨id, g, h1, h2, h3⟩ | ⟨h1, h2⟩
  · exact .inl ⟨id, g, hs _ _ h1, h2, fun w own own' ρ ρ' lh ho hr => h3 w own own' ρ ρ' lh ho (hr.sub hs)⟩
  · exact .inr ⟨hs _ _ h1, h2⟩
theorem mBlk_ok {s : St} {id : Nat} {g' : List Seg} {m : Ren} {K : MK} (h : (mBlk s id g' m K).holds) : ∃ m' g, Ren.sub m m' ∧ (K m').holds ∧ s.blk id = some g ∧
    ∀ (w : World) (own own' : Nat → Prop) (ρ ρ' : Rho) (lh : Lam), (∀ b, own' b → own b) → RenOK m' ρ ρ' → ∀ l, DenS w own ρ lh g l → DenS w own' ρ' lh g' l := by
  unfold mBlk at h
  split at h
  · rename_i g hg
    obtain ⟨m1, h1, h2, h3⟩ := mSegs_ok (mSV_ok 8) _ _ _ _ h
    exact ⟨m1, g, h1, h2, hg, h3⟩
  · exact h.elim
theorem mHeap_ok {s : St} : ∀ (l : List (Nat × List Seg)) (m : Ren) (K : MK), (mHeap s l m K).holds → ∃ m', Ren.sub m m' ∧ (K m').holds ∧ ∀ p ∈ l, HeapGood s m' p.1 p.2 := by
  intro l
  induction l with
  | nil => intro m K h; exact ⟨m, Ren.sub_refl m, h, by simp⟩
  | cons p r ih =>
    intro m K h
    obtain ⟨id', g'⟩ := p
    simp only [mHeap] at h
    split at h
    · rename_i id hl
      obtain ⟨m1, g, h1, h2, h3, h4⟩ := mBlk_ok h
      obtain ⟨m2, h5, h6, h7⟩ := ih m1 K h2
      refine ⟨m2, Ren.sub_trans h1 h5, h6, fun q hq => ?_⟩
      rcases List.mem_cons.1 hq with rfl | hq
      · exact HeapGood.sub (.inl ⟨id, g, h1 _ _ hl, h3, h4⟩) h5
      · exact h7 q hq
    · rename_i hl
      obtain ⟨h1, h2⟩ := mNone_ok _ _ h
      obtain ⟨m2, h5, h6, h7⟩ := ih m K h1
      refine ⟨m2, h5, h6, fun q hq => ?_⟩
      rcases List.mem_cons.1 hq with rfl | hq
      · exact HeapGood.sub (.inr ⟨hl, h2⟩) h5
      · exact h7 q hq
    · rename_i hl
      obtain ⟨m1, g, h1, h2, h3, h4⟩ := mBlk_ok h
      obtain ⟨m2, h5, h6, h7⟩ := ih m1 K h2
      have hs : Ren.sub m ((id', some id') :: m) := fun i o e => by
        rw [look_cons]
        split
        · rename_i hi; subst hi; rw [hl] at e; cases e
        · exact e
      refine ⟨m2, Ren.sub_trans hs (Ren.sub_trans h1 h5), h6, fun q hq => ?_⟩
      rcases List.mem_cons.1 hq with rfl | hq
      · exact HeapGood.sub (.inl ⟨id', g, h1 _ _ (by simp [look]), h3, h4⟩) h5
      · exact h7 q hq

theorem hsOK_ok {lo : Nat} : ∀ {xs ys : List (Nat × Hd)}, hsOK lo xs ys = true → hsC ys = hsC xs → ys = xs ∧ ∀ p ∈ xs, p.2.lim ≤ lo := by
  intro xs
  induction xs with
  | nil =>
    intro ys h _
    cases ys with
    | nil => exact ⟨rfl, by simp⟩
    | cons _ _ => cases h
  | cons p r ih =>
    intro ys h hc
    cases ys with
    | nil => cases h
    | cons q r' =>
      obtain ⟨L, h0⟩ := p
      obtain ⟨L', h1⟩ := q
      simp only [hsOK, Bool.and_eq_true, decide_eq_true_eq] at h
      obtain ⟨e1, e2, e3, e4, e5⟩ := h
      simp only [hsC, List.map_cons, List.cons.injEq, Prod.mk.injEq] at hc
      obtain ⟨⟨_, c1, c2, c3, c4, c5⟩, hc⟩ := hc
      obtain ⟨i1, i2⟩ := ih e5 hc
      have hp : h1.pend = h0.pend := by
        split at e4
        · rename_i a b; rw [a, b]
        · cases e4
      refine ⟨?_, fun p hp => ?_⟩
      · rw [i1, e1]
        congr 2
        obtain ⟨a1, a2, a3, a4, a5, a6, a7⟩ := h0
        obtain ⟨b1, b2, b3, b4, b5, b6, b7⟩ := h1
        simp only at c1 c2 c3 c4 c5 e3 hp
        subst c1 c2 c3 c4 c5 e3 hp
        rfl
      · rcases List.mem_cons.1 hp with rfl | hp
        · exact e2
        · exact i2 p hp

theorem inRange_ok {lo nx : Nat} : ∀ {m : Ren}, inRange lo nx m = true → (∀ a o, look m a = some o → a < nx ∧ (a < lo → o = some a)) ∧ ∀ a a' id, look m a = some (some id) → look m a' = some (some id) → a = a' := by
  intro m
  induction m with
  | nil => intro _; exact ⟨fun a o e => (by cases e), fun a a' id e => (by cases e)⟩
  | cons p r ih =>
    intro h
    obtain ⟨k, ok⟩ := p
    simp only [inRange, Bool.and_eq_true, decide_eq_true_eq, Bool.or_eq_true, Bool.not_eq_true', List.any_eq_false, not_or, not_and] at h
    obtain ⟨h1, h2, h3, h4⟩ := h
    obtain ⟨i1, i2⟩ := ih h4
    have fresh : ∀ a id, look r a = some (some id) → ok = some id → False := fun a id e ho => by
      have := (h3 (a, some id) (look_mem e)).2
      simp [ho] at this
    refine ⟨fun a o e => ?_, fun a a' id e e' => ?_⟩
    · rw [look_cons] at e
      split at e
      · rename_i hk
        subst hk
        cases e
        exact ⟨h1, fun hlt => h2.resolve_left (by omega)⟩
      · exact i1 a o e
    · rw [look_cons] at e e'
      split at e
      · rename_i hk
        subst hk
        cases e
        split at e'
        · assumption
        · exact (fresh a' id e' rfl).elim
      · split at e'
        · rename_i hk
          subst hk
          cases e'
          exact (fresh a id e rfl).elim
        · exact i2 a a' id e e'
end

section
variable {X : Nat → Prop} {G : List (Nat × SV)} {st : Start} {s t : St} {ρ : Rho} {lh : Lam} {a : Act} {w : World}
def renRho (m : Ren) (lo : Nat) (ρ : Rho) : Rho := fun id' => match look m id' with
  | some (some id) => ρ id
  | some none => some (0, 0)
  | none => if id' < lo then ρ id' else none

theorem wk_sound {lo : Nat} {K : VT} (h : (wk lo s t K).holds) (hr : Reach X G st s ρ lh a w) (hN : st.N ≤ lo) (hth : hsC t.hs = st.hs) : K.holds ∧ ∃ ρ', Reach X G st t ρ' lh a w ∧ ∀ id, id < lo → ρ' id = ρ id := by
  unfold wk at h
  obtain ⟨m1, a1, h, alen, agood⟩ := mList_ok (mSV_ok 8) _ _ _ _ h
  obtain ⟨m, c1, h, cgood⟩ := mHeap_ok _ _ _ h
  split at h
  case h_2 => exact h.elim
  rename_i hc
  simp only [Bool.and_eq_true, decide_eq_true_eq] at hc
  obtain ⟨hrange, hlo, hnh, hhs⟩ := hc
  obtain ⟨hteq, hlim⟩ := hsOK_ok hhs (hth.trans hr.hc.symm)
  obtain ⟨r1, r2⟩ := inRange_ok hrange
  have hlow : ∀ id, id < lo → renRho m lo ρ id = ρ id := by
    intro id hid
    unfold renRho
    cases e : look m id with
    | none => simp [hid]
    | some o => rw [(r1 id o e).2 hid]
  refine ⟨h, renRho m lo ρ, ?_, hlow⟩
  have hren : RenOK m ρ (renRho m lo ρ) := fun id o e => by
    unfold renRho
    rw [e]
    cases o <;> rfl
  have blkT : ∀ id' g', t.blk id' = some g' → HeapGood s m id' g' := fun id' g' e => cgood (id', g') (look_mem e)
  have up : ∀ {id' g' b sz}, t.blk id' = some g' → renRho m lo ρ id' = some (b, sz) → sz ≠ 0 → ∃ id g, look m id' = some (some id) ∧ s.blk id = some g ∧ ρ id = some (b, sz) := fun {id' g' b sz} e1 e2 e3 => by
    rcases blkT _ _ e1 with ⟨id, g, h1, h2, _⟩ | ⟨h1, _⟩
    · refine ⟨id, g, h1, h2, ?_⟩
      unfold renRho at e2
      rw [h1] at e2
      exact e2
    · unfold renRho at e2
      rw [h1] at e2
      cases e2
      exact absurd rfl e3
  have hmine : ∀ b, Mine t (renRho m lo ρ) lh b → Mine s ρ lh b := by
    rintro b (⟨id', g', sz, e1, e2, e3⟩ | ⟨L, h', e1, e2⟩)
    · obtain ⟨id, g, h1, h2, h3⟩ := up e1 e2 e3
      exact .inl ⟨id, g, sz, h2, h3, e3⟩
    · exact .inr ⟨L, h', by unfold St.hd at e1 ⊢; rw [← hteq]; exact e1, e2⟩
  have hown : ∀ b, Own X t (renRho m lo ρ) lh b → Own X s ρ lh b := fun b hb => hb.imp (fun x => x) (hmine b)
  refine ⟨⟨?_, ?_⟩, ?_, Nat.le_trans hN hlo, (by rw [hnh]; exact hr.hM), hth, hr.dm⟩
  · have H := hr.sat.H
    exact
    { blk := fun id' g' e => by
        rcases blkT _ _ e with ⟨id, g, h1, h2, h3⟩ | ⟨h1, h2⟩
        · obtain ⟨b, sz, k1, l, k2, k3, k4⟩ := H.blk id g h2
          exact ⟨b, sz, (by unfold renRho; rw [h1]; exact k1), l, h3 _ _ _ _ _ _ hown hren l k2, k3, k4⟩
        · exact ⟨0, 0, (by unfold renRho; rw [h1]), [], h2 _ _ _ _, rfl, fun h0 => absurd rfl h0⟩
      inj := fun i i' g g' b sz sz' e1 e2 e3 e4 e5 e6 => by
        obtain ⟨j, gj, h1, h2, h3⟩ := up e1 e3 e5
        obtain ⟨j', gj', h1', h2', h3'⟩ := up e2 e4 e6
        have := H.inj j j' gj gj' b sz sz' h2 h2' h3 h3' e5 e6
        subst this
        exact r2 i i' j h1 h1'
      foreign := fun b hb => H.foreign b (hmine b hb)
      nxt := fun id' r e => by
        unfold renRho at e
        cases hl : look m id' with
        | some o => exact (r1 id' o hl).1
        | none =>
          rw [hl] at e
          dsimp only at e
          split at e
          · omega
          · cases e
      hd := fun L h' e => by
        have e' : s.hd L = some h' := by unfold St.hd at e ⊢; rw [← hteq]; exact e
        obtain ⟨l, r, q1, q2, q3, q4, q5, q6, q7, q8, q9⟩ := H.hd L h' e'
        refine ⟨l, r, q1, q2, q3, q4, q5, q6, q7, q8, fun i y hy => ?_⟩
        have hl : h'.lim ≤ lo := hlim (L, h') (look_mem e')
        have : cutR h'.lim (renRho m lo ρ) = cutR h'.lim ρ := by
          funext id
          unfold cutR
          split
          · exact hlow id (by omega)
          · rfl
        rw [this]
        exact (q9 i y hy).stab (Stab.of_sub hown) (Le.refl _) (Le.refl _)
      hinj := fun L L' h1 h2 l e1 e2 e3 e4 => by
        refine H.hinj L L' h1 h2 l ?_ ?_ e3 e4
        · unfold St.hd at e1 ⊢; rw [← hteq]; exact e1
        · unfold St.hd at e2 ⊢; rw [← hteq]; exact e2
      hnxt := fun L l e => by rw [hnh]; exact H.hnxt L l e
      glob := fun g sv hg => (H.glob g sv hg).stab (Stab.of_sub hown)
      xlt := H.xlt }
  · have T := hr.sat.T
    refine ⟨by rw [T.size, alen], fun i y hy => ?_, let ⟨ms, h1, h2, h3⟩ := T.marks; ⟨ms, h1, h2, fun r hr => ⟨(h3 r hr).1, fun hb => (h3 r hr).2 (hown _ hb)⟩⟩⟩
    obtain ⟨x, x1, x2⟩ := (agood w _ _ ρ (renRho m lo ρ) lh hown (hren.sub c1)).2 i y hy
    exact x2 _ (T.tmp i x x1)
  · have E := hr.ev
    refine ⟨E.size, E.keep, fun b hb => E.own b (hmine b hb), fun id hid r e => ?_, E.lam, E.out⟩
    have := E.rho id hid r e
    unfold renRho
    cases hl : look m id with
    | none => simp only []; rw [if_pos (by omega)]; exact this
    | some o => rw [(r1 id o hl).2 (by omega)]; exact this
end
end Go.SE
/- The records of loops over functions: laid, changed, taken away; the marks shut. -/
namespace Go.SE
open Go

/-- Values stay where the cells of blocks stay. -/
def StabC (w : World) (own : Nat → Prop) (w' : World) (own' : Nat → Prop) : Prop :=
  ∀ b cs e f, w.heap[b]? = some (.cells cs e f) → ¬ own b → w'.heap[b]? = some (.cells cs e f) ∧ ¬ own' b
section
variable {w w' : World} {own own' : Nat → Prop}
mutual
theorem Den0.stabC (h : StabC w own w' own') : ∀ {sv : SV} {v : Value}, Den0 w own sv v → Den0 w' own' sv v
  | _, _, .any v => .any v
  | _, _, .bool b => .bool b
  | _, _, .int n => .int n
  | _, _, .b8 x => .b8 x
  | _, _, .b16 x => .b16 x
  | _, _, .b32 x => .b32 x
  | _, _, .b64 x => .b64 x
  | _, _, .str s => .str s
  | _, _, .nilp => .nilp
  | _, _, .nilf => .nilf
  | _, _, .nils => .nils
  | _, _, .ip hb ho hl hp => .ip (h _ _ _ _ hb ho).1 (h _ _ _ _ hb ho).2 (DenS0.stabC h hl) hp
  | _, _, .ipi hb ho hl hp => .ipi (h _ _ _ _ hb ho).1 (h _ _ _ _ hb ho).2 (DenS0.stabC h hl) hp
  | _, _, .sl hl hn hc hp => .sl (DenS0.stabC h hl) hn hc (hp.imp id fun ⟨b, off, cs, elem, fr, ha, hb, ho, hl⟩ => ⟨b, off, cs, elem, fr, ha, (h _ _ _ _ hb ho).1, (h _ _ _ _ hb ho).2, hl⟩)
  | _, _, .fn h1 h2 => .fn (Den0L.stabC h h1) (Den0L.stabC h h2)
  | _, _, .agg hs => .agg (DenS0.stabC h hs)
theorem DenS0.stabC (h : StabC w own w' own') : ∀ {o : List Seg} {l : List Value}, DenS0 w own o l → DenS0 w' own' o l
  | _, _, .nil => .nil
  | _, _, .one hv h1 hr => .one (Den0.stabC h hv) h1 (DenS0.stabC h hr)
  | _, _, .ints hn hr => .ints hn (DenS0.stabC h hr)
  | _, _, .b8s hn hr => .b8s hn (DenS0.stabC h hr)
  | _, _, .b32s hn hr => .b32s hn (DenS0.stabC h hr)
  | _, _, .rows hn hv hr => .rows hn (DenR.stabC h hv) (DenS0.stabC h hr)
  | _, _, .spare hl => .spare hl
theorem DenR.stabC (h : StabC w own w' own') : ∀ {o : List (List (BitVec 8))} {l : List Value}, DenR w own o l → DenR w' own' o l
  | _, _, .nil => .nil
  | _, _, .cons hv hr => .cons (Den0.stabC h hv) (DenR.stabC h hr)
theorem Den0L.stabC (h : StabC w own w' own') : ∀ {o : List SV} {l : List Value}, Den0L w own o l → Den0L w' own' o l
  | _, _, .nil => .nil
  | _, _, .cons hv hr => .cons (Den0.stabC h hv) (Den0L.stabC h hr)
end
end
section
variable {w w' : World} {own own' : Nat → Prop} {ρ ρ' : Rho} {lh lh' : Lam}
mutual
theorem Den.stabC (h : StabC w own w' own') (hρ : Le ρ ρ') (hl : Le lh lh') : ∀ {sv : SV} {v : Value}, Den w own ρ lh sv v → Den w' own' ρ' lh' sv v
  | _, _, .im h0 => .im (h0.stabC h)
  | _, _, .ptr e => .ptr (hρ _ _ e)
  | _, _, .ptri e => .ptri (hρ _ _ e)
  | _, _, .os e hc hz => .os (hρ _ _ e) hc hz
  | _, _, .osn e => .osn (hρ _ _ e)
  | _, _, .osub e hc hz => .osub (hρ _ _ e) hc hz
  | _, _, .osubn e => .osubn (hρ _ _ e)
  | _, _, .osubz e => .osubz (hρ _ _ e)
  | _, _, .fn h1 h2 => .fn (DenL.stabC h hρ hl h1) (DenL.stabC h hρ hl h2)
  | _, _, .yv e => .yv (hl _ _ e)
  | _, _, .agg hs => .agg (DenS.stabC h hρ hl hs)
  | _, _, .tup hs => .tup (DenL.stabC h hρ hl hs)
theorem DenS.stabC (h : StabC w own w' own') (hρ : Le ρ ρ') (hl : Le lh lh') : ∀ {o : List Seg} {l : List Value}, DenS w own ρ lh o l → DenS w' own' ρ' lh' o l
  | _, _, .nil => .nil
  | _, _, .one hv h1 hr => .one (Den.stabC h hρ hl hv) h1 (DenS.stabC h hρ hl hr)
  | _, _, .seg hg hr => .seg (hg.stabC h) (DenS.stabC h hρ hl hr)
theorem DenL.stabC (h : StabC w own w' own') (hρ : Le ρ ρ') (hl : Le lh lh') : ∀ {o : List SV} {l : List Value}, DenL w own ρ lh o l → DenL w' own' ρ' lh' o l
  | _, _, .nil => .nil
  | _, _, .cons hv hr => .cons (Den.stabC h hρ hl hv) (DenL.stabC h hρ hl hr)
end
end

/-- A loop's record, changed. -/
def setHs : List (Nat × Hd) → Nat → Hd → List (Nat × Hd)
  | [], _, _ => []
  | (L, h) :: r, L', h' => if L = L' then (L, h') :: r else (L, h) :: setHs r L' h'
theorem look_setHs (l : List (Nat × Hd)) (L : Nat) (h' : Hd) (n : Nat) : look (setHs l L h') n = if n = L then (match look l L with | some _ => some h' | none => none) else look l n := by
  induction l with
  | nil => simp [setHs, look]
  | cons p r ih =>
    obtain ⟨k, h⟩ := p
    simp only [setHs]
    by_cases hk : k = L
    · subst hk
      simp only [if_true, look_cons]
      by_cases hn : k = n
      · simp [hn]
      · simp [hn, Ne.symm hn]
    · simp only [hk, if_false, look_cons]
      by_cases hn : k = n
      · simp [hn]
        intro e; exact absurd (hn.trans e) hk
      · simp only [hn, if_false]; exact ih
theorem hsC_setHs (l : List (Nat × Hd)) (L : Nat) (h h' : Hd) (hl : look l L = some h) (hc : (h'.tmps, h'.params, h'.assign, h'.body, h'.lim) = (h.tmps, h.params, h.assign, h.body, h.lim)) : hsC (setHs l L h') = hsC l := by
  induction l with
  | nil => rfl
  | cons p r ih =>
    obtain ⟨k, h0⟩ := p
    simp only [setHs]
    rw [look_cons] at hl
    by_cases hk : k = L
    · subst hk
      simp only [if_true, Option.some.injEq] at hl ⊢
      subst hl
      simp only [hsC, List.map_cons]
      rw [hc]
    · simp only [hk, if_false] at hl ⊢
      simp only [hsC, List.map_cons]
      congr 1
      exact ih hl
def St.setHd (s : St) (L : Nat) (h : Hd) : St := { s with hs := setHs s.hs L h }

def Lam.upd (lh : Lam) (L l : Nat) : Lam := fun n => if n = L then some l else lh n
theorem Lam.upd_same (lh : Lam) (L l : Nat) : lh.upd L l L = some l := if_pos rfl
theorem Lam.upd_other (lh : Lam) {L n : Nat} (l : Nat) (h : n ≠ L) : lh.upd L l n = lh n := if_neg h
theorem Lam.le_upd {lh : Lam} {L : Nat} (l : Nat) (h : lh L = none) : Le lh (lh.upd L l) := fun n x e => by
  by_cases hn : n = L
  · subst hn; rw [h] at e; cases e
  · rw [Lam.upd_other _ _ hn, e]

section
variable {P : Program} {X : Nat → Prop} {G : List (Nat × SV)} {st : Start} {s s' : St} {ρ : Rho} {lh : Lam} {a : Act} {w w' : World} {fr : Nat}

/-- A block that is nobody's is made. -/
theorem SatH.allocOther (hs : SatH X G s ρ lh w) (o : Obj) : SatH X G s ρ lh (w.alloc o) ∧ Goes s.next s.nh s s ρ ρ lh lh w (w.alloc o) := by
  have hgo : Goes s.next s.nh s s ρ ρ lh lh w (w.alloc o) :=
    ⟨by simp, fun b o' hb _ => by rw [heap_alloc, if_neg (by have := lt_of_heap hb; omega)]; exact hb, fun b hb => .inl hb, fun _ _ _ h => h, fun _ _ _ h => h, rfl, rfl⟩
  have kp : ∀ b o', w.heap[b]? = some o' → (w.alloc o).heap[b]? = some o' := fun b o' hb => by rw [heap_alloc, if_neg (by have := lt_of_heap hb; omega)]; exact hb
  exact ⟨hs.step hgo (fun _ => rfl) (fun _ _ e => .inl ⟨e, fun b sz _ _ o' hb => kp b o' hb⟩) hs.inj hs.foreign hs.nxt (fun _ _ l _ _ o' hb => kp l o' hb) rfl (Nat.le_refl _), hgo⟩

/-- A loop's record is laid. -/
def St.pushHd (s : St) (h : Hd) : St := { s with hs := (s.nh, h) :: s.hs, nh := s.nh + 1 }
theorem hd_pushHd (s : St) (h : Hd) (L : Nat) : (s.pushHd h).hd L = if L = s.nh then some h else s.hd L := by
  show look ((s.nh, h) :: s.hs) L = _
  rw [look_cons]
  by_cases hl : s.nh = L
  · simp [hl]
  · simp [hl, Ne.symm hl, St.hd]
theorem SatH.allocLoop (hs : SatH X G s ρ lh w) {h : Hd} {r : Loop} (h1 : r.state = h.st) (h2 : r.pending = h.pend) (h3 : r.params = h.params) (h4 : r.assign = h.assign) (h5 : r.body = h.body) (h6 : r.tmps.size = h.tmps.length)
    (h7 : ∀ t sv, h.tmps[t]? = some sv → Den w (Own X s ρ lh) ρ lh sv (r.tmps.getD t undef)) (hlim : h.lim = s.next) :
    SatH X G (s.pushHd h) ρ (lh.upd s.nh w.heap.size) (w.alloc (.loop r)) ∧ Goes s.next s.nh s (s.pushHd h) ρ ρ lh (lh.upd s.nh w.heap.size) w (w.alloc (.loop r)) := by
  have hn : lh s.nh = none := by
    cases e : lh s.nh with
    | none => rfl
    | some l => have := hs.hnxt _ l e; omega
  have kp : ∀ b o', w.heap[b]? = some o' → (w.alloc (.loop r)).heap[b]? = some o' := fun b o' hb => by rw [heap_alloc, if_neg (by have := lt_of_heap hb; omega)]; exact hb
  have hmine : ∀ b, Mine (s.pushHd h) ρ (lh.upd s.nh w.heap.size) b → Mine s ρ lh b ∨ b = w.heap.size := by
    rintro b (⟨i, segs, sz, e1, e2, e3⟩ | ⟨L, x, e1, e2⟩)
    · exact .inl (.inl ⟨i, segs, sz, e1, e2, e3⟩)
    · rw [hd_pushHd] at e1
      by_cases hL : L = s.nh
      · subst hL
        rw [Lam.upd_same] at e2
        cases e2
        exact .inr rfl
      · rw [if_neg hL] at e1
        rw [Lam.upd_other _ _ hL] at e2
        exact .inl (.inr ⟨L, x, e1, e2⟩)
  have hgo : Goes s.next s.nh s (s.pushHd h) ρ ρ lh (lh.upd s.nh w.heap.size) w (w.alloc (.loop r)) :=
    ⟨by simp, fun b o' hb _ => kp b o' hb, fun b hb => (hmine b hb).imp id (fun e => by rw [e]; exact Nat.le_refl _), fun _ _ _ h => h, fun L hL l e => Lam.le_upd _ hn L l e, rfl, rfl⟩
  have hst := hgo.stab (X := X)
  have lle := Lam.le_upd w.heap.size hn
  refine ⟨?_, hgo⟩
  exact
  { blk := fun id segs e => (hs.blk id segs e).stab hst (Le.refl _) lle fun b sz _ _ o hb => kp b o hb
    inj := hs.inj
    foreign := fun b hb hx => (hmine b hb).elim (fun hm => hs.foreign b hm hx) fun e => by have := hs.xlt b hx; omega
    nxt := hs.nxt
    hd := fun L x e => by
      rw [hd_pushHd] at e
      by_cases hL : L = s.nh
      · subst hL
        rw [if_pos rfl, Option.some.injEq] at e
        subst e
        refine ⟨w.heap.size, r, Lam.upd_same _ _ _, by rw [heap_alloc, if_pos rfl], h1, h2, h3, h4, h5, h6, fun t sv ht => ?_⟩
        have hcut : cutR h.lim ρ = ρ := by
          funext id
          unfold cutR
          split
          · rfl
          · cases e : ρ id with
            | none => rfl
            | some r => have := hs.nxt id r e; omega
        rw [hcut]
        exact (h7 t sv ht).stab hst (Le.refl _) lle
      · rw [if_neg hL] at e
        exact (hs.hd L x e).stab hst (Le.refl _) lle fun l _ o hb => kp l o hb
    hinj := fun L L' x x' l e e' f f' => by
      have old : ∀ {L x}, s.hd L = some x → ∀ {l}, lh L = some l → l < w.heap.size := fun {L x} e {l} f => by
        obtain ⟨l', r', q1, q2, _⟩ := hs.hd L x e
        rw [f] at q1; cases q1
        exact lt_of_heap q2
      rw [hd_pushHd] at e e'
      by_cases hL : L = s.nh <;> by_cases hL' : L' = s.nh
      · rw [hL, hL']
      · exfalso
        subst hL
        rw [Lam.upd_same] at f; cases f
        rw [if_neg hL'] at e'
        rw [Lam.upd_other _ _ hL'] at f'
        have := old e' f'; omega
      · exfalso
        subst hL'
        rw [Lam.upd_same] at f'; cases f'
        rw [if_neg hL] at e
        rw [Lam.upd_other _ _ hL] at f
        have := old e f; omega
      · rw [if_neg hL] at e
        rw [if_neg hL'] at e'
        rw [Lam.upd_other _ _ hL] at f
        rw [Lam.upd_other _ _ hL'] at f'
        exact hs.hinj L L' x x' l e e' f f'
    hnxt := fun L l e => by
      show L < s.nh + 1
      by_cases hL : L = s.nh
      · omega
      · rw [Lam.upd_other _ _ hL] at e
        have := hs.hnxt L l e; omega
    glob := fun g sv hg => (hs.glob g sv hg).stab hst
    xlt := fun b hb => by have := hs.xlt b hb; simp; omega }

/-- A loop's record is changed. -/
theorem SatH.putLoop (hs : SatH X G s ρ lh w) {L l : Nat} {h h' : Hd} {r r' : Loop} (hL : s.hd L = some h) (hl : lh L = some l) (hr : w.heap[l]? = some (.loop r)) (h1 : r'.state = h'.st) (h2 : r'.pending = h'.pend) (h3 : r'.params = h'.params)
    (h4 : r'.assign = h'.assign) (h5 : r'.body = h'.body) (h6 : r'.tmps = r.tmps) (h7 : h'.tmps = h.tmps) (h8 : h'.lim = h.lim) :
    SatH X G (s.setHd L h') ρ lh (w.putObj l (.loop r')) ∧ Goes s.next s.nh s (s.setHd L h') ρ ρ lh lh w (w.putObj l (.loop r')) := by
  have hlt := lt_of_heap hr
  have hd' : ∀ n, (s.setHd L h').hd n = if n = L then some h' else s.hd n := fun n => by
    show look (setHs s.hs L h') n = _
    rw [look_setHs]
    have : look s.hs L = some h := hL
    rw [this]; rfl
  have hmineL : Mine s ρ lh l := .inr ⟨L, h, hL, hl⟩
  have hmine : ∀ b, Mine (s.setHd L h') ρ lh b → Mine s ρ lh b := by
    rintro b (⟨i, segs, sz, e1, e2, e3⟩ | ⟨n, x, e1, e2⟩)
    · exact .inl ⟨i, segs, sz, e1, e2, e3⟩
    · rw [hd'] at e1
      by_cases hn : n = L
      · subst hn; exact .inr ⟨n, h, hL, e2⟩
      · rw [if_neg hn] at e1; exact .inr ⟨n, x, e1, e2⟩
  have kp : ∀ b o, b ≠ l → w.heap[b]? = some o → (w.putObj l (.loop r')).heap[b]? = some o := fun b o hb ho => by rw [World.putObj_heap_other hb]; exact ho
  have hgo : Goes s.next s.nh s (s.setHd L h') ρ ρ lh lh w (w.putObj l (.loop r')) :=
    ⟨by simp, fun b o hb hm => kp b o (fun e => hm (by rw [e]; exact hmineL)) hb, fun b hb => .inl (hmine b hb), fun _ _ _ h => h, fun _ _ _ h => h, rfl, rfl⟩
  have hst := hgo.stab (X := X)
  refine ⟨?_, hgo⟩
  exact
  { blk := fun id segs e => (hs.blk id segs e).stab hst (Le.refl _) (Le.refl _) fun b sz hb hz o ho => kp b o (fun e1 => by
      subst e1
      obtain ⟨cs, elem, q1, _⟩ := hs.row e hb hz
      rw [hr] at q1; cases q1) ho
    inj := hs.inj
    foreign := fun b hb => hs.foreign b (hmine b hb)
    nxt := hs.nxt
    hd := fun n x e => by
      rw [hd'] at e
      by_cases hn : n = L
      · subst hn
        rw [if_pos rfl, Option.some.injEq] at e
        subst e
        obtain ⟨l', r0, q1, q2, q3, q4, q5, q6, q7, q8, q9⟩ := hs.hd n h hL
        rw [hl] at q1; cases q1
        rw [hr] at q2; cases q2
        refine ⟨l, r', hl, World.putObj_heap_same hlt, h1, h2, h3, h4, h5, by rw [h6, h7]; exact q8, fun t sv ht => ?_⟩
        rw [h6, h8]
        rw [h7] at ht
        exact (q9 t sv ht).stab hst (Le.refl _) (Le.refl _)
      · rw [if_neg hn] at e
        refine (hs.hd n x e).stab hst (Le.refl _) (Le.refl _) fun l' hl' o ho => kp l' o (fun e1 => hn ?_) ho
        subst e1
        exact hs.hinj n L x h l' e hL hl' hl
    hinj := fun n n' x x' m e e' f f' => by
      have up : ∀ {n x}, (s.setHd L h').hd n = some x → ∃ x, s.hd n = some x := fun {n x} e => by
        rw [hd'] at e
        by_cases hn : n = L
        · subst hn; exact ⟨h, hL⟩
        · rw [if_neg hn] at e; exact ⟨x, e⟩
      obtain ⟨y, hy⟩ := up e
      obtain ⟨y', hy'⟩ := up e'
      exact hs.hinj n n' y y' m hy hy' f f'
    hnxt := hs.hnxt
    glob := fun g sv hg => (hs.glob g sv hg).stab hst
    xlt := fun b hb => by have := hs.xlt b hb; simpa using this }

/-- A loop's record is nobody's any more. -/
theorem SatH.popHd (hs : SatH X G s ρ lh w) {L : Nat} {h : Hd} {r : List (Nat × Hd)} (hr : s.hs = (L, h) :: r) (hne : ∀ p ∈ r, p.1 ≠ L) : SatH X G { s with hs := r } ρ lh w ∧ Goes s.next s.nh s { s with hs := r } ρ ρ lh lh w w := by
  have hd' : ∀ n x, ({ s with hs := r } : St).hd n = some x → s.hd n = some x := fun n x e => by
    show look s.hs n = some x
    rw [hr, look_cons]
    have e : look r n = some x := e
    rw [if_neg (fun hl => hne _ (look_mem e) hl.symm)]
    exact e
  have hmine : ∀ b, Mine { s with hs := r } ρ lh b → Mine s ρ lh b := by
    rintro b (⟨i, segs, sz, e1, e2, e3⟩ | ⟨n, x, e1, e2⟩)
    · exact .inl ⟨i, segs, sz, e1, e2, e3⟩
    · exact .inr ⟨n, x, hd' n x e1, e2⟩
  have hgo : Goes s.next s.nh s { s with hs := r } ρ ρ lh lh w w := ⟨Nat.le_refl _, fun _ _ hb _ => hb, fun b hb => .inl (hmine b hb), fun _ _ _ h => h, fun _ _ _ h => h, rfl, rfl⟩
  have hst := hgo.stab (X := X)
  exact ⟨
  { blk := fun id segs e => (hs.blk id segs e).stab hst (Le.refl _) (Le.refl _) fun _ _ _ _ _ ho => ho
    inj := hs.inj
    foreign := fun b hb => hs.foreign b (hmine b hb)
    nxt := hs.nxt
    hd := fun n x e => (hs.hd n x (hd' n x e)).stab hst (Le.refl _) (Le.refl _) fun _ _ _ ho => ho
    hinj := fun n n' x x' m e e' f f' => hs.hinj n n' x x' m (hd' n x e) (hd' n' x' e') f f'
    hnxt := hs.hnxt
    glob := fun g sv hg => (hs.glob g sv hg).stab hst
    xlt := hs.xlt }, hgo⟩

/-- The marks are shut. -/
theorem SatH.shut (hs : SatH X G s ρ lh w) {m : Nat} {ds : Option (List Deferred)} (hm : w.heap[m]? = some (.deferred ds)) (o : Option (List Deferred)) : SatH X G s ρ lh (w.putObj m (.deferred o)) ∧ StabC w (Own X s ρ lh) (w.putObj m (.deferred o)) (Own X s ρ lh) := by
  have kp : ∀ b o', b ≠ m → w.heap[b]? = some o' → (w.putObj m (.deferred o)).heap[b]? = some o' := fun b o' hb ho => by rw [World.putObj_heap_other hb]; exact ho
  have hst : StabC w (Own X s ρ lh) (w.putObj m (.deferred o)) (Own X s ρ lh) := fun b cs e f hb ho => ⟨kp b _ (fun e1 => by subst e1; rw [hm] at hb; cases hb) hb, ho⟩
  refine ⟨?_, hst⟩
  exact
  { blk := fun id segs e => by
      obtain ⟨b, sz, q1, l, q2, q3, q4⟩ := hs.blk id segs e
      refine ⟨b, sz, q1, l, q2.stabC hst (Le.refl _) (Le.refl _), q3, fun h0 => ?_⟩
      obtain ⟨cs, elem, q5, q6⟩ := q4 h0
      exact ⟨cs, elem, kp b _ (fun e1 => by subst e1; rw [hm] at q5; cases q5) q5, q6⟩
    inj := hs.inj
    foreign := hs.foreign
    nxt := hs.nxt
    hd := fun n x e => by
      obtain ⟨l, r, q1, q2, q3, q4, q5, q6, q7, q8, q9⟩ := hs.hd n x e
      exact ⟨l, r, q1, kp l _ (fun e1 => by subst e1; rw [hm] at q2; cases q2) q2, q3, q4, q5, q6, q7, q8, fun t sv ht => (q9 t sv ht).stabC hst (Le.refl _) (Le.refl _)⟩
    hinj := hs.hinj
    hnxt := hs.hnxt
    glob := fun g sv hg => (hs.glob g sv hg).stabC hst
    xlt := fun b hb => by have := hs.xlt b hb; simpa using this }
end
end Go.SE
/- Code. -/
namespace Go.SE
open Go

inductive Ex where
  | normal
  | exit (id : Nat)
  | ret
def Ex.toExit : Ex → Exit
  | .normal => .normal
  | .exit id => .exit id
  | .ret => .ret
/-- What holds at a loop's head: a family of states; how it goes on. -/
structure Inv : Type 1 where
  ι : Type
  init : ι
  pre : ι → Prop
  next : ι → ι
  μ : ι → Nat
  st : ι → St → St
/-- The same with two families of states; which one is entered is seen at the state. -/
structure Inv2 : Type 1 where
  ι : Type
  init : ι
  pre : Bool → ι → Prop
  next : ι → ι
  μ : ι → Nat
  st : Bool → ι → St → St
  pick : St → Bool
inductive Ann : Type 1 where
  | mk (loops : List (Nat × Inv)) (iters : List (Nat × Ann))
  | mk2 (loops : List (Nat × Inv)) (twos : List (Nat × Inv2)) (iters : List (Nat × Ann))
def lookU {α : Type 1} : List (Nat × α) → Nat → Option α
  | [], _ => none
  | (k, a) :: r, n => if k = n then some a else lookU r n
def Ann.loop (A : Ann) (id : Nat) : Option Inv := match A with
  | .mk l _ => lookU l id
  | .mk2 l _ _ => lookU l id
def Ann.two (A : Ann) (id : Nat) : Option Inv2 := match A with
  | .mk _ _ => none
  | .mk2 _ l _ => lookU l id
def Ann.iter (A : Ann) (id : Nat) : Ann := match A with
  | .mk _ l => match lookU l id with
    | some B => B
    | none => .mk [] []
  | .mk2 _ _ l => match lookU l id with
    | some B => B
    | none => .mk [] []
structure FBody where
  ntmps : Nat
  code : Code
structure Env where
  T : List TI
  FT : FTab
  G : List (Nat × SV)
  FB : List (Nat × FBody)

def inBlk (id : Nat) (K : Ex → St → VT) : Ex → St → VT := fun e s => match e with
  | .exit id' => match decide (id' = id) with
    | true => K .normal s
    | false => K (.exit id') s
  | .normal => K .normal s
  | .ret => K .ret s
def putParams : List SV → List Tmp → List SV → List SV
  | ts, p :: ps, x :: xs => putParams (ts.set p x) ps xs
  | ts, _, _ => ts
def pendOf : Ex → Option Code
  | .normal => none
  | .exit id => some (.exit id)
  | .ret => some .ret
def stOf : Ex → LoopState
  | .normal => .ready
  | _ => .done
def ansOf : Ex → SV
  | .normal => .bool true
  | _ => .bool false
def iterTmps (n L : Nat) (first caps : List SV) : List SV := (first ++ (.yv L :: caps)) ++ List.replicate (n - (first ++ (SV.yv L :: caps)).length) (.tup [])
/-- Behind a range over a function. -/
def afterRange (L : Nat) (tmps : List SV) (K : Ex → St → VT) (s' : St) : VT := match s'.hs with
  | (L', h) :: r => match decide (L' = L), h.st with
    | false, _ => .fail
    | true, .busy => .fail
    | true, _ => match h.pend with
      | none => K .normal { s' with tmps := tmps, hs := r }
      | some .ret => K .ret { s' with tmps := tmps, hs := r }
      | some (.exit id) => K (.exit id) { s' with tmps := tmps, hs := r }
      | _ => .fail
  | [] => .fail
def tplOf (I : Inv) (s : St) (i : I.ι) : St := { I.st i s with hs := s.hs, nh := s.nh }
def tplOf2 (I : Inv2) (s : St) (b : Bool) (i : I.ι) : St := { I.st b i s with hs := s.hs, nh := s.nh }
/-- What is to be shown where a loop's head is reached. -/
def goOn2 (I : Inv2) (lo : Nat) (s s' : St) (b : Bool) (i : I.ι) : VT := match b with
  | true => .vc (I.pre true i) (wk lo s' (tplOf2 I s true i) (.ok True))
  | false => .vc (I.pre false i) (wk lo s' (tplOf2 I s false i) (.ok True))

mutual
def wpCode (E : Env) : Nat → Ann → YH → Nat → Code → St → (Ex → St → VT) → VT
  | 0, _, _, _, _, _, _ => .fail
  | f + 1, A, Y, lo, c, s, K => match c with
    | .skip => K .normal s
    | .region _ ops draw => wpRegion E.T E.FT E.G Y ops.toList draw s (K .normal)
    | .seq x y => wpCode E f A Y lo x s fun e s' => match e with
      | .normal => wpCode E f A Y lo y s' K
      | .exit id => K (.exit id) s'
      | .ret => K .ret s'
    | .cond c x y => match ev E.G s c with
      | .bool v => .split v (wpCode E f A Y lo x s K) (wpCode E f A Y lo y s K)
      | _ => .fail
    | .block id b => match b with
      | .loop b' => match A.loop id with
        | some I => .both (.vc (I.pre I.init) (wk lo s (tplOf I s I.init) (.ok True)))
            (.all fun i => .imp (I.pre i) (wpCode E f A Y lo b' (tplOf I s i) fun e s' => match e with
              | .normal => .vc (I.pre (I.next i) ∧ I.μ (I.next i) < I.μ i) (wk lo s' (tplOf I s (I.next i)) (.ok True))
              | .exit id' => inBlk id K (.exit id') s'
              | .ret => K .ret s'))
        | none => match A.two id with
          | some I => .both (goOn2 I lo s s (I.pick s) I.init)
              (.both (.all fun i => .imp (I.pre false i) (wpCode E f A Y lo b' (tplOf2 I s false i) fun e s' => match e with
                | .normal => .vc (I.μ (I.next i) < I.μ i) (goOn2 I lo s s' (I.pick s') (I.next i))
                | .exit id' => inBlk id K (.exit id') s'
                | .ret => K .ret s'))
              (.all fun i => .imp (I.pre true i) (wpCode E f A Y lo b' (tplOf2 I s true i) fun e s' => match e with
                | .normal => .vc (I.μ (I.next i) < I.μ i) (goOn2 I lo s s' (I.pick s') (I.next i))
                | .exit id' => inBlk id K (.exit id') s'
                | .ret => K .ret s')))
          | none => wpCode E f A Y lo (.loop b') s (inBlk id K)
      | .rangeFunc g ps as bd => wpRange E f A (A.iter id) Y g ps as bd s (inBlk id K)
      | b => wpCode E f A Y lo b s (inBlk id K)
    | .loop b => wpCode E f A Y lo b s fun e s' => match e with
      | .normal => wpCode E f A Y lo (.loop b) s' K
      | .exit id => K (.exit id) s'
      | .ret => K .ret s'
    | .exit id => K (.exit id) s
    | .ret => K .ret s
    | _ => .fail
def wpRange (E : Env) : Nat → Ann → Ann → YH → Operand → Array Tmp → Code → Code → St → (Ex → St → VT) → VT
  | 0, _, _, _, _, _, _, _, _, _ => .fail
  | f + 1, A, B, Y, g, ps, as, bd, s, K => match ev E.G s g with
    | .fn fid first caps => match look E.FB fid with
      | some fb => wpCode E f B (wpYield E f A Y s.nh) s.next fb.code { s.pushHd ⟨s.tmps, ps, as, bd, s.next, .ready, none⟩ with tmps := iterTmps fb.ntmps s.nh first caps } fun e s' => match e with
        | .exit _ => .fail
        | _ => afterRange s.nh s.tmps K s'
      | none => .fail
    | _ => .fail
/-- A round of a loop over a function. -/
def wpYield (E : Env) : Nat → Ann → YH → Nat → YH
  | 0, _, _, _, _, _, _, _ => .fail
  | f + 1, A, Y, L, s, L0, args, K => match decide (L0 = L) with
    | false => Y s L0 args K
    | true => match s.hd L with
      | some h => match h.st, decide (args.length = h.params.size) with
        | .ready, true => wpCode E f A Y s.next h.assign { s with tmps := putParams h.tmps h.params.toList args } fun e s1 => match e with
          | .normal => match s1.hd L with
            | some h1 => match h1.st with
              | .ready => wpCode E f A Y s.next h.body (s1.setHd L { h1 with st := .busy }) fun e s2 => match s2.hd L with
                | some h2 => K (ansOf e) { s2.setHd L { h2 with st := stOf e, pend := pendOf e } with tmps := s.tmps }
                | none => .fail
              | _ => .fail
            | none => .fail
          | _ => .fail
        | _, _ => .fail
      | none => .fail
end

theorem least {p : Nat → Prop} (h : ∃ m, p m) : ∃ m, p m ∧ ∀ k, p k → m ≤ k := by
  obtain ⟨m, hm⟩ := h
  induction m using Nat.strongRecOn with
  | _ m ih =>
    by_cases hk : ∃ k, k < m ∧ p k
    · obtain ⟨k, h1, h2⟩ := hk; exact ih k h1 h2
    · exact ⟨m, hm, fun k hp => Nat.le_of_not_lt fun hlt => hk ⟨k, hlt, hp⟩⟩
theorem wpIn_loop_ex {F : Fence} {n : Nat} {P : Program} {c : Code} {Q : Exit → Act → World → Prop} {a : Act} {w : World} (I : Nat → Act → World → Prop) (h0 : ∃ m, I m a w)
    (round : ∀ m a w, I m a w → c.wpIn F n P (Exit.then (fun a' w' => ∃ m', m' < m ∧ I m' a' w') Q) a w) : (Code.loop c).wpIn F n P Q a w := by
  classical
  refine wpIn_loop (fun a w => ∃ m, I m a w) (fun a w => if h : ∃ m, I m a w then Classical.choose (least h) else 0) h0 fun a w hI => ?_
  have hs := Classical.choose_spec (least hI)
  refine wpIn_mono (round _ a w hs.1) fun e a' w' hq => ?_
  cases e with
  | normal =>
    obtain ⟨m', hlt, hI'⟩ := hq
    have hx : ∃ m, I m a' w' := ⟨m', hI'⟩
    refine ⟨hx, ?_⟩
    simp only [dif_pos hI, dif_pos hx]
    exact Nat.lt_of_le_of_lt ((Classical.choose_spec (least hx)).2 m' hI') hlt
  | _ => exact hq
end Go.SE
