/- Appending; freezing; names changed. -/
import Derived.Test.YtjbnpbnfkgmkoaaDoorS2
import Derived.OrdersIn
set_option linter.all false
namespace Go.SE
open Go

section
variable {P : Program} {X : Nat → Prop} {G : List (Nat × SV)} {s : St} {ρ : Rho} {lh : Lam} {w : World} {fr : Nat} {own : Nat → Prop}

/-- What is appended: n elements with these cells. -/
def SrcOK (P : Program) (w : World) (u : Nat) (i : TypeInfo) (z : Value) (x : Value) (n : Nat) (news : Array Value) : Prop :=
  ((∃ d, P.underlying u = some d ∧ ∀ k, d ≠ .int k) ∧ (∀ w', (Builtin.lenOf x).run P w' = .ok n w') ∧ ∀ w' : World, w'.heap = w.heap → (Builtin.firstCells i.size n x).run P w' = .ok news w') ∨
  (P.underlying u = some (.int .i64) ∧ x = vInt n ∧ n ≤ 4294967296 ∧ i.bytes ≤ 32768 ∧ news = Builtin.zeroCells z.cells n)

theorem zeroCells_zero (z : Array Value) (n : Nat) (h : n * z.size = 0) : Builtin.zeroCells z n = #[] := by
  simp only [Builtin.zeroCells]
  rw [h, Array.range_zero']; simp

theorem run_append_core {t u e ty0 : Nat} {i : TypeInfo} {z : Value} (ht : P.underlying t = some (.slice e)) (hi : P.info? e = some i) (hz : i.zero = some z) (hzs : z.cells.size = i.size) {x : Value} {n : Nat} {news : Array Value}
    (hsrc : SrcOK P w u i z x n news) (base : Option Addr) (sLen sCap : Nat) :
    (sLen + n ≤ sCap → ∀ w', ((match base with | some a => storeCells (a.add (sLen * i.size)) news.toList | none => (pure () : Sem Unit)).run P w = .ok () w') →
      (Builtin.append_ #[t, u] ty0 #[.slice base sLen sCap, x]).run P w = .ok (.slice base (sLen + n) sCap) w') ∧
    (sCap < sLen + n → sLen + n ≤ 8589934592 → i.bytes ≤ 16384 → ∀ old : Array Value, (∀ w' : World, w'.heap = w.heap → (Builtin.firstCells i.size sLen (.slice base sLen sCap)).run P w' = .ok old w') →
      (Builtin.append_ #[t, u] ty0 #[.slice base sLen sCap, x]).run P w = .ok (.slice (some ⟨w.heap.size, 0, none⟩) (sLen + n) (grownCap w (sLen + n) sCap e))
        (w.drew.alloc (.cells (old ++ news ++ Builtin.zeroCells z.cells (grownCap w (sLen + n) sCap e - (sLen + n))) e))) := by
  have hsz : (sizeOf e).run P w = .ok i.size w := by simp [sizeOf, typeInfo, hi]
  rcases hsrc with ⟨⟨d, hd, hk⟩, hlen, hcells⟩ | ⟨hu, rfl, hn, hby, rfl⟩
  · refine ⟨fun hroom w' hst => ?_, fun hg h33 hby old hold => ?_⟩
    · have hc := hcells w rfl
      cases base with
      | none =>
        simp at hst
        subst hst
        simp [Builtin.append_, Go.run_underlying ht, Go.run_underlying hd, sizeOf, typeInfo, hi, hlen, hroom, hc]
      | some a =>
        simp [Builtin.append_, Go.run_underlying ht, Go.run_underlying hd, sizeOf, typeInfo, hi, hlen, hroom, hc, hst]
    · have hn : ¬ (sLen + n ≤ sCap) := by omega
      have hb1 : (sLen + n) * i.bytes ≤ 8589934592 * 16384 := Nat.mul_le_mul h33 hby
      have hfit : Builtin.nextslicecap (sLen + n) sCap * i.bytes ≤ 281474976710656 := growslice_fits hg (by omega)
      have h48' : ¬ (281474976710656 < Builtin.nextslicecap (sLen + n) sCap * i.bytes) := by omega
      have h63' : ¬ (9223372036854775807 < ((sLen : Int) + (n : Int))) := by omega
      have hc := hcells w.drew rfl
      have ho := hold w.drew rfl
      simp [Builtin.append_, Go.run_underlying ht, Go.run_underlying hd, sizeOf, typeInfo, zeroValue, hi, hz, hlen, hn, h63', h48', Question.forced, hc, ho, newRow, grownCap]
  · have hwrap : IntKind.i64.wrap (n : Int) = n := by rw [IntKind.wrap_i64]; omega
    have hnn : ¬ ((n : Int) < 0) := by omega
    have hb0 : (n : Int) * (i.bytes : Int) ≤ 281474976710656 := by
      have := Nat.mul_le_mul hn hby
      have h2 : ((n * i.bytes : Nat) : Int) ≤ 281474976710656 := by omega
      rwa [Int.natCast_mul] at h2
    have hb0' : ¬ (281474976710656 < (n : Int) * (i.bytes : Int)) := by omega
    refine ⟨fun hroom w' hst => ?_, fun hg h33 hby old hold => ?_⟩
    · by_cases h0 : n * i.size = 0
      · rw [zeroCells_zero _ _ (by rw [hzs]; exact h0)] at hst
        cases base with
        | none =>
          simp at hst
          subst hst
          simp [Builtin.append_, vInt, Go.run_underlying ht, Go.run_underlying hu, sizeOf, typeInfo, hi, asInt, asIntOf, hwrap, hnn, hb0', hroom, h0]
        | some a =>
          simp [Builtin.append_, vInt, Go.run_underlying ht, Go.run_underlying hu, sizeOf, typeInfo, hi, asInt, asIntOf, hwrap, hnn, hb0', hroom, h0] at hst ⊢
          simp [hst]
      · cases base with
        | none =>
          simp at hst
          subst hst
          simp [Builtin.append_, vInt, Go.run_underlying ht, Go.run_underlying hu, sizeOf, typeInfo, zeroValue, hz, hi, asInt, asIntOf, hwrap, hnn, hb0', hroom]
        | some a =>
          simp [Builtin.append_, vInt, Go.run_underlying ht, Go.run_underlying hu, sizeOf, typeInfo, zeroValue, hz, hi, asInt, asIntOf, hwrap, hnn, hb0', hroom, h0] at hst ⊢
          simp [hst]
    · have hn : ¬ (sLen + n ≤ sCap) := by omega
      have hb1 : (sLen + n) * i.bytes ≤ 8589934592 * 16384 := Nat.mul_le_mul h33 hby
      have hfit : Builtin.nextslicecap (sLen + n) sCap * i.bytes ≤ 281474976710656 := growslice_fits hg (by omega)
      have h48' : ¬ (281474976710656 < Builtin.nextslicecap (sLen + n) sCap * i.bytes) := by omega
      have h63' : ¬ (9223372036854775807 < ((sLen : Int) + (n : Int))) := by omega
      have ho := hold w.drew rfl
      by_cases h0 : n * i.size = 0
      · rw [zeroCells_zero _ _ (by rw [hzs]; exact h0)]
        simp [Builtin.append_, vInt, Go.run_underlying ht, Go.run_underlying hu, sizeOf, typeInfo, zeroValue, hz, hi, asInt, asIntOf, hwrap, hnn, hb0', h0, hn, h63', h48', Question.forced, ho, newRow, grownCap]
      · simp [Builtin.append_, vInt, Go.run_underlying ht, Go.run_underlying hu, sizeOf, typeInfo, zeroValue, hz, hi, asInt, asIntOf, hwrap, hnn, hb0', h0, hn, h63', h48', Question.forced, ho, newRow, grownCap]

/-! ### Names -/
/-- An owned block gets another name. -/
theorem SatH.rename (h : SatH X G s ρ lh w) {id : Nat} {g : List Seg} {b sz : Nat} (hg : s.blk id = some g) (hr : ρ id = some (b, sz)) (hn : ρ fr = none) (hlt : fr < s.next) :
    SatH X G ((s.drop id).setBlk fr g) (ρ.upd fr (b, sz)) lh w ∧ Goes s.next s.nh s ((s.drop id).setBlk fr g) ρ (ρ.upd fr (b, sz)) lh lh w w := by
  have hne : id ≠ fr := fun e => by subst e; rw [hn] at hr; cases hr
  have hmine : ∀ c, Mine ((s.drop id).setBlk fr g) (ρ.upd fr (b, sz)) lh c → Mine s ρ lh c := by
    rintro c (⟨i, segs, sz', h1, h2, h3⟩ | ⟨L, x, h1, h2⟩)
    · by_cases hi : i = fr
      · subst hi
        rw [Rho.upd_same] at h2; cases h2
        exact .inl ⟨id, g, sz, hg, hr, h3⟩
      · simp only [St.blk_setBlk, hi, if_false, St.blk_drop] at h1
        split at h1
        · cases h1
        · rw [Rho.upd_other _ _ hi] at h2
          exact .inl ⟨i, segs, sz', h1, h2, h3⟩
    · exact .inr ⟨L, x, h1, h2⟩
  have hgo : Goes s.next s.nh s ((s.drop id).setBlk fr g) ρ (ρ.upd fr (b, sz)) lh lh w w :=
    ⟨Nat.le_refl _, fun _ _ hb _ => hb, fun c hc => .inl (hmine c hc), fun i _ r hi => Rho.le_upd _ hn i r hi, fun _ _ _ h => h, rfl, rfl⟩
  have hst := hgo.stab (X := X)
  refine ⟨h.step hgo (by simp) ?_ ?_ (fun c hc => h.foreign c (hmine c hc)) ?_ (fun _ _ _ _ _ _ ho => ho) rfl (Nat.le_refl _), hgo⟩
  · intro i segs he
    by_cases hi : i = fr
    · subst hi
      simp only [St.blk_setBlk, if_true, Option.some.injEq] at he
      subst he
      obtain ⟨b', sz', e1, l, hd, hl, hb⟩ := h.blk id g hg
      rw [hr] at e1; cases e1
      exact .inr ⟨b, sz, Rho.upd_same _ _ _, l, hd.stab hst (Rho.le_upd _ hn) (Le.refl _), hl, hb⟩
    · simp only [St.blk_setBlk, hi, if_false, St.blk_drop] at he
      split at he
      · cases he
      · exact .inl ⟨he, fun _ _ _ _ _ ho => ho⟩
  · intro i i' segs segs' c sz1 sz2 h1 h2 h3 h4 h5 h6
    have up : ∀ j segs sz', ((s.drop id).setBlk fr g).blk j = some segs → (ρ.upd fr (b, sz)) j = some (c, sz') → ∃ j0 segs0, s.blk j0 = some segs0 ∧ ρ j0 = some (c, sz') ∧ ((j = fr ∧ j0 = id) ∨ (j ≠ fr ∧ j0 = j ∧ j ≠ id)) := fun j segs sz' e1 e2 => by
      by_cases hj : j = fr
      · subst hj
        rw [Rho.upd_same] at e2; cases e2
        exact ⟨id, g, hg, hr, .inl ⟨rfl, rfl⟩⟩
      · simp only [St.blk_setBlk, hj, if_false, St.blk_drop] at e1
        split at e1
        · cases e1
        · rename_i hji
          rw [Rho.upd_other _ _ hj] at e2
          exact ⟨j, segs, e1, e2, .inr ⟨hj, rfl, hji⟩⟩
    obtain ⟨j, sg, a1, a2, a3⟩ := up i segs sz1 h1 h3
    obtain ⟨j', sg', b1, b2, b3⟩ := up i' segs' sz2 h2 h4
    have := h.inj j j' sg sg' c sz1 sz2 a1 b1 a2 b2 h5 h6
    rcases a3 with ⟨rfl, rfl⟩ | ⟨_, rfl, a4⟩ <;> rcases b3 with ⟨rfl, rfl⟩ | ⟨_, rfl, b4⟩
    · rfl
    · exact absurd this.symm b4
    · exact absurd this a4
    · exact this
  · intro i r hi
    by_cases hii : i = fr
    · subst hii; exact hlt
    · rw [Rho.upd_other _ _ hii] at hi; exact h.nxt i r hi

/-- A name for no block. -/
theorem nameZero (h : SatH X G s ρ lh w) {g : List Seg} (b0 : Nat) (hn : ρ fr = none) (hlt : fr < s.next) (hd : DenS w (Own X s ρ lh) ρ lh g []) :
    SatH X G (s.setBlk fr g) (ρ.upd fr (b0, 0)) lh w ∧ Goes s.next s.nh s (s.setBlk fr g) ρ (ρ.upd fr (b0, 0)) lh lh w w := by
  have hmine : ∀ c, Mine (s.setBlk fr g) (ρ.upd fr (b0, 0)) lh c → Mine s ρ lh c := by
    rintro c (⟨i, segs, sz', h1, h2, h3⟩ | ⟨L, x, h1, h2⟩)
    · by_cases hi : i = fr
      · subst hi
        rw [Rho.upd_same] at h2; cases h2
        exact absurd rfl h3
      · simp only [St.blk_setBlk, hi, if_false] at h1
        rw [Rho.upd_other _ _ hi] at h2
        exact .inl ⟨i, segs, sz', h1, h2, h3⟩
    · exact .inr ⟨L, x, h1, h2⟩
  have hgo : Goes s.next s.nh s (s.setBlk fr g) ρ (ρ.upd fr (b0, 0)) lh lh w w :=
    ⟨Nat.le_refl _, fun _ _ hb _ => hb, fun c hc => .inl (hmine c hc), fun i _ r hi => Rho.le_upd _ hn i r hi, fun _ _ _ h => h, rfl, rfl⟩
  have hst := hgo.stab (X := X)
  refine ⟨h.step hgo (by simp) ?_ ?_ (fun c hc => h.foreign c (hmine c hc)) ?_ (fun _ _ _ _ _ _ ho => ho) rfl (Nat.le_refl _), hgo⟩
  · intro i segs he
    by_cases hi : i = fr
    · subst hi
      simp only [St.blk_setBlk, if_true, Option.some.injEq] at he
      subst he
      exact .inr ⟨b0, 0, Rho.upd_same _ _ _, [], hd.stab hst (Rho.le_upd _ hn) (Le.refl _), rfl, fun h0 => absurd rfl h0⟩
    · simp only [St.blk_setBlk, hi, if_false] at he
      exact .inl ⟨he, fun _ _ _ _ _ ho => ho⟩
  · intro i i' segs segs' c sz1 sz2 h1 h2 h3 h4 h5 h6
    by_cases hi : i = fr
    · subst hi; rw [Rho.upd_same] at h3; cases h3; exact absurd rfl h5
    by_cases hi' : i' = fr
    · subst hi'; rw [Rho.upd_same] at h4; cases h4; exact absurd rfl h6
    simp only [St.blk_setBlk, hi, hi', if_false] at h1 h2
    rw [Rho.upd_other _ _ hi] at h3
    rw [Rho.upd_other _ _ hi'] at h4
    exact h.inj i i' segs segs' c sz1 sz2 h1 h2 h3 h4 h5 h6
  · intro i r hi
    by_cases hii : i = fr
    · subst hii; exact hlt
    · rw [Rho.upd_other _ _ hii] at hi; exact h.nxt i r hi

theorem dropAll_append (s : St) (a b : List Nat) : s.dropAll (a ++ b) = (s.dropAll a).dropAll b := by
  induction a generalizing s with
  | nil => rfl
  | cons x r ih => simp [St.dropAll, ih]

/-- A block changed in place, under a new name. -/
theorem does_rename (hs : SatH X G s ρ lh w) (hf : Free s ρ fr) {sv : SV} {v : Value} {ids : List Nat} {id : Nat} {g g' : List Seg} {b sz : Nat} (hg : (s.dropAll ids).blk id = some g) (hr : ρ id = some (b, sz))
    {cs' : Array Value} (hz : sz ≠ 0) (hcs : cs'.size = sz) (hd : DenS w (Own X (s.dropAll ids) ρ lh) ρ lh g' cs'.toList) (hv : ∀ w' ρ' own, ρ' fr = some (b, sz) → Den w' own ρ' lh sv v) :
    Does X G s ρ lh w ⟨sv, ids ++ [id], [], [g']⟩ fr v (w.setRow b cs') := by
  obtain ⟨h1, h2⟩ := hs.dropAll ids
  obtain ⟨h3, h4⟩ := h1.write hg hr hz hcs hd
  have hn : ρ fr = none := hf.2 fr (Nat.le_refl _) (by omega)
  have hlt : fr < ((s.dropAll ids).setBlk id g').next := by show fr < (s.dropAll ids).next; simp; have := hf.1; omega
  obtain ⟨h5, h6⟩ := h3.rename (id := id) (g := g') (by simp) hr hn hlt
  have hb : ∀ i, (s.eff ⟨sv, ids ++ [id], [], [g']⟩ fr).blk i = (((((s.dropAll ids).setBlk id g').drop id).setBlk fr g')).blk i := fun i => by
    simp only [St.eff, dropAll_append, St.dropAll, St.setAll, newAt, St.blk_setBlk, St.blk_drop]
    by_cases hi : i = fr
    · simp [hi]
    · by_cases hi2 : i = id
      · simp [hi2]
      · simp [hi2]
  have hh : ∀ L, (s.eff ⟨sv, ids ++ [id], [], [g']⟩ fr).hd L = (((((s.dropAll ids).setBlk id g').drop id).setBlk fr g')).hd L := fun L => by simp
  have hmi := Mine_congr hb hh (ρ.upd fr (b, sz)) lh
  refine ⟨ρ.upd fr (b, sz), h5.congr hb hh (by simp [St.drop, St.setBlk]) (by simp [St.drop, St.setBlk]), hv _ _ _ (Rho.upd_same _ _ _), ?_, ?_⟩
  · have h7 : Goes s.next s.nh s ((s.dropAll ids).setBlk id g') ρ ρ lh lh w (w.setRow b cs') := h2.trans h4 (by simp) (by simp)
    have h8 := h7.trans h6 (by simp [St.setBlk]) (by simp [St.setBlk])
    unfold Goes
    rw [hmi]
    exact h8
  · intro i hi
    by_cases hii : i = fr
    · exact .inr ⟨by omega, by omega⟩
    · rw [Rho.upd_other _ _ hii] at hi; exact .inl hi
/-- Nothing, under a new name. -/
theorem does_nil (hs : SatH X G s ρ lh w) (hf : Free s ρ fr) {sv : SV} {v : Value} {ids : List Nat} {g' : List Seg} (hd : DenS w (Own X (s.dropAll ids) ρ lh) ρ lh g' []) (hv : ∀ w' ρ' own, ρ' fr = some (0, 0) → Den w' own ρ' lh sv v) :
    Does X G s ρ lh w ⟨sv, ids, [], [g']⟩ fr v w := by
  obtain ⟨h1, h2⟩ := hs.dropAll ids
  have hn : ρ fr = none := hf.2 fr (Nat.le_refl _) (by omega)
  obtain ⟨h3, h4⟩ := nameZero h1 0 (g := g') hn (by simp; have := hf.1; omega) hd
  refine ⟨ρ.upd fr (0, 0), h3, hv _ _ _ (Rho.upd_same _ _ _), h2.trans h4 (by simp) (by simp), ?_⟩
  intro i hi
  by_cases hii : i = fr
  · exact .inr ⟨by omega, by omega⟩
  · rw [Rho.upd_other _ _ hii] at hi; exact .inl hi
end

/-! ### Appending -/
inductive Cont where
  | b8 (n : Nat) (xs : List (BitVec 8))
  | row (n : Nat) (xss : List (List (BitVec 8)))
def Cont.n : Cont → Nat
  | .b8 n _ => n
  | .row n _ => n
def Cont.segs : Cont → List Seg
  | .b8 n xs => [.b8s n xs, .spare]
  | .row n xss => [.rows n xss, .spare]
def Cont.add : Cont → Cont → Option Cont
  | .b8 n xs, .b8 m ys => some (.b8 (n + m) (xs ++ ys))
  | .row n xs, .row m ys => some (.row (n + m) (xs ++ ys))
  | _, _ => none
def Cont.DenC (w : World) (own : Nat → Prop) : Cont → List Value → Prop
  | .b8 n xs, l => xs.length = n ∧ l = xs.map v8
  | .row n xss, l => xss.length = n ∧ DenR w own xss l
def Cont.nilLike : Cont → Cont
  | .b8 _ _ => .b8 0 []
  | .row _ _ => .row 0 []

/-- The elements of a slice that are bytes, or rows of bytes. -/
def rowOf (x : SV) (k : List (BitVec 8) → List Nat → Tr) : Tr := match x with
  | .nils => k [] []
  | .sl 1 _ (.b8s _ xs) => k xs []
  | .os id 1 len => .blk id fun g => match g with
    | .b8s n xs :: _ => .vc (n = len) (k xs [id])
    | _ => .fail
  | .osub id 1 off len => .blk id fun g => match g with
    | .b8s n xs :: _ => .vc (off + len ≤ n) (k ((xs.drop off).take len) [id])
    | _ => .fail
  | _ => .fail
def srcT (es : Nat) (x : SV) (k : Nat → Cont → List Nat → Tr) : Tr := match x with
  | .nils => k 0 (.b8 0 []) []
  | .sl es' m (.b8s n ys) => match decide (es' = es) with
    | true => k m (.b8 n ys) []
    | false => .fail
  | .os id es' m => match decide (es' = es) with
    | true => .blk id fun g => match g with
      | .b8s n ys :: _ => .vc (n = mulE es m) (k m (.b8 n ys) [])
      | [.one v] => match es with
        | 1 => .vc (m = 1) (rowOf v fun xs ds => k 1 (.row 1 [xs]) ds)
        | _ => .fail
      | _ => .fail
    | false => .fail
  | .osub id 1 off m => match es with
    | 1 => .blk id fun g => match g with
      | .b8s n ys :: _ => .vc (off + m ≤ n) (k m (.b8 m ((ys.drop off).take m)) [])
      | _ => .fail
    | _ => .fail
  | _ => .fail
def dstT (es : Nat) (x : SV) (k : Option Nat → Bool → Nat → Option Cont → Tr) : Tr := match x with
  | .nils => k none false 0 none
  | .os id es' n => match decide (es' = es) with
    | true => .blk id fun g => match g with
      | .b8s m xs :: _ => .vc (m = mulE es n) (k (some id) false n (some (.b8 m xs)))
      | .rows m xs :: _ => match es with
        | 1 => .vc (m = n) (k (some id) false n (some (.row m xs)))
        | _ => .fail
      | _ => .fail
    | false => .fail
  | .osub id 1 0 n => match es with
    | 1 => .blk id fun g => match g with
      | .b8s m xs :: _ => .vc (n ≤ m) (k (some id) true n (some (.b8 n (xs.take n))))
      | _ => .fail
    | _ => .fail
  | _ => .fail
def appendR (src : Nat → SV) (id : Option Nat) (n : Nat) (c : Option Cont) (m : Nat) (c2 : Cont) (ds : List Nat) : Tr :=
  match (match c with
    | none => c2.nilLike.add c2
    | some c => c.add c2) with
  | none => .fail
  | some c3 => match id with
    | none => .vc (n + m ≤ 4294967296) (.done ⟨src (n + m), ds, [], [c3.segs]⟩)
    | some id => match decide (id ∈ ds) with
      | true => .fail
      | false => .vc (n + m ≤ 4294967296) (.done ⟨src (n + m), ds ++ [id], [], [c3.segs]⟩)
def outSV (fr es : Nat) (sub : Bool) (k : Nat) : SV := match sub with
  | true => .osub fr es 0 k
  | false => .os fr es k
/-- 'append(x, y...)': both slices of the type. -/
def appendT (fr : Nat) (T : List TI) (ti : TI) (x y : SV) : Tr := match ti.k with
  | .slice e => match (ty T e).k.known && decide ((ty T e).bytes ≤ 16384) with
    | true => dstT (ty T e).size x fun id sub n c => srcT (ty T e).size y fun m c2 ds => appendR (outSV fr (ty T e).size sub) id n c m c2 ds
    | false => .fail
  | _ => .fail
/-- 'append(x, make([]byte, n)...)'. -/
def appendMakeT (fr : Nat) (T : List TI) (ti : TI) (x y : SV) : Tr := match ti.k, y with
  | .slice e, .int k => match (ty T e).k, (ty T e).bytes, (ty T e).zero with
    | .u8, 1, [.one (.b8 z)] => dstT 1 x fun id sub n c => .vc (0 ≤ k ∧ k ≤ 4294967296) (appendR (outSV fr 1 sub) id n c k.toNat (.b8 k.toNat (List.replicate k.toNat z)) [])
    | _, _, _ => .fail
  | _, _ => .fail

section
variable {P : Program} {X : Nat → Prop} {G : List (Nat × SV)} {s : St} {ρ : Rho} {lh : Lam} {w : World} {fr : Nat} {own : Nat → Prop}

/-- A block whose name is dropped is nobody's. -/
theorem not_own_drop (hs : SatH X G s ρ lh w) {id : Nat} {g : List Seg} {b sz : Nat} (hg : s.blk id = some g) (hr : ρ id = some (b, sz)) (hz : sz ≠ 0) : ¬ Own X (s.drop id) ρ lh b := by
  have hm : Mine s ρ lh b := .inl ⟨id, g, sz, hg, hr, hz⟩
  rintro (h | ⟨i, segs, sz', h1, h2, h3⟩ | ⟨L, x, h1, h2⟩)
  · exact hs.foreign b hm h
  · simp only [St.blk_drop] at h1
    split at h1
    · cases h1
    · rename_i hi
      exact hi (hs.inj i id segs g b sz' sz h1 hg h2 hr h3 hz)
  · obtain ⟨cs, elem, hb, _⟩ := hs.row hg hr hz
    obtain ⟨l', r, e1, e2, _⟩ := hs.hd L x h1
    rw [h2] at e1; cases e1
    rw [hb] at e2; cases e2
theorem own_dropAll {ids : List Nat} : ∀ {s : St} {b : Nat}, Own X (s.dropAll ids) ρ lh b → Own X s ρ lh b := by
  induction ids with
  | nil => intro s b h; exact h
  | cons x r ih => intro s b h; exact Own.drop_sub (ih (s := s.drop x) h)
theorem Stab.of_sub {own own' : Nat → Prop} (h : ∀ b, own' b → own b) : Stab w own w own' := fun _ _ hb ho => ⟨hb, fun h' => ho (h _ h')⟩

/-- Bytes of an owned block, seen as a slice once the block is nobody's. -/
theorem frozen_slice (hs : SatH X G s ρ lh w) {id off n : Nat} {xs : List (BitVec 8)} {r : List Seg} {b sz cap : Nat} (hg : s.blk id = some (.b8s n xs :: r)) (hr : ρ id = some (b, sz)) {ys : List (BitVec 8)} (hys : ys = (xs.drop off).take ys.length)
    (hc : ys.length ≤ cap) : Den0 w (Own X (s.drop id) ρ lh) (.sl 1 ys.length (.b8s ys.length ys)) (.slice (some ⟨b, off, none⟩) ys.length cap) := by
  have hd : DenS0 w (Own X (s.drop id) ρ lh) [.b8s ys.length ys] (ys.map v8) := by
    have := DenS0.b8s (w := w) (own := Own X (s.drop id) ρ lh) (n := ys.length) (xs := ys) rfl .nil
    rwa [List.append_nil] at this
  refine .sl hd (by simp) hc ?_
  by_cases hy : ys = []
  · left; simp [hy]
  · right
    obtain ⟨b', sz', e1, l, hd1, hl, hb⟩ := hs.blk id _ hg
    rw [hr] at e1; cases e1
    obtain ⟨l1, l2, rfl, hd2, _⟩ := hd1.inv_seg (by intro v; simp)
    cases hd2 with
    | b8s hn h0 =>
      cases h0
      simp only [List.append_nil, List.length_append, List.length_map] at hl
      have hlen : 0 < xs.length := by
        cases xs with
        | nil => simp at hys; exact absurd hys hy
        | cons _ _ => simp
      have hz : sz ≠ 0 := by omega
      obtain ⟨cs, elem, hcell, hcs⟩ := hb hz
      refine ⟨b, off, cs, elem, _, rfl, hcell, not_own_drop hs hg hr hz, ?_⟩
      unfold liesAt
      rw [hcs, List.append_nil, List.length_map]
      have : ((xs.map v8 ++ l2).drop off).take ys.length = (((xs.drop off).take ys.length)).map v8 := by
        have hle : ys.length ≤ xs.length - off := by
          have := congrArg List.length hys
          simp at this; omega
        rw [List.map_take, List.map_drop, List.drop_append_of_le_length (by
          have h0 : 0 < ys.length := List.length_pos_iff.2 hy
          simp; omega), List.take_append_of_le_length (by simp; omega)]
      rw [this, ← hys]

theorem rowOf_sound (hs : SatH X G s ρ lh w) {x : SV} {v : Value} {k : List (BitVec 8) → List Nat → Tr} {e : Eff} {rd : List Nat} (hx : Den w (Own X s ρ lh) ρ lh x v) (hok : (rowOf x k).Ok s.blk e rd) :
    ∃ xs ds rd', (k xs ds).Ok s.blk e rd' ∧ Den0 w (Own X (s.dropAll ds) ρ lh) (.sl 1 xs.length (.b8s xs.length xs)) v := by
  have nilS : ∀ (a : Option Addr) (c : Nat) (own : Nat → Prop), Den0 w own (.sl 1 0 (.b8s 0 [])) (.slice a 0 c) := fun a c own => by
    have := DenS0.b8s (w := w) (own := own) (n := 0) (xs := []) rfl .nil
    exact .sl this (by simp) (Nat.zero_le _) (.inl (by simp))
  unfold rowOf at hok
  split at hok
  · obtain rfl : v = .slice none 0 0 := by cases hx with | im h0 => cases h0; rfl
    exact ⟨[], [], rd, hok, nilS _ _ _⟩
  · rename_i len n xs
    refine ⟨xs, [], rd, hok, ?_⟩
    cases hx with
    | im h0 =>
      have h00 := h0
      cases h0 with
      | sl hl hln hc hp =>
        cases hl with
        | b8s hn hr =>
          cases hr
          simp at hln
          rw [← hn, ← hln] at h00
          rw [← hln]
          exact h00
  · rename_i id len
    obtain ⟨g, rd', hg, _, hok⟩ := hok
    dsimp only at hok
    split at hok
    · rename_i n xs r
      obtain ⟨rfl, hok⟩ := hok
      refine ⟨xs, [id], rd', hok, ?_⟩
      have hxl : xs.length = n := by
        obtain ⟨b', sz', e1, l, hd1, hl, hb⟩ := hs.blk id _ hg
        obtain ⟨l1, l2, rfl, hd2, _⟩ := hd1.inv_seg (by intro v; simp)
        cases hd2 with
        | b8s hn _ => exact hn
      cases hx with
      | im h0 => cases h0
      | os hr hc hz =>
        subst hxl
        exact frozen_slice hs hg hr (by simp) hc
      | osn hr =>
        have : xs = [] := List.eq_nil_of_length_eq_zero hxl
        subst this
        exact nilS _ _ _
    · exact hok.elim
  · rename_i id off len
    obtain ⟨g, rd', hg, _, hok⟩ := hok
    dsimp only at hok
    split at hok
    · rename_i n xs r
      obtain ⟨hle, hok⟩ := hok
      refine ⟨_, [id], rd', hok, ?_⟩
      have hxl : xs.length = n := by
        obtain ⟨b', sz', e1, l, hd1, hl, hb⟩ := hs.blk id _ hg
        obtain ⟨l1, l2, rfl, hd2, _⟩ := hd1.inv_seg (by intro v; simp)
        cases hd2 with
        | b8s hn _ => exact hn
      have hl : ((xs.drop off).take len).length = len := by simp; omega
      cases hx with
      | im h0 => cases h0
      | osub hr hc hz =>
        have := frozen_slice hs hg hr (off := off) (ys := (xs.drop off).take len) (by rw [hl]) (by rw [hl]; exact hc)
        rw [hl] at this ⊢
        exact this
      | osubn hr => simpa using nilS _ _ _
      | osubz hr => simpa using nilS _ _ _
    · exact hok.elim
  · exact hok.elim

/-- What is appended. -/
theorem src_sound (hs : SatH X G s ρ lh w) {es : Nat} {x : SV} {v : Value} {k : Nat → Cont → List Nat → Tr} {e : Eff} {rd : List Nat} (hx : Den w (Own X s ρ lh) ρ lh x v) (hok : (srcT es x k).Ok s.blk e rd) :
    ∃ m c ds rd' news, (k m c ds).Ok s.blk e rd' ∧ news.length = m * es ∧ c.DenC w (Own X (s.dropAll ds) ρ lh) news ∧ (∀ w', (Builtin.lenOf v).run P w' = .ok m w') ∧
      ∀ w' : World, w'.heap = w.heap → (Builtin.firstCells es m v).run P w' = .ok news.toArray w' := by
  have cellOf : ∀ {w' : World} {a : Addr}, w'.heap = w.heap → w'.cell? a = w.cell? a := fun h => by simp [World.cell?, h]
  have own8 : ∀ {id off n m : Nat} {xs : List (BitVec 8)} {r : List Seg}, s.blk id = some (.b8s n xs :: r) → off + m * es ≤ n →
      xs.length = n ∧ ∀ {b sz len cap : Nat}, ρ id = some (b, sz) → ∀ w' : World, w'.heap = w.heap → (Builtin.firstCells es m (.slice (some ⟨b, off, none⟩) len cap)).run P w' = .ok (((xs.drop off).take (m * es)).map v8).toArray w' := by
    intro id off n m xs r hg hle
    obtain ⟨b', sz', e1, l, hd1, hl, hb⟩ := hs.blk id _ hg
    obtain ⟨l1, l2, rfl, hd2, _⟩ := hd1.inv_seg (by intro v; simp)
    cases hd2 with
    | b8s hn h0 =>
      cases h0
      refine ⟨hn, fun {b sz len cap} hr w' hw => ?_⟩
      obtain ⟨l', hd', hc⟩ := hs.lies hg hr
      obtain ⟨l3, l4, rfl, hd3, _⟩ := hd'.inv_seg (by intro v; simp)
      cases hd3 with
      | b8s hn' h0 =>
        cases h0
        refine run_firstCells_some (P := P) w' es m _ len cap _ (by simp; omega) fun j u hj => ?_
        rw [cellOf hw, add_zero_spot]
        have hjl := (List.getElem?_eq_some_iff.1 hj).1
        simp only [List.length_map, List.length_take, List.length_drop] at hjl
        have := hc (off + j) u (by
          rw [List.append_nil, List.getElem?_append_left (by simp; omega), List.getElem?_map]
          rw [List.getElem?_map, List.getElem?_take, if_pos (by omega), List.getElem?_drop] at hj
          exact hj)
        rwa [Nat.zero_add] at this
  unfold srcT at hok
  split at hok
  · obtain rfl : v = .slice none 0 0 := by cases hx with | im h0 => cases h0; rfl
    exact ⟨0, _, [], rd, [], hok, by simp, ⟨rfl, rfl⟩, fun w' => by simp [Builtin.lenOf], fun w' _ => by simp [run_firstCells_none]⟩
  · rename_i es' m n ys
    split at hok
    · rename_i he
      have he := of_decide_eq_true he
      subst he
      cases hx with
      | im h0 =>
        cases h0 with
        | sl hl hln hc hp =>
          cases hl with
          | b8s hn hr =>
            cases hr
            simp only [List.append_nil, List.length_map] at hln hp
            refine ⟨m, _, [], rd, ys.map v8, hok, by simpa using hln, ⟨hn, rfl⟩, fun w' => by simp [Builtin.lenOf], fun w' hw => ?_⟩
            rcases hp with hp | ⟨b, off, cs, elem, f, rfl, h1, h2, h3⟩
            · have hy : ys = [] := by simpa using hp
              subst hy
              have h0 : m * es' = 0 := by simpa using hln.symm
              rename_i cap a
              cases a with
              | none => simp [run_firstCells_none]
              | some a => exact run_firstCells_some (P := P) w' es' m a m cap [] (by simp [h0]) (by simp)
            · exact run_firstCells_some (P := P) w' es' m _ m _ _ (by simpa using hln) fun j u hj => by
                rw [cellOf hw, add_zero_spot]
                exact cell_of_lies h1 h3 hj
    · exact hok.elim
  · rename_i id es' m
    split at hok
    · rename_i he
      have he := of_decide_eq_true he
      subst he
      obtain ⟨g, rd', hg, _, hok⟩ := hok
      dsimp only at hok
      split at hok
      · rename_i n ys r
        obtain ⟨hn, hok⟩ := hok
        rw [mulE_eq] at hn
        obtain ⟨hl, hcells⟩ := own8 (off := 0) (m := m) hg (by omega)
        have hall : (ys.drop 0).take (m * es') = ys := by rw [List.drop_zero, List.take_of_length_le (by omega)]
        rw [hall] at hcells
        refine ⟨m, _, [], rd', ys.map v8, hok, by simp; omega, ⟨hl, rfl⟩, ?_, ?_⟩
        · cases hx with
          | im h0 => cases h0
          | os _ _ _ => intro w'; simp [Builtin.lenOf]
          | osn _ => intro w'; simp [Builtin.lenOf]
        · cases hx with
          | im h0 => cases h0
          | os hr _ _ => exact fun w' hw => hcells hr w' hw
          | osn hr =>
            have : ys = [] := List.eq_nil_of_length_eq_zero (by simp at hn; omega)
            subst this
            intro w' _; simp [run_firstCells_none]
      · rename_i v0
        split at hok
        · obtain ⟨rfl, hok⟩ := hok
          cases hx with
          | im h0 => cases h0
          | os hr hc hz =>
            obtain ⟨l, hd, hcell⟩ := hs.lies hg hr
            obtain ⟨x0, l2, rfl, hv0, _, h0⟩ := hd.inv_one
            cases h0
            obtain ⟨xs, ds, rd2, hok, hrow⟩ := rowOf_sound hs hv0 hok
            refine ⟨1, _, ds, rd2, [x0], hok, rfl, ⟨rfl, .cons hrow .nil⟩, fun w' => by simp [Builtin.lenOf], fun w' hw => ?_⟩
            exact run_firstCells_some (P := P) w' 1 1 _ _ _ _ rfl fun j u hj => by
              rw [cellOf hw, add_zero_spot]
              exact hcell j u hj
        · exact hok.elim
      · exact hok.elim
    · exact hok.elim
  · rename_i id off m
    split at hok
    · obtain ⟨g, rd', hg, _, hok⟩ := hok
      dsimp only at hok
      split at hok
      · rename_i n ys r
        obtain ⟨hle, hok⟩ := hok
        obtain ⟨hl, hcells⟩ := own8 (off := off) (m := m) hg (by omega)
        rw [Nat.mul_one] at hcells
        have hlen : ((ys.drop off).take m).length = m := by simp; omega
        refine ⟨m, _, [], rd', ((ys.drop off).take m).map v8, hok, by simp; omega, ⟨hlen, rfl⟩, ?_, ?_⟩
        · cases hx with
          | im h0 => cases h0
          | osub _ _ _ => intro w'; simp [Builtin.lenOf]
          | osubn _ => intro w'; simp [Builtin.lenOf]
          | osubz _ => intro w'; simp [Builtin.lenOf]
        · cases hx with
          | im h0 => cases h0
          | osub hr _ _ => exact fun w' hw => hcells hr w' hw
          | osubn hr => intro w' _; simp [run_firstCells_none]
          | osubz hr => intro w' _; simpa using run_firstCells_some (P := P) w' 1 0 _ _ _ [] rfl (by simp)
      · exact hok.elim
    · exact hok.elim
  · exact hok.elim
end
end Go.SE
/- Appending: soundness. Freezing, makeFunc, min. -/
namespace Go.SE
open Go
section
variable {P : Program} {X : Nat → Prop} {G : List (Nat × SV)} {s : St} {ρ : Rho} {lh : Lam} {w : World} {fr : Nat} {own : Nat → Prop}

/-- Where it is appended. -/
def DstOK (s : St) (w : World) (own : Nat → Prop) (ρ : Rho) (lh : Lam) (es : Nat) (v : Value) : Option Nat → Bool → Nat → Option Cont → Prop
  | none, sub, n, c => sub = false ∧ n = 0 ∧ c = none ∧ v = .slice none 0 0
  | some id, sub, n, c => ∃ cc g b sz, c = some cc ∧ s.blk id = some g ∧ ρ id = some (b, sz) ∧
      (∀ l, DenS w own ρ lh g l → ∃ l1 l2, l = l1 ++ l2 ∧ l1.length = n * es ∧ cc.DenC w own l1) ∧
      ((v = .slice none 0 0 ∧ n = 0) ∨ (∃ cap, v = .slice (some ⟨b, 0, none⟩) n cap ∧ n ≤ cap ∧ cap * es ≤ sz) ∨ (sub = true ∧ n = 0 ∧ ∃ o, v = .slice (some ⟨b, o, none⟩) 0 0))

theorem dst_sound {es : Nat} {x : SV} {v : Value} {k : Option Nat → Bool → Nat → Option Cont → Tr} {e : Eff} {rd : List Nat} (hx : Den w own ρ lh x v) (hok : (dstT es x k).Ok s.blk e rd) :
    ∃ id sub n c rd', (k id sub n c).Ok s.blk e rd' ∧ DstOK s w own ρ lh es v id sub n c := by
  have inv8 : ∀ {m : Nat} {xs : List (BitVec 8)} {r : List Seg} {l : List Value}, DenS w own ρ lh (.b8s m xs :: r) l → xs.length = m ∧ ∃ l2, l = xs.map v8 ++ l2 := by
    intro m xs r l h
    obtain ⟨l1, l2, rfl, hd2, _⟩ := h.inv_seg (by intro v; simp)
    cases hd2 with
    | b8s hn h0 => cases h0; exact ⟨hn, l2, by simp⟩
  unfold dstT at hok
  split at hok
  · obtain rfl : v = .slice none 0 0 := by cases hx with | im h0 => cases h0; rfl
    exact ⟨none, _, _, _, rd, hok, rfl, rfl, rfl, rfl⟩
  · rename_i id es' n
    split at hok
    · rename_i he
      have he := of_decide_eq_true he
      subst he
      obtain ⟨g, rd', hg, _, hok⟩ := hok
      dsimp only at hok
      have hv : ∃ b sz, ρ id = some (b, sz) ∧ ((v = .slice none 0 0 ∧ n = 0) ∨ (∃ cap, v = .slice (some ⟨b, 0, none⟩) n cap ∧ n ≤ cap ∧ cap * es' ≤ sz)) := by
        cases hx with
        | im h0 => cases h0
        | os hr hc hz => exact ⟨_, _, hr, .inr ⟨_, rfl, hc, hz⟩⟩
        | osn hr => exact ⟨_, _, hr, .inl ⟨rfl, rfl⟩⟩
      obtain ⟨b, sz, hr, hv⟩ := hv
      split at hok
      · rename_i m xs r
        obtain ⟨hm, hok⟩ := hok
        rw [mulE_eq] at hm
        refine ⟨some id, false, n, _, rd', hok, _, _, b, sz, rfl, hg, hr, fun l hl => ?_, hv.imp (fun x => x) .inl⟩
        obtain ⟨h1, l2, rfl⟩ := inv8 hl
        exact ⟨_, l2, rfl, by simp; omega, h1, rfl⟩
      · rename_i m xs r
        split at hok
        · obtain ⟨hm, hok⟩ := hok
          refine ⟨some id, false, n, _, rd', hok, _, _, b, sz, rfl, hg, hr, fun l hl => ?_, hv.imp (fun x => x) .inl⟩
          obtain ⟨l1, l2, rfl, hd2, _⟩ := hl.inv_seg (by intro v; simp)
          cases hd2 with
          | rows hn hvs h0 =>
            cases h0
            have := hvs.length
            exact ⟨_, l2, by simp, by omega, hn, hvs⟩
        · exact hok.elim
      · exact hok.elim
    · exact hok.elim
  · rename_i id n
    split at hok
    · obtain ⟨g, rd', hg, _, hok⟩ := hok
      dsimp only at hok
      split at hok
      · rename_i m xs r
        obtain ⟨hm, hok⟩ := hok
        have hv : ∃ b sz, ρ id = some (b, sz) ∧ ((v = .slice none 0 0 ∧ n = 0) ∨ (∃ cap, v = .slice (some ⟨b, 0, none⟩) n cap ∧ n ≤ cap ∧ cap * 1 ≤ sz) ∨ (true = true ∧ n = 0 ∧ ∃ o, v = .slice (some ⟨b, o, none⟩) 0 0)) := by
          cases hx with
          | im h0 => cases h0
          | osub hr hc hz => exact ⟨_, _, hr, .inr (.inl ⟨_, rfl, hc, by omega⟩)⟩
          | osubn hr => exact ⟨_, _, hr, .inl ⟨rfl, rfl⟩⟩
          | osubz hr => exact ⟨_, _, hr, .inr (.inr ⟨rfl, rfl, _, rfl⟩)⟩
        obtain ⟨b, sz, hr, hv⟩ := hv
        refine ⟨some id, true, n, _, rd', hok, _, _, b, sz, rfl, hg, hr, fun l hl => ?_, hv⟩
        obtain ⟨h1, l2, rfl⟩ := inv8 hl
        refine ⟨(xs.take n).map v8, (xs.drop n).map v8 ++ l2, by rw [← List.append_assoc, ← List.map_append, List.take_append_drop], by simp; omega, by simp; omega, rfl⟩
      · exact hok.elim
    · exact hok.elim
  · exact hok.elim

theorem Cont.DenC.stab {own' : Nat → Prop} (h : ∀ b, own' b → own b) {c : Cont} {l : List Value} (hd : c.DenC w own l) : c.DenC w own' l := by
  cases c with
  | b8 n xs => exact hd
  | row n xss => exact ⟨hd.1, hd.2.stab (Stab.of_sub h)⟩
theorem DenR.append {xs ys : List (List (BitVec 8))} : ∀ {l1 l2 : List Value}, DenR w own xs l1 → DenR w own ys l2 → DenR w own (xs ++ ys) (l1 ++ l2)
  | _, _, .nil, h => h
  | _, _, .cons h hr, h' => .cons h (DenR.append hr h')
theorem Cont.add_den {c c2 c3 : Cont} {l1 l2 l3 : List Value} (h1 : c.DenC w own l1) (h2 : c2.DenC w own l2) (e : c.add c2 = some c3) (h3 : ∀ x ∈ l3, x.oneCell' = true) : DenS w own ρ lh c3.segs (l1 ++ l2 ++ l3) := by
  have sp : DenS w own ρ lh [.spare] l3 := by
    have := DenS.seg (w := w) (own := own) (ρ := ρ) (lh := lh) (DenS0.spare h3) .nil
    rwa [List.append_nil] at this
  cases c with
  | b8 n xs =>
    cases c2 with
    | b8 m ys =>
      cases e
      obtain ⟨a1, rfl⟩ := h1
      obtain ⟨a2, rfl⟩ := h2
      refine .seg ?_ sp
      have := DenS0.b8s (w := w) (own := own) (n := n + m) (xs := xs ++ ys) (by simp; omega) .nil
      rwa [List.append_nil, List.map_append] at this
    | row m ys => cases e
  | row n xs =>
    cases c2 with
    | b8 m ys => cases e
    | row m ys =>
      cases e
      obtain ⟨a1, h1⟩ := h1
      obtain ⟨a2, h2⟩ := h2
      refine .seg ?_ sp
      have := DenS0.rows (w := w) (own := own) (n := n + m) (by simp; omega) (h1.append h2) .nil
      rwa [List.append_nil] at this
theorem Cont.DenC.one {c : Cont} {l : List Value} (h : c.DenC w own l) : ∀ x ∈ l, x.oneCell' = true := by
  cases c with
  | b8 n xs => obtain ⟨_, rfl⟩ := h; intro x hx; obtain ⟨y, _, rfl⟩ := List.mem_map.1 hx; rfl
  | row n xss =>
    have := DenS0.rows h.1 h.2 (.nil (w := w) (own := own))
    rw [List.append_nil] at this
    exact this.oneCell
theorem Cont.nil_den {c : Cont} : c.nilLike.DenC w own [] := by
  cases c
  · exact ⟨rfl, rfl⟩
  · exact ⟨rfl, .nil⟩

theorem append_core {t u e0 ty0 : Nat} {i : TypeInfo} {z : Value} (ht : P.underlying t = some (.slice e0)) (hi : P.info? e0 = some i) (hz : i.zero = some z) (hzs : z.cells.size = i.size) (hz1 : ∀ x ∈ z.cells.toList, x.oneCell' = true) (hby : i.bytes ≤ 16384)
    (hs : SatH X G s ρ lh w) (hf : Free s ρ fr) {vx vy : Value} {id : Option Nat} {sub : Bool} {n m : Nat} {c : Option Cont} {c2 : Cont} {ds : List Nat} {news : List Value}
    (hd : DstOK s w (Own X s ρ lh) ρ lh i.size vx id sub n c) (hsrc : SrcOK P w u i z vy m news.toArray) (hnl : news.length = m * i.size) (hc2 : c2.DenC w (Own X (s.dropAll ds) ρ lh) news)
    {e : Eff} {rd : List Nat} (hok : (appendR (outSV fr i.size sub) id n c m c2 ds).Ok s.blk e rd) :
    ∃ v w', (Builtin.append_ #[t, u] ty0 #[vx, vy]).run P w = .ok v w' ∧ Does X G s ρ lh w e fr v w' := by
  have core := run_append_core (ty0 := ty0) ht hi hz hzs hsrc
  have hzc : ∀ k x, x ∈ (Builtin.zeroCells z.cells k).toList → x.oneCell' = true := fun k x hx => by
    simp only [Builtin.zeroCells, Array.toList_map, List.mem_map, Array.toList_range, List.mem_range] at hx
    obtain ⟨j, hj, rfl⟩ := hx
    have hlt : j % z.cells.size < z.cells.size := Nat.mod_lt _ (by
      rcases Nat.eq_zero_or_pos z.cells.size with h | h
      · rw [h, Nat.mul_zero] at hj; omega
      · exact h)
    rw [getElem!_pos z.cells _ hlt]
    exact hz1 _ (by simp)
  have outOs : ∀ {ρ' : Rho} {w' : World} {own : Nat → Prop} {b sz k cap : Nat}, ρ' fr = some (b, sz) → k ≤ cap → cap * i.size ≤ sz → Den w' own ρ' lh (outSV fr i.size sub k) (.slice (some ⟨b, 0, none⟩) k cap) := by
    intro ρ' w' own b sz k cap h1 h2 h3
    cases sub
    · exact .os h1 h2 h3
    · exact .osub h1 h2 (by omega)
  have outN : ∀ {ρ' : Rho} {w' : World} {own : Nat → Prop} {b sz : Nat}, ρ' fr = some (b, sz) → Den w' own ρ' lh (outSV fr i.size sub 0) (.slice none 0 0) := by
    intro ρ' w' own b sz h1
    cases sub
    · exact .osn h1
    · exact .osubn h1
  unfold appendR at hok
  split at hok
  · exact hok.elim
  · rename_i c3 hc3
    cases id with
    | none =>
      obtain ⟨rfl, rfl, rfl, rfl⟩ := hd
      obtain ⟨hle, rfl, rfl⟩ := hok
      dsimp only at hc3
      by_cases hm : m = 0
      · subst hm
        have hn0 : news = [] := List.eq_nil_of_length_eq_zero (by simpa using hnl)
        subst hn0
        refine ⟨_, _, (core none 0 0).1 (Nat.le_refl _) w rfl, does_nil hs hf ?_ fun w' ρ' own hr => outN hr⟩
        exact Cont.add_den (l3 := []) Cont.nil_den hc2 hc3 (by simp)
      · have run := (core none 0 0).2 (by omega) (by omega) hby #[] (fun w' _ => by simp [run_firstCells_none])
        simp only [Nat.zero_add] at run hle ⊢
        refine ⟨_, _, run, does_new hs hf rfl ⟨rfl, rfl⟩ ?_ fun w' ρ' own hr => outOs hr (grownCap_ge _ _ _ _) ?_⟩
        · have := Cont.add_den (ρ := ρ) (lh := lh) Cont.nil_den hc2 hc3 (hzc (grownCap w m 0 e0 - m))
          simpa using this
        · have := grownCap_ge w m 0 e0
          simp only [Array.size_append, size_zeroCells, hzs, List.size_toArray, hnl, Nat.zero_add, List.size_toArray, List.length_nil, ← Nat.add_mul] at this ⊢
          rw [show m + (grownCap w m 0 e0 - m) = grownCap w m 0 e0 by omega]
          exact Nat.le_refl _
    | some id =>
      obtain ⟨cc, g, b, sz, rfl, hg, hr, hcont, hv⟩ := hd
      dsimp only at hc3 hok
      split at hok
      · exact hok.elim
      · rename_i hnd
        have hnd : ¬ id ∈ ds := by simpa using hnd
        obtain ⟨hle, rfl, rfl⟩ := hok
        have hsub : ∀ b, Own X (s.dropAll (ds ++ [id])) ρ lh b → Own X (s.dropAll ds) ρ lh b := fun b hb => by
          rw [dropAll_append] at hb; exact Own.drop_sub hb
        have hsub' : ∀ b, Own X (s.dropAll ds) ρ lh b → Own X s ρ lh b := fun b hb => own_dropAll hb
        have hgd : (s.dropAll ds).blk id = some g := by
          have : ∀ (ds : List Nat) (s : St), id ∉ ds → (s.dropAll ds).blk id = s.blk id := by
            intro ds
            induction ds with
            | nil => intro s _; rfl
            | cons d r ih => intro s h; simp only [List.mem_cons, not_or] at h; simp [St.dropAll, ih _ h.2, h.1]
          rw [this ds s hnd, hg]
        obtain ⟨b', sz', e1, l, hdl, hll, hcell⟩ := hs.blk id g hg
        rw [hr] at e1; cases e1
        obtain ⟨l1, l2, rfl, hl1, hc1⟩ := hcont l hdl
        have hl2 : ∀ x ∈ l2, x.oneCell' = true := fun x hx => hdl.oneCell x (List.mem_append_right _ hx)
        -- the grown row
        have grow : ∀ (base : Option Addr) (cap : Nat), cap < n + m → (∀ w' : World, w'.heap = w.heap → (Builtin.firstCells i.size n (.slice base n cap)).run P w' = .ok l1.toArray w') →
            ∃ v w', (Builtin.append_ #[t, u] ty0 #[.slice base n cap, vy]).run P w = .ok v w' ∧ Does X G s ρ lh w ⟨outSV fr i.size sub (n + m), ds ++ [id], [], [c3.segs]⟩ fr v w' := fun base cap hlt hold => by
          refine ⟨_, _, (core base n cap).2 hlt (by omega) hby l1.toArray hold, does_new hs hf rfl ⟨rfl, rfl⟩ ?_ fun w' ρ' own hr' => outOs hr' (grownCap_ge _ _ _ _) ?_⟩
          · have := Cont.add_den (ρ := ρ) (lh := lh) ((hc1.stab hsub').stab hsub) (hc2.stab hsub) hc3 (hzc (grownCap w (n + m) cap e0 - (n + m)))
            simpa using this
          · have := grownCap_ge w (n + m) cap e0
            simp only [Array.size_append, size_zeroCells, hzs, List.size_toArray, hnl, hl1, ← Nat.add_mul]
            rw [show n + m + (grownCap w (n + m) cap e0 - (n + m)) = grownCap w (n + m) cap e0 by omega]
            exact Nat.le_refl _
        have nothing : n = 0 → m = 0 → DenS w (Own X (s.dropAll (ds ++ [id])) ρ lh) ρ lh c3.segs [] := fun hn hm => by
          subst hn hm
          have hn0 : news = [] := List.eq_nil_of_length_eq_zero (by simpa using hnl)
          have hl0 : l1 = [] := List.eq_nil_of_length_eq_zero (by simpa using hl1)
          subst hn0 hl0
          exact Cont.add_den (l3 := []) ((hc1.stab hsub').stab hsub) (hc2.stab hsub) hc3 (by simp)
        rcases hv with ⟨rfl, rfl⟩ | ⟨cap, rfl, hncap, hcs⟩ | ⟨rfl, rfl, o, rfl⟩
        · by_cases hm : m = 0
          · subst hm
            have hn0 : news = [] := List.eq_nil_of_length_eq_zero (by simpa using hnl)
            subst hn0
            exact ⟨_, _, (core none 0 0).1 (Nat.le_refl _) w rfl, does_nil hs hf (nothing rfl rfl) fun w' ρ' own hr' => outN hr'⟩
          · have hl0 : l1 = [] := List.eq_nil_of_length_eq_zero (by simpa using hl1)
            exact grow none 0 (by omega) (fun w' _ => by rw [hl0]; simp [run_firstCells_none])
        · have hcells : ∀ j x, (l1 ++ l2)[j]? = some x → w.cell? ⟨b, j, none⟩ = some x := fun j x hj => by
            have hlt := (List.getElem?_eq_some_iff.1 hj).1
            obtain ⟨cs, elem, h1, h2⟩ := hcell (by omega)
            simp only [World.cell?, h1]
            rw [← h2] at hj
            simpa using hj
          by_cases hroom : n + m ≤ cap
          · by_cases hz0 : sz = 0
            · -- no cells at all: the elements have no size, or there are none
              have hll0 : l1 = [] ∧ l2 = [] := by
                rw [hz0] at hll
                simpa using hll
              have hms : m * i.size = 0 := by
                have h1 : (n + m) * i.size ≤ cap * i.size := Nat.mul_le_mul_right _ hroom
                rw [Nat.add_mul] at h1
                omega
              have hn0 : news = [] := List.eq_nil_of_length_eq_zero (by omega)
              subst hn0
              obtain ⟨rfl, rfl⟩ := hll0
              subst hz0
              have hrun := (core (some ⟨b, 0, none⟩) n cap).1 hroom w rfl
              refine ⟨_, _, hrun, ?_⟩
              obtain ⟨g1, g2⟩ := hs.dropAll (ds ++ [id])
              have hnone : ρ fr = none := hf.2 fr (Nat.le_refl _) (by omega)
              have hdn : DenS w (Own X (s.dropAll (ds ++ [id])) ρ lh) ρ lh c3.segs [] := Cont.add_den (l3 := []) ((hc1.stab hsub').stab hsub) (hc2.stab hsub) hc3 (by simp)
              obtain ⟨g3, g4⟩ := nameZero g1 b hnone (by simp; have := hf.1; omega) hdn
              refine ⟨ρ.upd fr (b, 0), g3, outOs (Rho.upd_same _ _ _) hroom hcs, g2.trans g4 (by simp) (by simp), ?_⟩
              intro i hi
              by_cases hii : i = fr
              · exact .inr ⟨by omega, by omega⟩
              · rw [Rho.upd_other _ _ hii] at hi; exact .inl hi
            · obtain ⟨cs, elem, h1, h2⟩ := hcell hz0
              have hcsz : cs.size = sz := by rw [← Array.length_toList, h2, hll]
              have hfit : n * i.size + news.length ≤ cs.size := by
                rw [hnl, ← Nat.add_mul, hcsz]
                exact Nat.le_trans (Nat.mul_le_mul_right _ hroom) hcs
              have hst := run_storeCells_mid (P := P) b elem (n * i.size) news 0 cs w h1 (by simpa using hfit) hc2.one
              simp only [Nat.add_zero] at hst
              have hrun := (core (some ⟨b, 0, none⟩) n cap).1 hroom _ (by simpa [add_zero_spot] using hst)
              refine ⟨_, _, hrun, does_rename hs hf hgd hr hz0 (by simp; omega) ?_ fun w' ρ' own hr' => outOs hr' hroom hcs⟩
              have e1 : cs.toList.take (n * i.size) = l1 := by rw [h2, ← hl1, List.take_left]
              have e2 : ∀ x ∈ cs.toList.drop (n * i.size + news.length), x.oneCell' = true := fun x hx => by
                rw [h2] at hx
                exact hdl.oneCell x (List.mem_of_mem_drop hx)
              rw [e1]
              have := Cont.add_den (ρ := ρ) (lh := lh) (hc1.stab hsub') hc2 hc3 e2
              simpa using this
          · exact grow (some ⟨b, 0, none⟩) cap (by omega) fun w' hw => run_firstCells_some (P := P) w' i.size n _ n cap l1 hl1 fun j x hj => by
              rw [add_zero_spot, Nat.zero_add]
              have := hcells j x (by rw [List.getElem?_append_left (List.getElem?_eq_some_iff.1 hj).1]; exact hj)
              simpa [World.cell?, hw] using this
        · have hl0 : l1 = [] := List.eq_nil_of_length_eq_zero (by simpa using hl1)
          by_cases hm : m = 0
          · subst hm
            have hn0 : news = [] := List.eq_nil_of_length_eq_zero (by simpa using hnl)
            subst hn0
            refine ⟨_, _, (core (some ⟨b, o, none⟩) 0 0).1 (Nat.le_refl _) w rfl, ?_⟩
            obtain ⟨g1, g2⟩ := hs.dropAll (ds ++ [id])
            have hnone : ρ fr = none := hf.2 fr (Nat.le_refl _) (by omega)
            obtain ⟨g3, g4⟩ := nameZero g1 b hnone (by simp; have := hf.1; omega) (nothing rfl rfl)
            refine ⟨ρ.upd fr (b, 0), g3, .osubz (Rho.upd_same _ _ _), g2.trans g4 (by simp) (by simp), ?_⟩
            intro i hi
            by_cases hii : i = fr
            · exact .inr ⟨by omega, by omega⟩
            · rw [Rho.upd_other _ _ hii] at hi; exact .inl hi
          · exact grow (some ⟨b, o, none⟩) 0 (by omega) fun w' _ => by
              rw [hl0]
              exact run_firstCells_some (P := P) w' i.size 0 _ 0 0 [] (by simp) (by simp)

theorem append_sound {T : List TI} (hT : TabOK P T) {t ty0 : Nat} (hs : SatH X G s ρ lh w) (hf : Free s ρ fr) {x y : SV} {vx vy : Value} (hx : Den w (Own X s ρ lh) ρ lh x vx) (hy : Den w (Own X s ρ lh) ρ lh y vy)
    {e : Eff} {rd : List Nat} (hok : (appendT fr T (ty T t) x y).Ok s.blk e rd) : ∃ v w', (Builtin.append_ #[t, t] ty0 #[vx, vy]).run P w = .ok v w' ∧ Does X G s ρ lh w e fr v w' := by
  unfold appendT at hok
  split at hok
  · rename_i e0 hk
    split at hok
    · rename_i hb
      simp only [Bool.and_eq_true, decide_eq_true_eq] at hb
      obtain ⟨hk0, hby⟩ := hb
      have hko := TK.known_ne hk0
      obtain ⟨d, hd, hkd⟩ := (hT.get (t := t) (by rw [hk]; simp)).und
      rw [hk] at hkd
      subst hkd
      obtain ⟨i, hi, hs1, hb1, z, hz, hcz⟩ := (hT.get hko).info
      have hzs : z.cells.size = i.size := by rw [← Array.length_toList, hcz, (hT.get hko).len, hs1]
      obtain ⟨id, sub, n, c, rd', hok, hdst⟩ := dst_sound hx hok
      obtain ⟨m, c2, ds, rd2, news, hok, hnl, hc2, hlen, hcells⟩ := src_sound (P := P) hs hy hok
      rw [← hs1] at hdst hnl hcells hok
      exact append_core hd hi hz hzs (by rw [hcz]; exact (zok_den (w := w) (own := fun _ => False) _ (hT.get hko).zero).oneCell) (by omega) hs hf hdst (.inl ⟨⟨_, hd, by simp⟩, hlen, hcells⟩) hnl hc2 hok
    · exact hok.elim
  · exact hok.elim

theorem zeroCells_one (v : Value) (n : Nat) : Builtin.zeroCells #[v] n = (List.replicate n v).toArray := by
  apply Array.ext
  · simp [Builtin.zeroCells]
  · intro i h1 h2
    simp [Builtin.zeroCells, Nat.mod_one]

theorem appendMake_sound {T : List TI} (hT : TabOK P T) {t u ty0 : Nat} (hu : (ty T u).k = .i64) (hs : SatH X G s ρ lh w) (hf : Free s ρ fr) {x y : SV} {vx vy : Value} (hx : Den w (Own X s ρ lh) ρ lh x vx) (hy : Den w (Own X s ρ lh) ρ lh y vy)
    {e : Eff} {rd : List Nat} (hok : (appendMakeT fr T (ty T t) x y).Ok s.blk e rd) : ∃ v w', (Builtin.append_ #[t, u] ty0 #[vx, vy]).run P w = .ok v w' ∧ Does X G s ρ lh w e fr v w' := by
  unfold appendMakeT at hok
  split at hok
  · rename_i e0 k hk
    split at hok
    · rename_i zb hke hby hzz
      have hko : (ty T e0).k ≠ .other := by rw [hke]; simp
      obtain ⟨d, hd, hkd⟩ := (hT.get (t := t) (by rw [hk]; simp)).und
      rw [hk] at hkd
      subst hkd
      obtain ⟨d2, hd2, hkd2⟩ := (hT.get (t := u) (by rw [hu]; simp)).und
      rw [hu] at hkd2
      subst hkd2
      obtain ⟨i, hi, hs1, hb1, z, hz, hcz⟩ := (hT.get hko).info
      have hone := (hT.get hko).one (by unfold TI.agg; rw [hke])
      have hzc : z.cells = #[v8 zb] := by
        apply Array.ext'
        rw [hcz, hzz]; rfl
      obtain ⟨id, sub, n, c, rd', hok, hdst⟩ := dst_sound hx hok
      obtain ⟨⟨h0, h1⟩, hok⟩ := hok
      obtain rfl : vy = vInt k := by cases hy with | im h => cases h; rfl
      have hi1 : i.size = 1 := by rw [hs1, hone]
      rw [← hi1] at hdst hok
      refine append_core (news := (List.replicate k.toNat zb).map v8) (c2 := .b8 k.toNat (List.replicate k.toNat zb)) (ds := []) hd hi hz (by rw [hzc, hi1]; rfl) (by rw [hzc]; simp; rfl) (by omega) hs hf hdst (.inr ⟨hd2, ?_, by omega, by omega, ?_⟩) (by simp [hi1]) ⟨by simp, rfl⟩ hok
      · rw [Int.toNat_of_nonneg h0]
      · rw [hzc, zeroCells_one]; simp
    · exact hok.elim
  · exact hok.elim

/-! ### Freezing; the rest -/
/-- '[]byte(x)' of a slice of bytes that lies in an owned block: the block is nobody's from now on. -/
def freezeT (ti : TI) (x : SV) : Tr := match ti.k with
  | .slice _ => match x with
    | .os id 1 len => .blk id fun g => match g with
      | .b8s n xs :: _ => .vc (n = len ∧ 0 < len) (.done ⟨.sl 1 xs.length (.b8s xs.length xs), [id], [], []⟩)
      | _ => .fail
    | _ => .fail
  | _ => .fail

/-- A block that is nobody's any more may be changed. -/
theorem SatH.dropChange (hs : SatH X G s ρ lh w) {id : Nat} {g : List Seg} {b sz : Nat} (hg : s.blk id = some g) (hr : ρ id = some (b, sz)) (hz : sz ≠ 0) {w' : World} (hq : Mute w w') (hsz : w'.heap.size = w.heap.size) (hk : ∀ k, k ≠ b → w'.heap[k]? = w.heap[k]?) :
    SatH X G (s.drop id) ρ lh w' ∧ Goes s.next s.nh s (s.drop id) ρ ρ lh lh w w' := by
  have hm : Mine s ρ lh b := .inl ⟨id, g, sz, hg, hr, hz⟩
  have hdr : ∀ c, Mine (s.drop id) ρ lh c → Mine s ρ lh c := by
    rintro c (⟨i, segs, sz', h1, h2, h3⟩ | ⟨L, x, h1, h2⟩)
    · simp only [St.blk_drop] at h1
      split at h1
      · cases h1
      · exact .inl ⟨i, segs, sz', h1, h2, h3⟩
    · exact .inr ⟨L, x, h1, h2⟩
  have hgo : Goes s.next s.nh s (s.drop id) ρ ρ lh lh w w' :=
    ⟨by omega, fun c o hc hn => by rw [hk c (fun e => hn (by rw [e]; exact hm))]; exact hc, fun c hc => .inl (hdr c hc), fun _ _ _ h => h, fun _ _ _ h => h, hq⟩
  refine ⟨hs.step hgo (by simp) ?_ ?_ (fun c hc => hs.foreign c (hdr c hc)) hs.nxt ?_ rfl (Nat.le_refl _), hgo⟩
  · intro i segs he
    simp only [St.blk_drop] at he
    split at he
    · cases he
    · rename_i hi
      refine .inl ⟨he, fun c sz' hc hz' o ho => ?_⟩
      rw [hk c (fun e => hi (hs.inj i id segs g b sz' sz he hg (by rw [← e]; exact hc) hr hz' hz))]
      exact ho
  · intro i i' segs segs' c sz1 sz2 h1 h2
    simp only [St.blk_drop] at h1 h2
    split at h1
    · cases h1
    split at h2
    · cases h2
    exact hs.inj i i' segs segs' c sz1 sz2 h1 h2
  · intro L x l hL hl o ho
    obtain ⟨l', r, e1, e2, _⟩ := hs.hd L x hL
    rw [hl] at e1; cases e1
    obtain ⟨cs, elem, hb, _⟩ := hs.row hg hr hz
    rw [hk l (fun e => by rw [e, hb] at e2; cases e2)]
    exact ho

theorem freeze_other (w : World) (a : Addr) (n k : Nat) (h : k ≠ a.block) : (w.freeze a n).heap[k]? = w.heap[k]? := by
  unfold World.freeze
  split
  · rfl
  · simp [Array.getElem?_modify, Ne.symm h]
theorem freeze_size (w : World) (a : Addr) (n : Nat) : (w.freeze a n).heap.size = w.heap.size := by
  unfold World.freeze
  split
  · rfl
  · simp
theorem freeze_cells (w : World) (b n k : Nat) {cs : Array Value} {t : TypeId} {f : Nat × Nat} (h : w.heap[b]? = some (.cells cs t f)) : ∃ f', (w.freeze ⟨b, n, none⟩ k).heap[b]? = some (.cells cs t f') := by
  unfold World.freeze
  split
  · exact ⟨f, h⟩
  · obtain ⟨lo, hi⟩ := f
    obtain ⟨hlt, hv⟩ := Array.getElem?_eq_some_iff.1 h
    exact ⟨(if lo == hi then (n, n + k) else (min lo n, max hi (n + k))), by simp [Array.getElem?_modify, h]⟩

theorem freeze_sound {T : List TI} (hT : TabOK P T) {t e0 : Nat} (hk : (ty T t).k = .slice e0) (hke : (ty T e0).k = .u8) (hs : SatH X G s ρ lh w) {x : SV} {v : Value} (hx : Den w (Own X s ρ lh) ρ lh x v)
    {e : Eff} {rd : List Nat} (hok : (freezeT (ty T t) x).Ok s.blk e rd) : ∃ v' w', (Go.convert t t v).run P w = .ok v' w' ∧ Does X G s ρ lh w e fr v' w' := by
  obtain ⟨d, hd, hkd⟩ := (hT.get (t := t) (by rw [hk]; simp)).und
  rw [hk] at hkd
  subst hkd
  obtain ⟨d2, hd2, hkd2⟩ := (hT.get (t := e0) (by rw [hke]; simp)).und
  rw [hke] at hkd2
  subst hkd2
  unfold freezeT at hok
  split at hok
  · split at hok
    · rename_i id len
      obtain ⟨g, rd', hg, _, hok⟩ := hok
      dsimp only at hok
      split at hok
      · rename_i n xs r
        obtain ⟨⟨rfl, hpos⟩, rfl, rfl⟩ := hok
        cases hx with
        | im h0 => cases h0
        | osn hr => omega
        | @os _ _ _ cap b sz hr hc hz =>
          have hxl : xs.length = n := by
            obtain ⟨b', sz', e1, l, hd1, hl, hb⟩ := hs.blk id _ hg
            obtain ⟨l1, l2, rfl, hd2, _⟩ := hd1.inv_seg (by intro v; simp)
            cases hd2 with
            | b8s hn _ => exact hn
          have hz0 : sz ≠ 0 := by omega
          obtain ⟨cs, elem, hb, hcs, hden⟩ := hs.row hg hr hz0
          have hf := freeze_cells w b cs.size 1 hb
          obtain ⟨f', hf'⟩ := hf
          obtain ⟨h1, h2⟩ := hs.dropChange hg hr hz0 (by unfold World.freeze; split <;> exact ⟨rfl, rfl⟩) (freeze_size w ⟨b, cs.size, none⟩ 1) (fun k hk => freeze_other w _ _ k hk)
          have hno : ¬ Own X (s.drop id) ρ lh b := not_own_drop hs hg hr hz0
          have run : (Go.convert t t (.slice (some ⟨b, 0, none⟩) n cap)).run P w = .ok (.slice (some ⟨b, 0, none⟩) n cap) (w.freeze ⟨b, cs.size, none⟩ 1) := by
            have hsh : w.shape? b = some (elem, cs.size) := by unfold World.shape?; rw [hb]
            simp [Go.convert, Go.run_underlying hd, Go.run_underlying hd2, markStringish, hsh]
          refine ⟨_, _, run, ρ, h1, .im ?_, h2, fun _ h => .inl h⟩
          obtain ⟨l1, l2, hl12, hd3, _⟩ := hden.inv_seg (by intro v; simp)
          cases hd3 with
          | b8s hn h0 =>
            cases h0
            have hd0 : DenS0 (w.freeze ⟨b, cs.size, none⟩ 1) (Own X (s.drop id) ρ lh) [.b8s xs.length xs] (xs.map v8) := by
              have := DenS0.b8s (w := w.freeze ⟨b, cs.size, none⟩ 1) (own := Own X (s.drop id) ρ lh) (n := xs.length) (xs := xs) rfl .nil
              rwa [List.append_nil] at this
            subst hxl
            refine .sl hd0 (by simp) hc (.inr ⟨b, 0, cs, elem, f', rfl, hf', hno, ?_⟩)
            unfold liesAt
            rw [hl12]
            simp
      · exact hok.elim
    · exact hok.elim
  · exact hok.elim

/-- 'min' of two ints. -/
def minT (x y : SV) : Tr := match x, y with
  | .int a, .int b => .val (.int (if b < a then b else a))
  | _, _ => .fail
theorem min_sound {x y : SV} {vx vy : Value} {h : Nat → Option (List Seg)} {e : Eff} {rd : List Nat} {ts : Array TypeId} {ty0 : Nat} (hx : Den w own ρ lh x vx) (hy : Den w own ρ lh y vy) (hok : (minT x y).Ok h e rd) :
    ∃ sv v', e = ⟨sv, [], [], []⟩ ∧ (Builtin.min_ ts ty0 #[vx, vy]).run P w = .ok v' w ∧ Den w own ρ lh sv v' := by
  unfold minT at hok
  split at hok
  · rename_i a b
    obtain ⟨rfl, rfl⟩ := hok
    obtain rfl : vx = vInt a := by cases hx with | im h => cases h; rfl
    obtain rfl : vy = vInt b := by cases hy with | im h => cases h; rfl
    exact ⟨_, _, rfl, by simp [Builtin.min_, Builtin.min2, vInt], .im (.int _)⟩
  · exact hok.elim
theorem cap_sound {t : Nat} {d e0 : Nat} (hd : P.underlying t = some (.slice d)) {x : SV} {vx : Value} {h : Nat → Option (List Seg)} {e : Eff} {rd : List Nat} {ts : Array TypeId} (ht : ts[0]? = some t) (hx : Den w own ρ lh x vx) (hok : (capT x).Ok h e rd) :
    ∃ sv v', e = ⟨sv, [], [], []⟩ ∧ (Builtin.cap_ ts e0 #[vx]).run P w = .ok v' w ∧ Den w own ρ lh sv v' := by
  unfold capT at hok
  split at hok
  · obtain ⟨rfl, rfl⟩ := hok
    obtain rfl : vx = .slice none 0 0 := by cases hx with | im h => cases h; rfl
    exact ⟨_, _, rfl, by simp [Builtin.cap_, ht, Go.run_underlying hd, goInt]; rfl, .im (.int _)⟩
  · exact hok.elim
end
end Go.SE
/- Operations: what each does to the state. -/
namespace Go.SE
open Go

/-- The specification of a function: what a call does, by its arguments. -/
abbrev Spec := Nat → List SV → Tr
abbrev FTab := List (Nat × Spec)

def pick2 (b : Bool) (x y : SV) : SV := match b with
  | true => x
  | false => y
def evs (G : List (Nat × SV)) (s : St) (l : List Operand) : List SV := l.map (ev G s)
def evp (G : List (Nat × SV)) (s : St) (l : List (Nat × Operand)) : List (Nat × SV) := l.map fun p => (p.1, ev G s p.2)
def evo (G : List (Nat × SV)) (s : St) (o : Option Operand) : Option SV := o.map (ev G s)

def callT (T : List TI) (FT : FTab) (G : List (Nat × SV)) (s : St) (fr : Nat) (c : Call) : Tr := match c.callee with
  | .value f => match ev G s f with
    | .fn g first caps => match look FT g with
      | some S => S fr (first ++ (evs G s c.args.toList ++ caps))
      | none => .fail
    | _ => .fail
  | .builtin b => match b, c.argTypes.toList, evs G s c.args.toList with
    | .len, [t], [x] => match (ty T t).k, x with
      | .slice _, .str _ => .fail
      | .slice _, x => lenT x
      | .str, .str u => lenT (.str u)
      | _, _ => .fail
    | .cap, [t], [x] => match (ty T t).k with
      | .slice _ => capT x
      | _ => .fail
    | .min, _, [x, y] => minT x y
    | .append, [t, u], [x, y] => match decide (t = u) with
      | true => appendT fr T (ty T t) x y
      | false => match (ty T u).k with
        | .i64 => appendMakeT fr T (ty T t) x y
        | _ => .fail
    | _, _, _ => .fail
  | _ => .fail
def isU8 (T : List TI) (t : Nat) : Bool := match (ty T t).k with
  | .slice e => match (ty T e).k with
    | .u8 => true
    | _ => false
  | .other => false
  | _ => true
def sameT (T : List TI) (src dst : Nat) : Bool := match (ty T src).k with
  | .slice _ => decide (src = dst)
  | _ => false
def act (T : List TI) (FT : FTab) (G : List (Nat × SV)) (s : St) (fr : Nat) (o : Oper) : Tr := match o.op with
  | .move x | .assign x => .val (ev G s x)
  | .pick c a b => match ev G s c with
    | .bool v => .val (pick2 v (ev G s a) (ev G s b))
    | _ => .fail
  | .alloc t => allocT fr (ty T t)
  | .box _ x => boxT fr (ev G s x)
  | .build t ps => buildT T (ty T t) (evp G s ps.toList)
  | .buildSlice t n ps => buildSliceT fr T (ty T t) n (evp G s ps.toList)
  | .load t a => match (ty T t).k.known with
    | true => loadT (ty T t) (ev G s a)
    | false => .fail
  | .store t a x => match (ty T t).k.known && decide ((ty T t).size ≠ 0) with
    | true => storeT (ty T t) (ev G s a) (ev G s x)
    | false => .fail
  | .nilCheck x => nilCheckT (ev G s x)
  | .binOp op t x y _ => match (ty T t).k.known with
    | true => binT T (ty T t) op (ev G s x) (ev G s y)
    | false => .fail
  | .unOp op _ x => unT op (ev G s x)
  | .convert src dst x => match isU8 T src && isU8 T dst with
    | true => match sameT T src dst with
      | true => freezeT (ty T dst) (ev G s x)
      | false => convT (ty T dst) (ty T src) (ev G s x)
    | false => .fail
  | .sliceToArrayPointer t x => arrayAtT (ty T t) (ev G s x)
  | .makeFunc (.func f) first caps => .val (.fn f (evs G s first.toList) (evs G s caps.toList))
  | .makeSlice t l c => makeSliceT fr T (ty T t) (ev G s l) (ev G s c)
  | .slice t x lo hi mx => match mx.isSome && !hi.isSome with
    | true => .fail
    | false => sliceT T (ty T t) (ev G s x) (evo G s lo) (evo G s hi) (evo G s mx)
  | .fieldAddr t x f => fieldAddrT T (ty T t) (ev G s x) f
  | .field t x f => fieldT T (ty T t) (ev G s x) f
  | .indexAddr t x i => indexAddrT T (ty T t) (ev G s x) (ev G s i)
  | .index t x i => indexT T (ty T t) (ev G s x) (ev G s i)
  | .extract t i => extractT (ev G s t) i
  | .call c => callT T FT G s fr c
  | _ => .fail

/-- The specification is met. -/
structure CallOK (P : Program) (G : List (Nat × SV)) (f : Nat) (S : Spec) : Prop where
  body : ∃ fn c, P.funcs[f]? = some fn ∧ fn.body = some c ∧ (fn.name == "runtime.NumGoroutine") = false
  sound : ∀ (X : Nat → Prop) (s : St) (ρ : Rho) (lh : Lam) (w : World) (fr : Nat) (args : List SV) (vs : List Value) (e : Eff) (rd : List Nat), SatH X G s ρ lh w → Free s ρ fr → DenL w (Own X s ρ lh) ρ lh args vs → (S fr args).Ok s.blk e rd →
    CallsIn Fence.wide 0 P f vs.toArray w fun
      | .returned v, w' => Does X G s ρ lh w e fr v w'
      | _, _ => False
def TabFOK (P : Program) (G : List (Nat × SV)) (FT : FTab) : Prop := ∀ f S, look FT f = some S → CallOK P G f S

section
variable {P : Program} {X : Nat → Prop} {G : List (Nat × SV)} {s : St} {ρ : Rho} {lh : Lam} {a : Act} {w : World} {fr : Nat} {own : Nat → Prop}

/-- The fence asks nothing. -/
def Fence.open (F : Fence) : Prop := (∀ f, F.fn f) ∧ F.depth = none ∧ F.alive = false
theorem CallsIn.any {F : Fence} (hF : Fence.open F) {n : Nat} {f : FuncId} {args : Array Value} {R : Ending → World → Prop} (h : CallsIn Fence.wide 0 P f args w R) : CallsIn F n P f args w R := by
  obtain ⟨h1, h2, h3⟩ := hF
  have he : Machine.fenced P F = Machine.fenced P Fence.wide := by
    funext m
    apply propext
    constructor
    · intro _; exact fenced_wide P m
    · intro _ g _
      exact ⟨fun h => (by rw [h3] at h; cases h), .inl (h1 _), fun f _ => h1 f, fun d hd => (by rw [h2] at hd; cases hd)⟩
  refine ⟨h1 _, fun cs hr => ?_⟩
  rw [he]
  exact h.2 cs (room_wide _)

theorem evs_den (h : Sat X G s ρ lh a w) (l : List Operand) : DenL w (Own X s ρ lh) ρ lh (evs G s l) (l.map a.eval) := by
  induction l with
  | nil => exact .nil
  | cons x r ih => exact .cons (ev_den h x) ih
theorem evp_den (h : Sat X G s ρ lh a w) (l : List (Nat × Operand)) : DenP w (Own X s ρ lh) ρ lh (evp G s l) (l.map fun p => (p.1, a.eval p.2)) := by
  induction l with
  | nil => exact .nil
  | cons x r ih => exact .cons (ev_den h x.2) ih
theorem evo_den (h : Sat X G s ρ lh a w) (o : Option Operand) : OptDen w (Own X s ρ lh) ρ lh (evo G s o) (o.map a.eval) := by
  cases o with
  | none => trivial
  | some x => exact ev_den h x
theorem DenL.append {p q : List SV} : ∀ {l1 l2 : List Value}, DenL w own ρ lh p l1 → DenL w own ρ lh q l2 → DenL w own ρ lh (p ++ q) (l1 ++ l2) := by
  induction p with
  | nil => intro l1 l2 h1 h2; cases h1; exact h2
  | cons g r ih => intro l1 l2 h1 h2; cases h1 with | cons h hr => exact .cons h (ih hr h2)
theorem Den0L.full {p : List SV} : ∀ {l : List Value}, Den0L w own p l → DenL w own ρ lh p l := by
  induction p with
  | nil => intro l h; cases h; exact .nil
  | cons g r ih => intro l h; cases h with | cons h hr => exact .cons (.im h) (ih hr)
theorem den_fn {f : Nat} {first caps : List SV} {v : Value} (h : Den w own ρ lh (.fn f first caps) v) : ∃ v1 v2, v = .func (.func f) v1 v2 ∧ DenL w own ρ lh first v1.toList ∧ DenL w own ρ lh caps v2.toList := by
  cases h with
  | im h0 => cases h0 with
    | fn h1 h2 => exact ⟨_, _, rfl, h1.full, h2.full⟩
  | fn h1 h2 => exact ⟨_, _, rfl, h1, h2⟩

theorem Own.eq_of {X : Nat → Prop} {s s' : St} (hb : ∀ id, s'.blk id = s.blk id) (hh : ∀ L, s'.hd L = s.hd L) : Own X s' ρ lh = Own X s ρ lh := Own_congr X hb hh ρ lh

/-- What a call of a function that has a specification does. -/
theorem call_sound {T : List TI} {FT : FTab} (hT : TabOK P T) (hFT : TabFOK P G FT) {F : Fence} (hF : Fence.open F) {n : Nat} (hs : Sat X G s ρ lh a w) (hf : Free s ρ fr) {o : Oper} {c : Call} (ho : o.op = .call c) {e : Eff} {rd : List Nat}
    (hok : (callT T FT G s fr c).Ok s.blk e rd) {next : Act → World → Prop} {Q : Exit → Act → World → Prop} (hnext : ∀ v w', Does X G s ρ lh w e fr v w' → next (a.put o.dst v) w') : o.wpIn F n P a w next Q := by
  refine ⟨fun f _ => hF.1 f, ?_⟩
  rw [Oper.semAt_eq _ _ _ (by rw [ho]; simp)]
  have hargs : c.args.map a.eval = (c.args.toList.map a.eval).toArray := by
    apply Array.ext'; simp
  unfold callT at hok
  split at hok
  · rename_i f hc
    split at hok
    · rename_i g first caps hev
      split at hok
      · rename_i S hS
        have h1 := ev_den hs f
        rw [hev] at h1
        obtain ⟨v1, v2, hv, d1, d2⟩ := den_fn h1
        obtain ⟨fn, body, hfn, hbody, hname⟩ := (hFT g S hS).body
        have run : (execOp a.eval o).run P w = .ok (.enter g (v1.toList ++ (c.args.toList.map a.eval ++ v2.toList)).toArray) w := by
          have hname' : ¬ fn.name = "runtime.NumGoroutine" := by simpa using hname
          simp [execOp, ho, resolve, hc, hv, Deferred.ofValue, invoke, callFunc, hfn, hbody, hname', hargs]
        rw [run, Oper.uponIn_enter]
        refine ⟨fun h => (by rw [hF.2.1] at h; cases h), (CallsIn.any hF ((hFT g S hS).sound X s ρ lh w fr _ _ e rd hs.H hf (d1.append ((evs_den hs c.args.toList).append d2)) hok)).mono ?_⟩
        intro en w' h
        cases en with
        | returned v => exact hnext v w' h
        | panicked _ => exact h.elim
        | outgrown => exact h.elim
      · exact hok.elim
    · exact hok.elim
  · rename_i b hc
    have val : ∀ {sem : Sem Value} {v : Value} {w' : World}, execOp a.eval o = (do pure (.value (← sem))) → sem.run P w = .ok v w' → Does X G s ρ lh w e fr v w' → o.uponIn F n P a next Q ((execOp a.eval o).run P w) := fun h1 h2 h3 => by
      rw [h1, Sem.run_bind, h2, Result.andThen_ok]
      exact hnext _ _ h3
    have one : ∀ {t : Nat} {x : SV}, evs G s c.args.toList = [x] → ∃ vx, c.args.map a.eval = #[vx] ∧ Den w (Own X s ρ lh) ρ lh x vx := fun {t x} he => by
      have := evs_den hs c.args.toList
      rw [he] at this
      rw [hargs]
      generalize c.args.toList.map a.eval = l at this ⊢
      cases this with
      | cons h hr => cases hr; exact ⟨_, rfl, h⟩
    have two : ∀ {x y : SV}, evs G s c.args.toList = [x, y] → ∃ vx vy, c.args.map a.eval = #[vx, vy] ∧ Den w (Own X s ρ lh) ρ lh x vx ∧ Den w (Own X s ρ lh) ρ lh y vy := fun {x y} he => by
      have := evs_den hs c.args.toList
      rw [he] at this
      rw [hargs]
      generalize c.args.toList.map a.eval = l at this ⊢
      cases this with
      | cons h hr => cases hr with | cons h2 hr => cases hr; exact ⟨_, _, rfl, h, h2⟩
    have tys : ∀ {l : List Nat}, c.argTypes.toList = l → c.argTypes = l.toArray := fun h => by rw [← h]
    split at hok
    · rename_i t x ht hx
      obtain ⟨vx, hv, hd⟩ := one (t := t) hx
      have main : ∀ {d : TypeDesc} {e0 : Nat}, P.underlying t = some d → (d = .slice e0 ∨ d = .string ∧ ∃ u, vx = .string u) → (d = .slice e0 → ∀ u, x ≠ .str u) → (lenT x).Ok s.blk e rd → o.uponIn F n P a next Q ((execOp a.eval o).run P w) := fun hd1 hd2 hd3 hok => by
        obtain ⟨sv, v', rfl, hrun, hden⟩ := len_sound (P := P) (ts := c.argTypes) (ty0 := o.type) hd1 hd2 hd hok hd3 (by rw [tys ht]; rfl)
        exact val (sem := Builtin.len_ c.argTypes o.type #[vx]) (by simp [execOp, ho, resolve, hc, invoke, builtin, hv]) hrun (does_val hs.H hden rfl ⟨rfl, rfl⟩)
      split at hok
      · exact hok.elim
      · rename_i e0 x' hk hns
        obtain ⟨d, hd1, hkd⟩ := (hT.get (t := t) (by rw [hk]; simp)).und
        rw [hk] at hkd
        exact main hd1 (.inl hkd) (fun _ u => hns u) hok
      · rename_i u hk
        obtain ⟨d, hd1, hkd⟩ := (hT.get (t := t) (by rw [hk]; simp)).und
        rw [hk] at hkd
        refine main (e0 := 0) hd1 (.inr ⟨hkd, ?_⟩) (fun h => by rw [hkd] at h; cases h) hok
        cases hd with | im h0 => cases h0; exact ⟨_, rfl⟩
      · exact hok.elim
    · rename_i t x ht hx
      obtain ⟨vx, hv, hd⟩ := one (t := t) hx
      split at hok
      · rename_i e0 hk
        obtain ⟨d, hd1, hkd⟩ := (hT.get (t := t) (by rw [hk]; simp)).und
        rw [hk] at hkd
        subst hkd
        obtain ⟨sv, v', rfl, hrun, hden⟩ := cap_sound (P := P) (ts := c.argTypes) (e0 := o.type) hd1 (by rw [tys ht]; rfl) hd hok
        exact val (sem := Builtin.cap_ c.argTypes o.type #[vx]) (by simp [execOp, ho, resolve, hc, invoke, builtin, hv]) hrun (does_val hs.H hden rfl ⟨rfl, rfl⟩)
      · exact hok.elim
    · rename_i x y hx
      obtain ⟨vx, vy, hv, hd1, hd2⟩ := two hx
      obtain ⟨sv, v', rfl, hrun, hden⟩ := min_sound (P := P) (ts := c.argTypes) (ty0 := o.type) hd1 hd2 hok
      exact val (sem := Builtin.min_ c.argTypes o.type #[vx, vy]) (by simp [execOp, ho, resolve, hc, invoke, builtin, hv]) hrun (does_val hs.H hden rfl ⟨rfl, rfl⟩)
    · rename_i t u x y ht hx
      obtain ⟨vx, vy, hv, hd1, hd2⟩ := two hx
      split at hok
      · rename_i htu
        obtain rfl := of_decide_eq_true htu
        obtain ⟨v, w', hrun, hdo⟩ := append_sound (ty0 := o.type) hT hs.H hf hd1 hd2 hok
        exact val (sem := Builtin.append_ c.argTypes o.type #[vx, vy]) (by simp [execOp, ho, resolve, hc, invoke, builtin, hv]) (by rw [tys ht]; exact hrun) hdo
      · split at hok
        · rename_i hu
          obtain ⟨v, w', hrun, hdo⟩ := appendMake_sound (ty0 := o.type) hT hu hs.H hf hd1 hd2 hok
          exact val (sem := Builtin.append_ c.argTypes o.type #[vx, vy]) (by simp [execOp, ho, resolve, hc, invoke, builtin, hv]) (by rw [tys ht]; exact hrun) hdo
        · exact hok.elim
    · exact hok.elim
  · exact hok.elim

theorem act_sound {T : List TI} {FT : FTab} (hT : TabOK P T) (hFT : TabFOK P G FT) {F : Fence} (hF : Fence.open F) {n : Nat} (hs : Sat X G s ρ lh a w) (hf : Free s ρ fr) {o : Oper} {e : Eff} {rd : List Nat}
    (hok : (act T FT G s fr o).Ok s.blk e rd) {next : Act → World → Prop} {Q : Exit → Act → World → Prop} (hnext : ∀ v w', Does X G s ρ lh w e fr v w' → next (a.put o.dst v) w') : o.wpIn F n P a w next Q := by
  have E := fun x => ev_den hs x
  have val : (∀ c, o.op ≠ .defer c) → ∀ {sem : Sem Value} {v : Value} {w' : World}, execOp a.eval o = (do pure (.value (← sem))) → sem.run P w = .ok v w' → Does X G s ρ lh w e fr v w' → o.wpIn F n P a w next Q := fun hnd {sem v w'} h1 h2 h3 => by
    refine ⟨fun f _ => hF.1 f, ?_⟩
    rw [Oper.semAt_eq _ _ _ hnd, h1, Sem.run_bind, h2, Result.andThen_ok]
    exact hnext _ _ h3
  have pureV : (∀ c, o.op ≠ .defer c) → ∀ {v : Value}, execOp a.eval o = pure (.value v) → Does X G s ρ lh w e fr v w → o.wpIn F n P a w next Q := fun hnd {v} h1 h3 => by
    refine ⟨fun f _ => hF.1 f, ?_⟩
    rw [Oper.semAt_eq _ _ _ hnd, h1]
    exact hnext _ _ h3
  have plain : ∀ {sv : SV} {v : Value}, Den w (Own X s ρ lh) ρ lh sv v → Does X G s ρ lh w ⟨sv, [], [], []⟩ fr v w := fun h => does_val hs.H h rfl ⟨rfl, rfl⟩
  unfold act at hok
  split at hok <;> try exact hok.elim
  · rename_i x ho
    obtain ⟨rfl, rfl⟩ := hok
    exact pureV (by rw [ho]; simp) (by simp [execOp, ho]) (plain (E x))
  · rename_i x ho
    obtain ⟨rfl, rfl⟩ := hok
    exact pureV (by rw [ho]; simp) (by simp [execOp, ho]) (plain (E x))
  · rename_i c x y ho
    split at hok
    · rename_i b hc
      obtain ⟨rfl, rfl⟩ := hok
      have h1 := E c
      rw [hc] at h1
      have hcv : a.eval c = .bool b := by
        generalize a.eval c = vc at h1
        cases h1 with | im h0 => cases h0; rfl
      refine pureV (v := if b then a.eval x else a.eval y) (by rw [ho]; simp) (by simp [execOp, ho, hcv, asBool]) (plain ?_)
      cases b
      · exact E y
      · exact E x
    · exact hok.elim
  · rename_i t ho
    obtain ⟨v, w', h1, h2⟩ := alloc_sound hT hs.H hf hok
    exact val (by rw [ho]; simp) (by simp [execOp, ho]) h1 h2
  · rename_i t x ho
    obtain ⟨v, w', h1, h2⟩ := box_sound (t := t) hs.H hf (E x) hok
    exact val (by rw [ho]; simp) (sem := Instr.box t (a.eval x)) (by simp [execOp, ho]) h1 h2
  · rename_i t ps ho
    obtain ⟨sv, v', rfl, h1, h2⟩ := build_sound hT (evp_den hs ps.toList) hok
    refine val (by rw [ho]; simp) (sem := Instr.build t (ps.map fun p => (p.1, a.eval p.2))) (by simp [execOp, ho]) ?_ (plain h2)
    rw [← h1]; congr 2; apply Array.ext'; simp
  · rename_i t k ps ho
    obtain ⟨v, w', h1, h2⟩ := buildSlice_sound hT hs.H hf (evp_den hs ps.toList) hok
    refine val (by rw [ho]; simp) (sem := Instr.buildSlice t k (ps.map fun p => (p.1, a.eval p.2))) (by simp [execOp, ho]) ?_ h2
    rw [← h1]; congr 2; apply Array.ext'; simp
  · rename_i t x ho
    split at hok
    · rename_i hk
      obtain ⟨v', h1, h2⟩ := load_sound (fr := fr) hT (TK.known_ne hk) hs.H (E x) hok
      exact val (by rw [ho]; simp) (sem := Instr.loadAt t (a.eval x)) (by simp [execOp, ho]) h1 h2
    · exact hok.elim
  · rename_i t x y ho
    split at hok
    · rename_i hk
      simp only [Bool.and_eq_true, decide_eq_true_eq] at hk
      obtain ⟨w', h1, h2⟩ := store_sound (fr := fr) hT (TK.known_ne hk.1) hk.2 hs.H (E x) (E y) hok
      refine ⟨fun f _ => hF.1 f, ?_⟩
      rw [Oper.semAt_eq _ _ _ (by rw [ho]; simp)]
      have : (execOp a.eval o).run P w = .ok .skip w' := by simp [execOp, ho, h1]
      rw [this]
      exact hnext _ _ h2
    · exact hok.elim
  · rename_i x ho
    obtain ⟨rfl, hv⟩ := nilCheck_sound (E x) hok
    refine pureV (v := a.eval x) (by rw [ho]; simp) ?_ (plain (E x))
    rcases hv with ⟨p, hv⟩ | ⟨f, v1, v2, hv | hv⟩ <;> simp [execOp, ho, hv]
  · rename_i op t x y ty0 ho
    split at hok
    · rename_i hk
      obtain ⟨sv, v, rfl, h1, h2⟩ := binT_ok (P := P) (xo := x) (yo := y) hT (TK.known_ne hk) (E x) (E y) hok
      exact val (by rw [ho]; simp) (sem := (do eqGuard op t x y (a.eval x) (a.eval y); Go.binOp op t (a.eval x) (a.eval y))) (by simp [execOp, ho]) h1 (plain (.im h2))
    · exact hok.elim
  · rename_i op t x ho
    obtain ⟨sv, v, rfl, h1, h2⟩ := unT_ok (P := P) (w := w) (own := Own X s ρ lh) (E x) hok
    exact val (by rw [ho]; simp) (sem := Op.unary op (a.eval x)) (by simp [execOp, ho]) h1 (plain (.im h2))
  · rename_i src dst x ho
    split at hok
    · rename_i h8
      simp only [Bool.and_eq_true] at h8
      have u8 : ∀ {t e0 : Nat}, isU8 T t = true → (ty T t).k = .slice e0 → (ty T e0).k = .u8 := fun h hk => by
        unfold isU8 at h
        rw [hk] at h
        dsimp only at h
        split at h
        · assumption
        · cases h
      have kn : ∀ {t : Nat}, isU8 T t = true → (ty T t).k ≠ .other := fun h hk => by
        unfold isU8 at h
        rw [hk] at h
        cases h
      split at hok
      · rename_i hsame
        unfold sameT at hsame
        split at hsame
        · rename_i e0 hk
          obtain rfl := of_decide_eq_true hsame
          obtain ⟨v', w', h1, h2⟩ := freeze_sound (fr := fr) hT hk (u8 h8.1 hk) hs.H (E x) hok
          exact val (by rw [ho]; simp) (sem := Go.convert src src (a.eval x)) (by simp [execOp, ho]) h1 h2
        · cases hsame
      · obtain ⟨v', w', h1, h2⟩ := conv_sound (fr := fr) hT (kn h8.1) (kn h8.2) (fun e0 h => h.elim (u8 h8.1) (u8 h8.2)) hs.H (E x) hok
        exact val (by rw [ho]; simp) (sem := Go.convert src dst (a.eval x)) (by simp [execOp, ho]) h1 h2
    · exact hok.elim
  · rename_i t x ho
    obtain ⟨sv, v', rfl, h1, h2⟩ := arrayAt_sound hT (E x) hok
    exact val (by rw [ho]; simp) (sem := Instr.arrayAt t (a.eval x)) (by simp [execOp, ho]) h1 (plain h2)
  · rename_i f first caps ho
    obtain ⟨rfl, rfl⟩ := hok
    refine val (by rw [ho]; simp) (sem := Instr.makeFunc (.func f) (first.map a.eval) (caps.map a.eval)) (by simp [execOp, ho]) rfl (plain ?_)
    have := Den.fn (f := f) (evs_den hs first.toList) (evs_den hs caps.toList)
    rw [← Array.toList_map, ← Array.toList_map] at this
    exact this
  · rename_i t x y ho
    obtain ⟨v, w', h1, h2⟩ := makeSlice_sound hT hs.H hf (E x) (E y) hok
    exact val (by rw [ho]; simp) (sem := Instr.makeSlice t (a.eval x) (a.eval y)) (by simp [execOp, ho]) h1 h2
  · rename_i t x lo hi mx ho
    split at hok
    · exact hok.elim
    · rename_i hmx
      have h4 : (evo G s mx).isSome = true → (evo G s hi).isSome = true := by
        unfold evo
        cases mx <;> cases hi <;> simp_all
      obtain ⟨sv, v', rfl, h1, h2⟩ := slice_sound hT hs.H (E x) (evo_den hs lo) (evo_den hs hi) (evo_den hs mx) h4 hok
      exact val (by rw [ho]; simp) (sem := Instr.sliceAt t (a.eval x) (lo.map a.eval) (hi.map a.eval) (mx.map a.eval)) (by simp [execOp, ho]) h1 (plain h2)
  · rename_i t x f ho
    obtain ⟨sv, v', rfl, h1, h2⟩ := fieldAddr_sound hT (E x) hok
    exact val (by rw [ho]; simp) (sem := Instr.fieldAt t (a.eval x) f) (by simp [execOp, ho]) h1 (plain h2)
  · rename_i t x f ho
    obtain ⟨sv, v', rfl, h1, h2⟩ := field_sound hT (E x) hok
    exact val (by rw [ho]; simp) (sem := Instr.field t (a.eval x) f) (by simp [execOp, ho]) h1 (plain h2)
  · rename_i t x i ho
    obtain ⟨sv, v', rfl, h1, h2⟩ := indexAddr_sound hT (E x) (E i) hok
    exact val (by rw [ho]; simp) (sem := Instr.indexAt t (a.eval x) (a.eval i)) (by simp [execOp, ho]) h1 (plain h2)
  · rename_i t x i ho
    obtain ⟨sv, v', rfl, h1, h2⟩ := index_sound hT (E x) (E i) hok
    exact val (by rw [ho]; simp) (sem := Instr.index t (a.eval x) (a.eval i)) (by simp [execOp, ho]) h1 (plain h2)
  · rename_i t i ho
    obtain ⟨sv, v', rfl, h1, h2⟩ := extract_sound (E t) hok
    exact val (by rw [ho]; simp) (sem := Instr.extract (a.eval t) i) (by simp [execOp, ho]) h1 (plain h2)
  · rename_i c ho
    exact call_sound hT hFT hF hs hf ho hok hnext
end
end Go.SE
/- The tree of a proof obligation; regions, with their orders of evaluation. -/
namespace Go.SE
open Go

/-- What is to be shown: a tree. -/
inductive VT where
  | ok (p : Prop)
  | vc (p : Prop) (k : VT)
  | split (b : Bool) (t f : VT)
  | all {ι : Type} (k : ι → VT)
  | both (x y : VT)
  | imp (p : Prop) (k : VT)
  | fail
def bsplit (b : Bool) (p q : Prop) : Prop := match b with
  | true => p
  | false => q
def VT.holds : VT → Prop
  | .ok p => p
  | .vc p k => p ∧ k.holds
  | .split b t f => bsplit b t.holds f.holds
  | .all k => ∀ i, (k i).holds
  | .both x y => x.holds ∧ y.holds
  | .imp p k => p → k.holds
  | .fail => False
def Tr.vt (h : Nat → Option (List Seg)) : Tr → List Nat → (Eff → List Nat → VT) → VT
  | .blk id k, rd, K => match h id with
    | some g => (k g).vt h (id :: rd) K
    | none => .fail
  | .vc p k, rd, K => .vc p (k.vt h rd K)
  | .split b t f, rd, K => .split b (t.vt h rd K) (f.vt h rd K)
  | .done e, rd, K => K e rd
  | .fail, _, _ => .fail
theorem Tr.ok_of_vt {h : Nat → Option (List Seg)} {tr : Tr} : ∀ {rd : List Nat} {K : Eff → List Nat → VT}, (tr.vt h rd K).holds → ∃ e rd', tr.Ok h e rd' ∧ (K e (rd'.reverse ++ rd)).holds := by
  induction tr with
  | blk id k ih =>
    intro rd K hw
    simp only [Tr.vt] at hw
    split at hw
    · rename_i g hg
      obtain ⟨e, rd', h1, h2⟩ := ih g hw
      exact ⟨e, id :: rd', ⟨g, rd', hg, rfl, h1⟩, by simpa using h2⟩
    · exact hw.elim
  | vc p k ih =>
    intro rd K hw
    obtain ⟨hp, hw⟩ := hw
    obtain ⟨e, rd', h1, h2⟩ := ih hw
    exact ⟨e, rd', ⟨hp, h1⟩, h2⟩
  | split b t f iht ihf =>
    intro rd K hw
    cases b
    · exact ihf hw
    · exact iht hw
  | done e => intro rd K hw; exact ⟨e, [], ⟨rfl, rfl⟩, hw⟩
  | fail => intro rd K hw; exact hw.elim

/-- The state behind an operation. -/
def St.app (s : St) (fr : Nat) (e : Eff) (dst : Option Tmp) : St := (s.eff e fr).setTmp dst e.v
def St.raise (s : St) (n : Nat) : St := { s with next := s.next + n }

/-! ### Folds over what is done to one place -/
def Fold {V : Type} (D : Nat → Bool) : List (Option V) → Nat → V → V
  | [], _, v => v
  | a :: r, i, v => Fold D r (i + 1) (match D i with
    | true => a.getD v
    | false => v)
theorem Fold_congr {V : Type} {D D' : Nat → Bool} : ∀ (l : List (Option V)) (i : Nat) (v : V), (∀ j u, l[j]? = some (some u) → D (i + j) = D' (i + j)) → Fold D l i v = Fold D' l i v := by
  intro l
  induction l with
  | nil => intro i v _; rfl
  | cons a r ih =>
    intro i v h
    simp only [Fold]
    have hr : ∀ v, Fold D r (i + 1) v = Fold D' r (i + 1) v := fun v => ih (i + 1) v fun j u hj => by
      have := h (j + 1) u (by simpa using hj)
      rwa [Nat.add_assoc, Nat.add_comm 1 j]
    rw [hr]
    cases a with
    | none => cases D i <;> cases D' i <;> rfl
    | some u =>
      have := h 0 u rfl
      rw [Nat.add_zero] at this
      rw [this]
theorem Fold_off {V : Type} {D : Nat → Bool} : ∀ (l : List (Option V)) (i : Nat) (v : V), (∀ j u, l[j]? = some (some u) → D (i + j) = false) → Fold D l i v = v := by
  intro l
  induction l with
  | nil => intro i v _; rfl
  | cons a r ih =>
    intro i v h
    simp only [Fold]
    have : (match D i with | true => a.getD v | false => v) = v := by
      cases a with
      | none => cases D i <;> rfl
      | some u =>
        have := h 0 u rfl
        rw [Nat.add_zero] at this
        rw [this]
    rw [this]
    exact ih (i + 1) v fun j u hj => by
      have := h (j + 1) u (by simpa using hj)
      rwa [Nat.add_assoc, Nat.add_comm 1 j]
theorem Fold_add {V : Type} {D D' : Nat → Bool} : ∀ (l : List (Option V)) (i k : Nat) (v : V) (a : Option V), l[k]? = some a → D (i + k) = false → D' (i + k) = true → (∀ j, j ≠ i + k → D' j = D j) →
    (a ≠ none → ∀ j u, k < j → l[j]? = some (some u) → D (i + j) = false) → Fold D' l i v = a.getD (Fold D l i v) := by
  intro l
  induction l with
  | nil => intro i k v a h; simp at h
  | cons b r ih =>
    intro i k v a hk h0 h1 hne htouch
    cases k with
    | zero =>
      simp only [List.getElem?_cons_zero, Option.some.injEq] at hk
      subst hk
      rw [Nat.add_zero] at h0 h1
      simp only [Fold, h0, h1]
      have hr : ∀ v, Fold D' r (i + 1) v = Fold D r (i + 1) v := fun v => Fold_congr r (i + 1) v fun j u _ => hne _ (by omega)
      rw [hr]
      cases b with
      | none => rfl
      | some u =>
        have hoff : ∀ v, Fold D r (i + 1) v = v := fun v => Fold_off r (i + 1) v fun j u' hj => by
          have := htouch (by simp) (j + 1) u' (by omega) (by simpa using hj)
          rwa [Nat.add_assoc, Nat.add_comm 1 j]
        rw [hoff, hoff]
        try rfl
    | succ k =>
      simp only [Fold]
      rw [hne i (by omega)]
      refine ih (i + 1) k _ a (by simpa using hk) (by rw [show i + 1 + k = i + (k + 1) by omega]; exact h0) (by rw [show i + 1 + k = i + (k + 1) by omega]; exact h1) (fun j hj => hne j (by omega)) ?_
      intro ha j u hj hl
      have := htouch ha (j + 1) u (by omega) (by simpa using hl)
      rwa [show i + 1 + j = i + (j + 1) by omega]

/-! ### What an effect does to a block -/
def setAct (id : Nat) : List (Nat × List Seg) → Option (Option (List Seg))
  | [] => none
  | (k, g) :: r => match setAct id r with
    | some x => some x
    | none => if id = k then some (some g) else none
def dropAct (id : Nat) : List Nat → Option (Option (List Seg))
  | [] => none
  | k :: r => match dropAct id r with
    | some x => some x
    | none => if id = k then some none else none
def Eff.act (e : Eff) (fr id : Nat) : Option (Option (List Seg)) := match setAct id (newAt fr e.new) with
  | some x => some x
  | none => match setAct id e.set with
    | some x => some x
    | none => dropAct id e.drop
theorem blk_setAll (l : List (Nat × List Seg)) : ∀ (s : St) (id : Nat), (s.setAll l).blk id = (setAct id l).getD (s.blk id) := by
  induction l with
  | nil => intro s id; rfl
  | cons p r ih =>
    intro s id
    obtain ⟨k, g⟩ := p
    simp only [St.setAll, ih, setAct, St.blk_setBlk]
    cases setAct id r with
    | some x => rfl
    | none => by_cases h : id = k <;> simp [h]
theorem blk_dropAll (l : List Nat) : ∀ (s : St) (id : Nat), (s.dropAll l).blk id = (dropAct id l).getD (s.blk id) := by
  induction l with
  | nil => intro s id; rfl
  | cons k r ih =>
    intro s id
    simp only [St.dropAll, ih, dropAct, St.blk_drop]
    cases dropAct id r with
    | some x => rfl
    | none => by_cases h : id = k <;> simp [h]
theorem blk_eff (s : St) (e : Eff) (fr id : Nat) : (s.eff e fr).blk id = (e.act fr id).getD (s.blk id) := by
  simp only [St.eff, blk_setAll, blk_dropAll, Eff.act]
  cases setAct id (newAt fr e.new) <;> cases setAct id e.set <;> rfl
@[simp] theorem St.hd_app (s : St) (fr : Nat) (e : Eff) (d : Option Tmp) (L : Nat) : (s.app fr e d).hd L = s.hd L := by simp [St.app]
@[simp] theorem St.hs_setTmp (s : St) (d : Option Tmp) (v : SV) : (s.setTmp d v).hs = s.hs := by cases d <;> rfl
@[simp] theorem St.hs_dropAll (s : St) (l : List Nat) : (s.dropAll l).hs = s.hs := by
  induction l generalizing s with
  | nil => rfl
  | cons x r ih => simp [St.dropAll, ih, St.drop]
@[simp] theorem St.hs_setAll (s : St) (l : List (Nat × List Seg)) : (s.setAll l).hs = s.hs := by
  induction l generalizing s with
  | nil => rfl
  | cons x r ih => obtain ⟨a, b⟩ := x; simp [St.setAll, ih, St.setBlk]
@[simp] theorem St.hs_app (s : St) (fr : Nat) (e : Eff) (d : Option Tmp) : (s.app fr e d).hs = s.hs := by simp [St.app, St.eff]
@[simp] theorem St.next_app (s : St) (fr : Nat) (e : Eff) (d : Option Tmp) : (s.app fr e d).next = s.next := by simp [St.app]
@[simp] theorem St.nh_app (s : St) (fr : Nat) (e : Eff) (d : Option Tmp) : (s.app fr e d).nh = s.nh := by simp [St.app]
theorem St.tmps_app (s : St) (fr : Nat) (e : Eff) (d : Option Tmp) : (s.app fr e d).tmps = match d with | some d => s.tmps.set d e.v | none => s.tmps := by
  cases d <;> simp [St.app, St.setTmp]
theorem St.blk_app (s : St) (fr : Nat) (e : Eff) (d : Option Tmp) (id : Nat) : (s.app fr e d).blk id = (e.act fr id).getD (s.blk id) := by
  simp [St.app, blk_eff]

/-! ### The operations of a region that draws its order -/
structure Info where
  dst : Option Tmp
  tr : List Tmp
  e : Eff
  rd : List Nat
  fr : Nat
def Info.ids (x : Info) : List Nat := x.e.drop ++ (x.e.set.map (·.1) ++ (newAt x.fr x.e.new).map (·.1))
def St.info (s : St) (x : Info) : St := s.app x.fr x.e x.dst
def runD (D : Nat → Bool) : List Info → Nat → St → St
  | [], _, s => s
  | x :: r, i, s => runD D r (i + 1) (match D i with
    | true => s.info x
    | false => s)
def Info.tmpAct (len t : Nat) (x : Info) : Option (Option SV) := match x.dst with
  | some d => if d = t ∧ t < len then some (some x.e.v) else none
  | none => none
theorem runD_tmps (D : Nat → Bool) : ∀ (xs : List Info) (i : Nat) (s : St) (t : Nat), (runD D xs i s).tmps.length = s.tmps.length ∧ (runD D xs i s).tmps[t]? = Fold D (xs.map (·.tmpAct s.tmps.length t)) i s.tmps[t]? := by
  intro xs
  induction xs with
  | nil => intro i s t; exact ⟨rfl, rfl⟩
  | cons x r ih =>
    intro i s t
    simp only [runD, List.map_cons, Fold]
    cases hD : D i with
    | false => exact ih (i + 1) s t
    | true =>
      have hl : (s.info x).tmps.length = s.tmps.length := by
        simp only [St.info, St.tmps_app]
        cases x.dst <;> simp
      obtain ⟨h1, h2⟩ := ih (i + 1) (s.info x) t
      refine ⟨by rw [h1, hl], ?_⟩
      rw [h2, hl]
      congr 1
      simp only [St.info, St.tmps_app, Info.tmpAct]
      cases x.dst with
      | none => rfl
      | some d =>
        dsimp only
        rw [List.getElem?_set]
        by_cases hd : d = t
        · subst hd
          by_cases hlt : d < s.tmps.length
          · simp [hlt]
          · simp [hlt]
        · simp [hd]
theorem runD_blk (D : Nat → Bool) : ∀ (xs : List Info) (i : Nat) (s : St) (id : Nat), (runD D xs i s).blk id = Fold D (xs.map fun x => x.e.act x.fr id) i (s.blk id) := by
  intro xs
  induction xs with
  | nil => intro i s id; rfl
  | cons x r ih =>
    intro i s id
    simp only [runD, List.map_cons, Fold]
    rw [ih]
    cases D i with
    | false => rfl
    | true => simp only [St.info, St.blk_app]
theorem runD_rest (D : Nat → Bool) : ∀ (xs : List Info) (i : Nat) (s : St), (∀ L, (runD D xs i s).hd L = s.hd L) ∧ (runD D xs i s).next = s.next ∧ (runD D xs i s).nh = s.nh ∧ (runD D xs i s).hs = s.hs := by
  intro xs
  induction xs with
  | nil => intro i s; exact ⟨fun _ => rfl, rfl, rfl, rfl⟩
  | cons x r ih =>
    intro i s
    simp only [runD]
    cases D i with
    | false => exact ih _ _
    | true =>
      obtain ⟨h1, h2, h3, h4⟩ := ih (i + 1) (s.info x)
      exact ⟨fun L => by rw [h1]; simp [St.info], by rw [h2]; simp [St.info], by rw [h3]; simp [St.info], by rw [h4]; simp [St.info]⟩

/-- The same state, up to the order of its blocks. -/
structure Veq (s s' : St) : Prop where
  tmps : s'.tmps = s.tmps
  blk : ∀ id, s'.blk id = s.blk id
  hd : ∀ L, s'.hd L = s.hd L
  next : s'.next = s.next
  nh : s'.nh = s.nh
  hs : s'.hs = s.hs
theorem setAct_mem {id : Nat} {l : List (Nat × List Seg)} (h : setAct id l ≠ none) : id ∈ l.map (·.1) := by
  induction l with
  | nil => exact absurd rfl h
  | cons p r ih =>
    obtain ⟨k, g⟩ := p
    simp only [setAct] at h
    cases hr : setAct id r with
    | some x => simp [ih (by rw [hr]; simp)]
    | none =>
      rw [hr] at h
      by_cases hk : id = k
      · simp [hk]
      · simp [hk] at h
theorem dropAct_mem {id : Nat} {l : List Nat} (h : dropAct id l ≠ none) : id ∈ l := by
  induction l with
  | nil => exact absurd rfl h
  | cons k r ih =>
    simp only [dropAct] at h
    cases hr : dropAct id r with
    | some x => simp [ih (by rw [hr]; simp)]
    | none =>
      rw [hr] at h
      by_cases hk : id = k
      · simp [hk]
      · simp [hk] at h
theorem Info.act_mem {x : Info} {id : Nat} (h : x.e.act x.fr id ≠ none) : id ∈ x.ids := by
  unfold Eff.act at h
  unfold Info.ids
  cases h1 : setAct id (newAt x.fr x.e.new) with
  | some y => exact List.mem_append_right _ (List.mem_append_right _ (setAct_mem (by rw [h1]; simp)))
  | none =>
    cases h2 : setAct id x.e.set with
    | some y => exact List.mem_append_right _ (List.mem_append_left _ (setAct_mem (by rw [h2]; simp)))
    | none =>
      rw [h1, h2] at h
      exact List.mem_append_left _ (dropAct_mem h)

/-! ### Which operation hangs on which -/
def afters (ops : List Oper) (i : Nat) : List Nat := match ops[i]? with
  | some o => (o.after.toList.filter (Region.binds .any)).map (·.on)
  | none => []
def isAnc (ops : List Oper) : Nat → Nat → Nat → Bool
  | 0, _, _ => false
  | f + 1, j, i => (afters ops i).any fun k => k == j || isAnc ops f j k
def optEq (a b : Option Nat) : Bool := match a, b with
  | some x, some y => x == y
  | _, _ => false
def inOpt (a : Option Nat) (l : List Nat) : Bool := match a with
  | some x => l.contains x
  | none => false
def meets (a b : List Nat) : Bool := a.any fun x => b.contains x
def Info.conflict (x y : Info) : Bool :=
  optEq x.dst y.dst || (inOpt x.dst y.tr || (inOpt y.dst x.tr || (meets x.ids y.ids || (meets x.ids y.rd || meets y.ids x.rd))))
/-- Every two operations that are not ordered have nothing to do with each other. -/
def clash (ops : List Oper) (n : Nat) (x : Info) (i : Nat) : List Info → Nat → Bool
  | [], _ => false
  | y :: r, j => (decide (j < i) && (x.conflict y && !isAnc ops n j i)) || clash ops n x i r (j + 1)
def clashes (ops : List Oper) (n : Nat) (all : List Info) : List Info → Nat → Bool
  | [], _ => false
  | x :: r, i => clash ops n x i all 0 || clashes ops n all r (i + 1)
def tidy (ops : List Oper) : Bool := (List.range ops.length).all fun i => (afters ops i).all fun k => decide (k < i)

theorem clash_ok {ops : List Oper} {n : Nat} {x : Info} {i : Nat} : ∀ {l : List Info} {j0 : Nat}, clash ops n x i l j0 = false → ∀ {j : Nat} {y : Info}, l[j]? = some y → j0 + j < i → x.conflict y = true → isAnc ops n (j0 + j) i = true := by
  intro l
  induction l with
  | nil => intro j0 _ j y h; simp at h
  | cons z r ih =>
    intro j0 h j y hj hlt hc
    simp only [clash, Bool.or_eq_false_iff] at h
    cases j with
    | zero =>
      simp only [List.getElem?_cons_zero, Option.some.injEq] at hj
      subst hj
      have h1 := h.1
      simp only [Nat.add_zero] at hlt ⊢
      simp only [hlt, decide_true, Bool.true_and, hc, Bool.not_eq_false'] at h1
      exact h1
    | succ j =>
      have := ih h.2 (j := j) (y := y) (by simpa using hj) (by omega) hc
      rwa [show j0 + 1 + j = j0 + (j + 1) by omega] at this
theorem clashes_ok {ops : List Oper} {n : Nat} {all : List Info} : ∀ {l : List Info} {i0 : Nat}, clashes ops n all l i0 = false → ∀ {i j : Nat} {x y : Info}, l[i]? = some x → all[j]? = some y → j < i0 + i → x.conflict y = true → isAnc ops n j (i0 + i) = true := by
  intro l
  induction l with
  | nil => intro i0 _ i j x y h; simp at h
  | cons z r ih =>
    intro i0 h i j x y hi hj hlt hc
    simp only [clashes, Bool.or_eq_false_iff] at h
    cases i with
    | zero =>
      simp only [List.getElem?_cons_zero, Option.some.injEq] at hi
      subst hi
      have := clash_ok h.1 hj (by omega) hc
      simpa using this
    | succ i =>
      have := ih h.2 (i := i) (by simpa using hi) hj (by omega) hc
      rwa [show i0 + 1 + i = i0 + (i + 1) by omega] at this
theorem conflict_comm (x y : Info) : x.conflict y = y.conflict x := by
  have hm : ∀ a b : List Nat, meets a b = meets b a := fun a b => by
    rw [Bool.eq_iff_iff]
    simp only [meets, List.any_eq_true, List.contains_iff_mem]
    exact ⟨fun ⟨z, h1, h2⟩ => ⟨z, h2, h1⟩, fun ⟨z, h1, h2⟩ => ⟨z, h2, h1⟩⟩
  have he : optEq x.dst y.dst = optEq y.dst x.dst := by
    cases x.dst <;> cases y.dst <;> simp only [optEq]
    exact BEq.comm
  unfold Info.conflict
  rw [he, hm x.ids y.ids]
  cases optEq y.dst x.dst <;> cases inOpt x.dst y.tr <;> cases inOpt y.dst x.tr <;> cases meets y.ids x.ids <;> cases meets x.ids y.rd <;> cases meets y.ids x.rd <;> rfl

/-- A set of operations that holds what its members hang on. -/
def Closed (ops : List Oper) (D : Nat → Bool) : Prop := ∀ i, D i = true → ∀ k ∈ afters ops i, D k = true
theorem Closed.anc {ops : List Oper} {D : Nat → Bool} (h : Closed ops D) : ∀ {f j i : Nat}, (∀ k ∈ afters ops i, D k = true) → isAnc ops f j i = true → D j = true := by
  intro f
  induction f with
  | zero => intro j i _ he; cases he
  | succ f ih =>
    intro j i hi he
    simp only [isAnc, List.any_eq_true, Bool.or_eq_true, beq_iff_eq] at he
    obtain ⟨k, hk, rfl | he⟩ := he
    · exact hi _ hk
    · exact ih (h k (hi k hk)) he

/-- What is needed of the operations' list. -/
structure Indep (ops : List Oper) (n : Nat) (xs : List Info) : Prop where
  apart : ∀ {i j : Nat} {x y : Info}, xs[i]? = some x → xs[j]? = some y → i ≠ j → x.conflict y = true → (j < i → isAnc ops n j i = true) ∧ (i < j → isAnc ops n i j = true)
theorem Indep.of_check {ops : List Oper} {n : Nat} {xs : List Info} (h : clashes ops n xs xs 0 = false) : Indep ops n xs :=
  ⟨fun {i j x y} hi hj hne hc => ⟨fun hlt => by have := clashes_ok h hi hj (by omega) hc; simpa using this, fun hlt => by
    have := clashes_ok h hj hi (by omega) (by rw [conflict_comm]; exact hc); simpa using this⟩⟩

theorem conflict_dst {x y : Info} {t : Nat} (h1 : x.dst = some t) (h2 : y.dst = some t) : x.conflict y = true := by
  simp [Info.conflict, optEq, h1, h2]
theorem conflict_read {x y : Info} {t : Nat} (h1 : x.dst = some t) (h2 : t ∈ y.tr) : x.conflict y = true := by
  simp [Info.conflict, inOpt, h1, h2]
theorem conflict_ids {x y : Info} {id : Nat} (h1 : id ∈ x.ids) (h2 : id ∈ y.ids) : x.conflict y = true := by
  have : meets x.ids y.ids = true := by simp only [meets, List.any_eq_true, List.contains_iff_mem]; exact ⟨id, h1, h2⟩
  simp [Info.conflict, this]
theorem conflict_rd {x y : Info} {id : Nat} (h1 : id ∈ x.ids) (h2 : id ∈ y.rd) : x.conflict y = true := by
  have : meets x.ids y.rd = true := by simp only [meets, List.any_eq_true, List.contains_iff_mem]; exact ⟨id, h1, h2⟩
  simp [Info.conflict, this]

section
variable {ops : List Oper} {n : Nat} {xs : List Info} {D : Nat → Bool} {s : St} {i : Nat} {x : Info}

theorem pos_of_act {t len k : Nat} {u : Option SV} (h : (xs.map (·.tmpAct len t))[k]? = some (some u)) : ∃ y, xs[k]? = some y ∧ y.dst = some t := by
  rw [List.getElem?_map] at h
  cases hy : xs[k]? with
  | none => rw [hy] at h; cases h
  | some y =>
    refine ⟨y, rfl, ?_⟩
    rw [hy] at h
    simp only [Option.map_some, Option.some.injEq, Info.tmpAct] at h
    cases hd : y.dst with
    | none => rw [hd] at h; cases h
    | some d =>
      rw [hd] at h
      dsimp only at h
      split at h
      · rename_i he; rw [he.1]
      · cases h
theorem pos_of_blk {id k : Nat} {u : Option (List Seg)} (h : (xs.map fun x => x.e.act x.fr id)[k]? = some (some u)) : ∃ y, xs[k]? = some y ∧ id ∈ y.ids := by
  rw [List.getElem?_map] at h
  cases hy : xs[k]? with
  | none => rw [hy] at h; cases h
  | some y =>
    refine ⟨y, rfl, Info.act_mem ?_⟩
    rw [hy] at h
    simp only [Option.map_some, Option.some.injEq] at h
    rw [h]; simp

/-- What an operation reads is the same in every order. -/
theorem reads_same (hI : Indep ops n xs) (hc : Closed ops D) (hi : xs[i]? = some x) (hD : D i = false) (hr : ∀ k ∈ afters ops i, D k = true) :
    (∀ t ∈ x.tr, (runD D xs 0 s).tmps[t]? = (runD (fun j => decide (j < i)) xs 0 s).tmps[t]?) ∧ ∀ id ∈ x.rd, (runD D xs 0 s).blk id = (runD (fun j => decide (j < i)) xs 0 s).blk id := by
  have key : ∀ {j : Nat} {y : Info}, xs[j]? = some y → y.conflict x = true → j ≠ i → D j = decide (j < i) := fun {j y} hj hcf hne => by
    obtain ⟨h1, h2⟩ := hI.apart hj hi hne hcf
    rcases Nat.lt_or_gt_of_ne hne with hlt | hgt
    · rw [decide_eq_true hlt]
      exact hc.anc hr (h2 hlt)
    · rw [decide_eq_false (by omega)]
      cases hDj : D j with
      | false => rfl
      | true => have := hc.anc (hc j hDj) (h1 hgt); rw [hD] at this; cases this
  have keyi : D i = decide (i < i) := by rw [hD]; simp
  constructor
  · intro t ht
    rw [(runD_tmps _ xs 0 s t).2, (runD_tmps _ xs 0 s t).2]
    refine Fold_congr _ 0 _ fun j u hj => ?_
    rw [Nat.zero_add]
    obtain ⟨y, hy, hd⟩ := pos_of_act hj
    by_cases hji : j = i
    · subst hji; exact keyi
    · exact key hy (conflict_read hd ht) hji
  · intro id hid
    rw [runD_blk, runD_blk]
    refine Fold_congr _ 0 _ fun j u hj => ?_
    rw [Nat.zero_add]
    obtain ⟨y, hy, hd⟩ := pos_of_blk hj
    by_cases hji : j = i
    · subst hji; exact keyi
    · exact key hy (conflict_rd hd hid) hji

/-- One more operation. -/
theorem runD_add {D' : Nat → Bool} (hI : Indep ops n xs) (hc : Closed ops D) (hi : xs[i]? = some x) (hD : D i = false) (hD' : D' i = true) (hne : ∀ j, j ≠ i → D' j = D j) :
    Veq ((runD D xs 0 s).info x) (runD D' xs 0 s) := by
  have key : ∀ {j : Nat} {y : Info}, xs[j]? = some y → x.conflict y = true → i < j → D j = false := fun {j y} hj hcf hlt => by
    obtain ⟨_, h2⟩ := hI.apart hi hj (by omega) hcf
    cases hDj : D j with
    | false => rfl
    | true => have := hc.anc (hc j hDj) (h2 hlt); rw [hD] at this; cases this
  have rest := runD_rest D xs 0 s
  have rest' := runD_rest D' xs 0 s
  refine ⟨?_, ?_, fun L => by rw [rest'.1]; simp [St.info, rest.1], by rw [rest'.2.1]; simp [St.info, rest.2.1], by rw [rest'.2.2.1]; simp [St.info, rest.2.2.1], by rw [rest'.2.2.2]; simp [St.info, rest.2.2.2]⟩
  · apply List.ext_getElem?
    intro t
    have h := Fold_add (D := D) (D' := D') (xs.map (·.tmpAct s.tmps.length t)) 0 i (s.tmps[t]?) (x.tmpAct s.tmps.length t) (by rw [List.getElem?_map, hi]; rfl) (by rwa [Nat.zero_add]) (by rwa [Nat.zero_add]) (fun j hj => hne j (by omega)) (fun ha j u hj hl => by
      rw [Nat.zero_add]
      obtain ⟨y, hy, hd⟩ := pos_of_act hl
      refine key hy (conflict_dst (t := t) ?_ hd) hj
      unfold Info.tmpAct at ha
      cases hx : x.dst with
      | none => rw [hx] at ha; exact absurd rfl ha
      | some d =>
        rw [hx] at ha
        dsimp only at ha
        split at ha
        · rename_i he; rw [he.1]
        · exact absurd rfl ha)
    rw [(runD_tmps D' xs 0 s t).2, h, ← (runD_tmps D xs 0 s t).2]
    have hl := (runD_tmps D xs 0 s t).1
    simp only [St.info, St.tmps_app, Info.tmpAct]
    cases x.dst with
    | none => rfl
    | some d =>
      dsimp only
      rw [List.getElem?_set, hl]
      by_cases hd : d = t
      · subst hd
        by_cases hlt : d < s.tmps.length
        · simp [hlt]
        · simp [hlt]; exact Nat.le_of_not_lt (by rw [hl]; exact hlt)
      · simp [hd]
  · intro id
    have h := Fold_add (D := D) (D' := D') (xs.map fun x => x.e.act x.fr id) 0 i (s.blk id) (x.e.act x.fr id) (by rw [List.getElem?_map, hi]; rfl) (by rwa [Nat.zero_add]) (by rwa [Nat.zero_add]) (fun j hj => hne j (by omega)) (fun ha j u hj hl => by
      rw [Nat.zero_add]
      obtain ⟨y, hy, hd⟩ := pos_of_blk hl
      exact key hy (conflict_ids (Info.act_mem ha) hd) hj)
    rw [runD_blk, h, ← runD_blk]
    simp only [St.info, St.blk_app]
end
end Go.SE
