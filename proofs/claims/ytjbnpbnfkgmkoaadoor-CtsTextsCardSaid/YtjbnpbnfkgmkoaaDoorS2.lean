/- The operators on all values. -/
import Derived.Test.YtjbnpbnfkgmkoaaDoorS1
import Derived.Laws.StructEq
import Derived.Laws.Pointers
import Derived.Laws.BytesString
import Derived.Laws.MakeOwn
set_option linter.all false
namespace Go.SE
open Go

section
variable {P : Program} {X : Nat → Prop} {G : List (Nat × SV)} {s : St} {ρ : Rho} {lh : Lam} {w : World} {own : Nat → Prop}

theorem run_part_int {P : Program} {t : Nat} {k : IntKind} (h : P.underlying t = some (.int k)) (cs : Array Value) (i : Nat) {v : Value} (hv : cs[i]? = some v) (w : World) : (part t cs i).run P w = .ok v w := by
  unfold part
  have : (isAgg t).run P w = .ok false w := by simp [isAgg, Go.run_underlying h]
  simp [this, hv]

theorem run_equalIn_bytes {n e t : Nat} (d : Nat) (ht : P.underlying t = some (.array n e)) (he : P.underlying e = some (.int .u8)) (hsz : ∀ w, (sizeOf e).run P w = .ok 1 w) (xs ys : List (BitVec 8)) (hx : xs.length = n) (hy : ys.length = n) :
    (Op.equalIn (d + 2) t (.agg (xs.map v8).toArray) (.agg (ys.map v8).toArray)).run P w = .ok (decide (xs = ys)) w := by
  have key : ∀ (m k : Nat), k + m = n → (Sem.run P (forIn (List.range' k m) ((none, ()) : Option Bool × PUnit) fun i _ => do
        let a ← part e (xs.map v8).toArray (i * 1)
        let b ← part e (ys.map v8).toArray (i * 1)
        let r ← Op.equalIn (d + 1) e a b
        if (!r) = true then pure (ForInStep.done (some false, ())) else do
          pure PUnit.unit
          pure (ForInStep.yield (none, ()))) w) =
      .ok (if xs.drop k = ys.drop k then (none, ()) else (some false, ())) w := by
    intro m
    induction m with
    | zero => intro k hk; rw [List.drop_eq_nil_of_le (by omega), List.drop_eq_nil_of_le (by omega)]; simp
    | succ m ih =>
      intro k hk
      have h1 : (xs.map v8).toArray[k * 1]? = some (v8 (xs[k]'(by omega))) := by simp [show k < xs.length by omega]
      have h2 : (ys.map v8).toArray[k * 1]? = some (v8 (ys[k]'(by omega))) := by simp [show k < ys.length by omega]
      have h3 := run_equalIn_int (P := P) w d e .u8 .u8 ((xs[k]'(by omega)).toNat : Int) ((ys[k]'(by omega)).toNat : Int) he
      rw [List.range'_succ, List.forIn_cons]
      simp only [Sem.run_bind, run_part_int he _ _ h1, run_part_int he _ _ h2, Result.andThen_ok]
      rw [show v8 (xs[k]'(by omega)) = .int .u8 ((xs[k]'(by omega)).toNat : Int) from rfl, show v8 (ys[k]'(by omega)) = .int .u8 ((ys[k]'(by omega)).toNat : Int) from rfl, h3]
      have ex : xs.drop k = xs[k]'(by omega) :: xs.drop (k + 1) := List.drop_eq_getElem_cons (show k < xs.length by omega)
      have ey : ys.drop k = ys[k]'(by omega) :: ys.drop (k + 1) := List.drop_eq_getElem_cons (show k < ys.length by omega)
      by_cases hxy : xs[k]'(by omega) = ys[k]'(by omega)
      · simp only [hxy, beq_self_eq_true, Bool.not_true, Bool.false_eq_true, if_false, Result.andThen_ok, Sem.run_pure]
        rw [ih (k + 1) (by omega)]
        by_cases hd : xs.drop (k + 1) = ys.drop (k + 1)
        · rw [if_pos hd, if_pos (by rw [ex, ey, hxy, hd])]
        · rw [if_neg hd, if_neg (fun h => hd (by rw [ex, ey] at h; exact (List.cons.inj h).2))]
      · have : ((((xs[k]'(by omega)).toNat : Int)) == ((ys[k]'(by omega)).toNat : Int)) = false := by
          rw [int_beq]; exact decide_eq_false fun h => hxy (BitVec.eq_of_toNat_eq (by omega))
        simp only [this, Bool.not_false, if_true, Result.andThen_ok, Sem.run_pure]
        rw [if_neg (fun h => hxy (by rw [ex, ey] at h; exact (List.cons.inj h).1))]
  have := key n 0 (by omega)
  simp only [List.drop_zero] at this
  unfold Op.equalIn
  simp only [Sem.run_bind, Go.run_underlying ht, Result.andThen_ok, hsz, Std.Legacy.Range.forIn_eq_forIn_range', Std.Legacy.Range.size, Nat.sub_zero, Nat.add_sub_cancel, Nat.div_one]
  refine (congrArg (fun r => Result.andThen r _) this).trans ?_
  by_cases h : xs = ys <;> simp [h]

theorem eqGuardType_arr {n e t : Nat} (ht : P.underlying t = some (.array n e)) (he : P.underlying e = some (.int .u8)) : P.eqGuardType P.depth t = false := by
  have : P.depth = (2 * (P.types.size + Made.depth)) + 1 + 1 := rfl
  rw [this]
  simp [Program.eqGuardType, ht, he]

theorem eqT_ok {op : BinOp} {b : Bool} {h : Nat → Option (List Seg)} {e : Eff} {rd : List Nat} (hok : (eqT op b).Ok h e rd) :
    (op = .eql ∧ e = ⟨.bool b, [], [], []⟩) ∨ (op = .neq ∧ e = ⟨.bool (!b), [], [], []⟩) := by
  cases op <;> simp only [eqT, vB, Tr.val] at hok <;> first | exact hok.elim | skip
  · exact .inl ⟨rfl, hok.1⟩
  · exact .inr ⟨rfl, hok.1⟩

/-- An equation by 'Op.equal'. -/
theorem eq_run {op : BinOp} {b : Bool} {h : Nat → Option (List Seg)} {e : Eff} {rd : List Nat} (hok : (eqT op b).Ok h e rd) {t : Nat} {x y : Value} (hx : ∀ k n, x ≠ .int k n) (hx2 : ∀ k n, x ≠ .float k n) (hx3 : ∀ k n m, x ≠ .complex k n m) (hx4 : ∀ s, x ≠ .string s)
    (he : (Op.equal t x y).run P w = .ok b w) : ∃ sv v, e = ⟨sv, [], [], []⟩ ∧ (Go.binOp op t x y).run P w = .ok v w ∧ Den0 w own sv v := by
  rcases eqT_ok hok with ⟨rfl, rfl⟩ | ⟨rfl, rfl⟩
  · refine ⟨_, .bool b, rfl, ?_, .bool _⟩
    cases x <;> simp_all [Go.binOp]
  · refine ⟨_, .bool (!b), rfl, ?_, .bool _⟩
    cases x <;> simp_all [Go.binOp]

theorem strOf_inj {s t : List (BitVec 8)} (h : mkStr s = mkStr t) : s = t := by
  have h1 : (mkStr s).data.toList = (mkStr t).data.toList := by rw [h]
  simp only [mkStr, List.toList_toArray] at h1
  have := congrArg (List.map (fun x : UInt8 => x.toBitVec)) h1
  rw [List.map_map, List.map_map] at this
  have e : ∀ l : List (BitVec 8), List.map ((fun x : UInt8 => x.toBitVec) ∘ fun x => UInt8.ofBitVec x) l = l := fun l => by
    conv => rhs; rw [← List.map_id l]
    exact List.map_congr_left fun _ _ => rfl
  rwa [e, e] at this

theorem isPtr_den {sv : SV} {v : Value} (h : Den w own ρ lh sv v) (hs : sv.isPtr = true) : ∃ a, v = .pointer (some a) := by
  cases h with
  | im h0 => cases h0 <;> first | exact ⟨_, rfl⟩ | (simp [SV.isPtr] at hs; done)
  | ptr _ => exact ⟨_, rfl⟩
  | ptri _ => exact ⟨_, rfl⟩
  | _ => simp [SV.isPtr] at hs
theorem isFn_den {sv : SV} {v : Value} (h : Den w own ρ lh sv v) (hs : sv.isFn = true) : ∃ f a b, v = .func f a b := by
  cases h with
  | im h0 => cases h0 <;> first | exact ⟨_, _, _, rfl⟩ | (simp [SV.isFn] at hs; done)
  | fn _ _ => exact ⟨_, _, _, rfl⟩
  | yv _ => exact ⟨_, _, _, rfl⟩
  | _ => simp [SV.isFn] at hs

theorem Den.nilp_inv {v : Value} (h : Den w own ρ lh .nilp v) : v = .pointer none := by cases h with | im h0 => cases h0; rfl
theorem Den.nilf_inv {v : Value} (h : Den w own ρ lh .nilf v) : v = .nilFunc := by cases h with | im h0 => cases h0; rfl
theorem Den.bytes_inv {n : Nat} {xs : List (BitVec 8)} {v : Value} (h : Den w own ρ lh (.agg [.b8s n xs]) v) : v = .agg (xs.map v8).toArray ∧ xs.length = n := by
  have key : ∀ {l : List Value}, DenS0 w own [.b8s n xs] l → l = xs.map v8 ∧ xs.length = n := fun h => by
    cases h with | b8s hn hr => cases hr; exact ⟨by simp, hn⟩
  cases h with
  | im h0 => cases h0 with | agg hs => obtain ⟨rfl, hn⟩ := key hs; exact ⟨rfl, hn⟩
  | agg hs => cases hs with
    | seg hg hr => cases hr; obtain ⟨rfl, hn⟩ := key hg; exact ⟨by simp, hn⟩

theorem equal_eq (t : TypeId) (x y : Value) : Op.equal t x y = Op.equalIn (9999 + 1) t x y := rfl
theorem run_equalIn_ptr {t e0 : Nat} (d : Nat) (hd : P.underlying t = some (.pointer e0)) (p q : Option Addr) (h : p = none ∨ q = none) :
    (Op.equalIn (d + 1) t (.pointer p) (.pointer q)).run P w = .ok (p.isNone && q.isNone) w := by
  rcases h with rfl | rfl
  · simp [Op.equalIn, Go.run_underlying hd]
  · cases p <;> simp [Op.equalIn, Go.run_underlying hd]
theorem run_equalIn_fn {t : Nat} (d : Nat) {A B : Array TypeId} {c : Bool} (hd : P.underlying t = some (.func A B c)) :
    (Op.equalIn (d + 1) t .nilFunc .nilFunc).run P w = .ok true w ∧ (∀ f a b, (Op.equalIn (d + 1) t .nilFunc (.func f a b)).run P w = .ok false w) ∧ ∀ f a b, (Op.equalIn (d + 1) t (.func f a b) .nilFunc).run P w = .ok false w := by
  refine ⟨?_, fun f a b => ?_, fun f a b => ?_⟩ <;> simp [Op.equalIn, Go.run_underlying hd]

theorem eqOther_ok {T : List TI} (hT : TabOK P T) {t : Nat} (hk : (ty T t).k ≠ .other) {op : BinOp} {x y : SV} {a b : Value} {xo yo : Operand} {h : Nat → Option (List Seg)} {e : Eff} {rd : List Nat}
    (hx : Den w own ρ lh x a) (hy : Den w own ρ lh y b) (hok : (eqOther T (ty T t) op x y).Ok h e rd) :
    ∃ sv v, e = ⟨sv, [], [], []⟩ ∧ (do eqGuard op t xo yo a b; Go.binOp op t a b : Sem Value).run P w = .ok v w ∧ Den0 w own sv v := by
  obtain ⟨d, hd, hkd⟩ := (hT.get hk).und
  have fin : ∀ {a b : Value} {bb : Bool}, (∀ k n, a ≠ .int k n) → (∀ k n, a ≠ .float k n) → (∀ k n m, a ≠ .complex k n m) → (∀ s, a ≠ .string s) → a ≠ .nilIface → (∀ c, a ≠ .agg c) →
      (Op.equalIn (9999 + 1) t a b).run P w = .ok bb w → (eqT op bb).Ok h e rd →
      ∃ sv v, e = ⟨sv, [], [], []⟩ ∧ (do eqGuard op t xo yo a b; Go.binOp op t a b : Sem Value).run P w = .ok v w ∧ Den0 w own sv v := by
    intro a b bb h1 h2 h3 h4 h5 h6 he hok
    obtain ⟨sv, v, k1, k2, k3⟩ := eq_run (own := own) hok h1 h2 h3 h4 (by rw [equal_eq]; exact he)
    exact ⟨sv, v, k1, by rw [Sem.run_bind, run_eqGuard (.inl h5) (.inl h6)]; exact k2, k3⟩
  unfold eqOther at hok
  split at hok
  · rename_i e0 hkk
    rw [hkk] at hkd
    have hd' : P.underlying t = some (.pointer e0) := by rw [hd, hkd]
    split at hok
    · obtain rfl := hx.nilp_inv
      obtain rfl := hy.nilp_inv
      exact fin (by simp) (by simp) (by simp) (by simp) (by simp) (by simp) (run_equalIn_ptr _ hd' _ _ (.inl rfl)) hok
    · split at hok
      · rename_i hs
        obtain rfl := hx.nilp_inv
        obtain ⟨p, rfl⟩ := isPtr_den hy hs
        exact fin (by simp) (by simp) (by simp) (by simp) (by simp) (by simp) (run_equalIn_ptr _ hd' _ _ (.inl rfl)) hok
      · exact hok.elim
    · split at hok
      · rename_i hs
        obtain rfl := hy.nilp_inv
        obtain ⟨p, rfl⟩ := isPtr_den hx hs
        exact fin (by simp) (by simp) (by simp) (by simp) (by simp) (by simp) (run_equalIn_ptr _ hd' _ _ (.inr rfl)) hok
      · exact hok.elim
    · exact hok.elim
  · rename_i hkk
    rw [hkk] at hkd
    obtain ⟨A, B, c, rfl⟩ := hkd
    obtain ⟨f1, f2, f3⟩ := run_equalIn_fn (P := P) (w := w) 9999 hd
    split at hok
    · obtain rfl := hx.nilf_inv
      obtain rfl := hy.nilf_inv
      exact fin (by simp) (by simp) (by simp) (by simp) (by simp) (by simp) f1 hok
    · split at hok
      · rename_i hs
        obtain rfl := hx.nilf_inv
        obtain ⟨f, a, b, rfl⟩ := isFn_den hy hs
        exact fin (by simp) (by simp) (by simp) (by simp) (by simp) (by simp) (f2 _ _ _) hok
      · exact hok.elim
    · split at hok
      · rename_i hs
        obtain rfl := hy.nilf_inv
        obtain ⟨f, a, b, rfl⟩ := isFn_den hx hs
        exact fin (by simp) (by simp) (by simp) (by simp) (by simp) (by simp) (f3 _ _ _) hok
      · exact hok.elim
    · exact hok.elim
  · split at hok
    · rename_i s1 s2
      obtain rfl : a = .string (mkStr s1) := by cases hx with | im h0 => cases h0; rfl
      obtain rfl : b = .string (mkStr s2) := by cases hy with | im h0 => cases h0; rfl
      have e1 : ((mkStr s1).toList == (mkStr s2).toList) = decide (s1 = s2) := by
        by_cases hs : s1 = s2
        · subst hs; simp
        · rw [decide_eq_false hs]
          refine beq_eq_false_iff_ne.2 fun h => hs (strOf_inj ?_)
          rw [ByteArray.toList_eq, ByteArray.toList_eq] at h
          have := Array.toList_inj.1 h
          cases hm : mkStr s1
          cases hm' : mkStr s2
          rw [hm, hm'] at this
          exact congrArg ByteArray.mk this
      rcases eqT_ok hok with ⟨rfl, rfl⟩ | ⟨rfl, rfl⟩
      · exact ⟨_, .bool (decide (s1 = s2)), rfl, by rw [Sem.run_bind, run_eqGuard (.inl (by simp)) (.inl (by simp))]; simp [Go.binOp, Op.stringOp, e1], .bool _⟩
      · exact ⟨_, .bool (!decide (s1 = s2)), rfl, by rw [Sem.run_bind, run_eqGuard (.inl (by simp)) (.inl (by simp))]; simp [Go.binOp, Op.stringOp, e1], .bool _⟩
    · exact hok.elim
  · rename_i n e0 hkk
    rw [hkk] at hkd
    have hd' : P.underlying t = some (.array n e0) := by rw [hd, hkd]
    split at hok
    · rename_i n1 xs n2 ys he8
      obtain ⟨⟨hn1, hn2⟩, hok⟩ := hok
      obtain ⟨rfl, _⟩ := hx.bytes_inv
      obtain ⟨rfl, _⟩ := hy.bytes_inv
      have te := hT.get (t := e0) (by rw [he8]; simp)
      obtain ⟨d8, hd8, hk8⟩ := te.und
      rw [he8] at hk8
      have he0 : P.underlying e0 = some (.int .u8) := by rw [hd8, hk8]
      have hsz : ∀ w, (sizeOf e0).run P w = .ok 1 w := fun w => by
        rw [te.run_sizeOf, te.one (by unfold TI.agg; rw [he8])]
      have hq := run_equalIn_bytes (w := w) 9998 hd' he0 hsz xs ys hn1 hn2
      rcases eqT_ok hok with ⟨rfl, rfl⟩ | ⟨rfl, rfl⟩
      · refine ⟨_, .bool (decide (xs = ys)), rfl, ?_, .bool _⟩
        rw [Sem.run_bind, run_eqGuard_agg _ _ _ _ _ _ _ (eqGuardType_arr hd' he0)]
        simp only [Result.andThen_ok]
        rw [run_eql_struct]
        exact congrArg (fun r => Result.andThen r _) hq
      · refine ⟨_, .bool (!decide (xs = ys)), rfl, ?_, .bool _⟩
        rw [Sem.run_bind, run_eqGuard_agg _ _ _ _ _ _ _ (eqGuardType_arr hd' he0)]
        simp only [Result.andThen_ok]
        rw [run_neq_struct]
        exact congrArg (fun r => Result.andThen r _) hq
    · exact hok.elim
  · exact hok.elim

theorem binT_ok {T : List TI} (hT : TabOK P T) {t : Nat} (hk : (ty T t).k ≠ .other) {op : BinOp} {x y : SV} {a b : Value} {xo yo : Operand} {h : Nat → Option (List Seg)} {e : Eff} {rd : List Nat}
    (hx : Den w own ρ lh x a) (hy : Den w own ρ lh y b) (hok : (binT T (ty T t) op x y).Ok h e rd) :
    ∃ sv v, e = ⟨sv, [], [], []⟩ ∧ (do eqGuard op t xo yo a b; Go.binOp op t a b : Sem Value).run P w = .ok v w ∧ Den0 w own sv v := by
  have fin : ∀ {a b : Value}, a ≠ .nilIface → (∀ c, a ≠ .agg c) → (∃ sv v, e = ⟨sv, [], [], []⟩ ∧ ∀ t w own, (Go.binOp op t a b).run P w = .ok v w ∧ Den0 w own sv v) →
      ∃ sv v, e = ⟨sv, [], [], []⟩ ∧ (do eqGuard op t xo yo a b; Go.binOp op t a b : Sem Value).run P w = .ok v w ∧ Den0 w own sv v := by
    rintro a b h1 h2 ⟨sv, v, k1, k2⟩
    exact ⟨sv, v, k1, by rw [Sem.run_bind, run_eqGuard (.inl h1) (.inl h2)]; exact (k2 t w own).1, (k2 t w own).2⟩
  unfold binT at hok
  split at hok
  · rename_i c hs
    obtain rfl : a = vInt c := by cases hx with | im h0 => cases h0; rfl
    obtain ⟨yk, m, rfl, hok⟩ := count_ok hok hy
    exact fin (by simp [vInt]) (by simp [vInt]) (shiftInt_ok hok)
  · rename_i c hs
    obtain rfl : a = v8 c := by cases hx with | im h0 => cases h0; rfl
    obtain ⟨yk, m, rfl, hok⟩ := count_ok hok hy
    exact fin (by simp [v8]) (by simp [v8]) (shiftBV_ok (k := .u8) rfl (fun _ _ x => .b8 x) hok)
  · rename_i c hs
    obtain rfl : a = v32 c := by cases hx with | im h0 => cases h0; rfl
    obtain ⟨yk, m, rfl, hok⟩ := count_ok hok hy
    exact fin (by simp [v32]) (by simp [v32]) (shiftBV_ok (k := .u32) rfl (fun _ _ x => .b32 x) hok)
  · rename_i c hs
    obtain rfl : a = v64 c := by cases hx with | im h0 => cases h0; rfl
    obtain ⟨yk, m, rfl, hok⟩ := count_ok hok hy
    exact fin (by simp [v64]) (by simp [v64]) (shiftBV_ok (k := .u64) rfl (fun _ _ x => .b64 x) hok)
  · exact hok.elim
  · rename_i c hs
    obtain rfl : a = vInt c := by cases hx with | im h0 => cases h0; rfl
    split at hok
    · rename_i d
      obtain rfl : b = vInt d := by cases hy with | im h0 => cases h0; rfl
      exact fin (by simp [vInt]) (by simp [vInt]) (arithInt_ok hs hok)
    · exact hok.elim
  · rename_i c hs
    obtain rfl : a = v8 c := by cases hx with | im h0 => cases h0; rfl
    split at hok
    · rename_i d
      obtain rfl : b = v8 d := by cases hy with | im h0 => cases h0; rfl
      exact fin (by simp [v8]) (by simp [v8]) (arithBV_ok (k := .u8) rfl (fun _ _ x => .b8 x) hs hok)
    · exact hok.elim
  · rename_i c hs
    obtain rfl : a = v16 c := by cases hx with | im h0 => cases h0; rfl
    split at hok
    · rename_i d
      obtain rfl : b = v16 d := by cases hy with | im h0 => cases h0; rfl
      exact fin (by simp [v16]) (by simp [v16]) (arithBV_ok (k := .u16) rfl (fun _ _ x => .b16 x) hs hok)
    · exact hok.elim
  · rename_i c hs
    obtain rfl : a = v32 c := by cases hx with | im h0 => cases h0; rfl
    split at hok
    · rename_i d
      obtain rfl : b = v32 d := by cases hy with | im h0 => cases h0; rfl
      exact fin (by simp [v32]) (by simp [v32]) (arithBV_ok (k := .u32) rfl (fun _ _ x => .b32 x) hs hok)
    · exact hok.elim
  · rename_i c hs
    obtain rfl : a = v64 c := by cases hx with | im h0 => cases h0; rfl
    split at hok
    · rename_i d
      obtain rfl : b = v64 d := by cases hy with | im h0 => cases h0; rfl
      exact fin (by simp [v64]) (by simp [v64]) (arithBV_ok (k := .u64) rfl (fun _ _ x => .b64 x) hs hok)
    · exact hok.elim
  · exact eqOther_ok hT hk hx hy hok

/-! ### One operand -/
def unT (op : UnOp) (x : SV) : Tr := match op, x with
  | .not, .bool b => .val (.bool (!b))
  | .neg, .int n => .vc (inI64 (-n)) (.val (.int (-n)))
  | .xor, .b8 x => .val (.b8 (~~~x))
  | .xor, .b32 x => .val (.b32 (~~~x))
  | _, _ => .fail
theorem bv_xor {k : IntKind} (hk : k.signed = false) (x : BitVec k.bits) (m : Int) (hm : BitVec.ofInt k.bits m = BitVec.allOnes k.bits) :
    k.wrap ((BitVec.ofInt k.bits m ^^^ BitVec.ofInt k.bits (x.toNat : Int)).toNat : Int) = ((~~~x).toNat : Int) := by
  rw [ofInt_toNat, hm, bv_wrap hk, BitVec.allOnes_xor]
theorem unT_ok {op : UnOp} {x : SV} {a : Value} {h : Nat → Option (List Seg)} {e : Eff} {rd : List Nat} (hx : Den w own ρ lh x a) (hok : (unT op x).Ok h e rd) :
    ∃ sv v, e = ⟨sv, [], [], []⟩ ∧ (Op.unary op a).run P w = .ok v w ∧ Den0 w own sv v := by
  unfold unT at hok
  split at hok
  · obtain ⟨rfl, rfl⟩ := hok
    cases hx with | im h0 => cases h0; exact ⟨_, _, rfl, rfl, .bool _⟩
  · obtain ⟨h1, rfl, rfl⟩ := hok
    cases hx with | im h0 => cases h0; exact ⟨_, _, rfl, by simp [vInt, Op.unary, Op.intArith, i64_in h1], .int _⟩
  · rename_i x
    obtain ⟨rfl, rfl⟩ := hok
    cases hx with | im h0 => cases h0; exact ⟨_, _, rfl, by
      have := bv_xor (k := .u8) rfl x (IntKind.max .u8) (by decide)
      simp only [v8, Op.unary, Op.intBits]
      exact congrArg (fun z => Result.ok (Value.int .u8 z) w) this, .b8 _⟩
  · rename_i x
    obtain ⟨rfl, rfl⟩ := hok
    cases hx with | im h0 => cases h0; exact ⟨_, _, rfl, by
      have := bv_xor (k := .u32) rfl x (IntKind.max .u32) (by decide)
      simp only [v32, Op.unary, Op.intBits]
      exact congrArg (fun z => Result.ok (Value.int .u32 z) w) this, .b32 _⟩
  · exact hok.elim
end
end Go.SE
/- Conversions, addresses, parts of values. -/
namespace Go.SE
open Go

/-- An integer's value, whatever its kind. -/
def SV.asInt : SV → Option Int
  | .int n => some n
  | .b8 x => some (x.toNat : Int)
  | .b16 x => some (x.toNat : Int)
  | .b32 x => some (x.toNat : Int)
  | .b64 x => some (x.toNat : Int)
  | _ => none

/-- The bytes of a slice that is only read. -/
def bytesT (x : SV) (k : List (BitVec 8) → Tr) : Tr := match x with
  | .nils => k []
  | .sl 1 _ (.b8s _ xs) => k xs
  | .str s => k s
  | .os id 1 len => .blk id fun g => match g with
    | .b8s n xs :: _ => .vc (len = n) (k xs)
    | _ => .fail
  | .osub id 1 off len => .blk id fun g => match g with
    | .b8s n xs :: _ => .vc (off + len ≤ n) (k ((xs.drop off).take len))
    | _ => .fail
  | _ => .fail

def convT (dst : TI) (src : TI) (x : SV) : Tr := match dst.k, src.k with
  | .i64, .i64 => match x with
    | .int n => .vc (inI64 n) (.val (.int n))
    | _ => .fail
  | .i64, .u8 => match x with
    | .b8 x => .val (.int (x.toNat : Int))
    | _ => .fail
  | .i64, .u16 => match x with
    | .b16 x => .val (.int (x.toNat : Int))
    | _ => .fail
  | .i64, .u32 => match x with
    | .b32 x => .val (.int (x.toNat : Int))
    | _ => .fail
  | .u8, .i64 => match x with
    | .int n => .val (.b8 (BitVec.ofInt 8 n))
    | _ => .fail
  | .u8, .u32 => match x with
    | .b32 x => .val (.b8 (x.setWidth 8))
    | _ => .fail
  | .u32, .u8 => match x with
    | .b8 x => .val (.b32 (x.setWidth 32))
    | _ => .fail
  | .u64, .i64 => match x with
    | .int n => .val (.b64 (BitVec.ofInt 64 n))
    | _ => .fail
  | .str, .slice _ => match x with
    | .str _ => .fail
    | _ => bytesT x fun xs => .val (.str xs)
  | .slice _, .str => match x with
    | .str s => .vc (s.length ≤ 65536) (.val (.sl 1 s.length (.b8s s.length s)))
    | _ => .fail
  | _, _ => .fail

section
variable {P : Program} {X : Nat → Prop} {G : List (Nat × SV)} {s : St} {ρ : Rho} {lh : Lam} {w : World} {fr : Nat}

theorem run_convert_int {src dst : Nat} {ds dd : TypeDesc} {k : IntKind} {k0 : IntKind} {n : Int} (h1 : P.underlying src = some ds) (h2 : P.underlying dst = some dd) (hd : dd = .int k) :
    (Go.convert src dst (.int k0 n)).run P w = .ok (.int k (k.wrap n)) w := by
  subst hd
  simp only [Go.convert, Sem.run_bind, Go.run_underlying h1, Go.run_underlying h2, Result.andThen_ok]
  simp [Conv.intToInt]

/-- Bytes that a slice reads as. -/
structure BytesAt (w : World) (v : Value) (xs : List (BitVec 8)) : Prop where
  ok : ∃ a cap, v = .slice a xs.length cap ∧ (xs ≠ [] → ∃ b off, a = some ⟨b, off, none⟩ ∧ ∀ j x, (xs.map v8)[j]? = some x → w.cell? ⟨b, off + j, none⟩ = some x)

theorem bytes_ok (hs : SatH X G s ρ lh w) {x : SV} {v : Value} {k : List (BitVec 8) → Tr} {e : Eff} {rd : List Nat} (hx : Den w (Own X s ρ lh) ρ lh x v) (hok : (bytesT x k).Ok s.blk e rd) :
    ∃ xs rd', (k xs).Ok s.blk e rd' ∧ ((x = .str xs ∧ v = .string (mkStr xs)) ∨ ((∀ t, x ≠ .str t) ∧ BytesAt w v xs)) := by
  have den8 : ∀ {n : Nat} {xs : List (BitVec 8)} {l : List Value}, DenS0 w (Own X s ρ lh) [.b8s n xs] l → l = xs.map v8 ∧ xs.length = n := fun h => by
    cases h with | b8s hn hr => cases hr; exact ⟨by simp, hn⟩
  unfold bytesT at hok
  split at hok
  · obtain rfl : v = .slice none 0 0 := by cases hx with | im h0 => cases h0; rfl
    exact ⟨[], _, hok, .inr ⟨by simp, ⟨none, 0, rfl, by simp⟩⟩⟩
  · rename_i len n xs
    refine ⟨xs, _, hok, .inr ⟨by simp, ?_⟩⟩
    cases hx with
    | im h0 =>
      cases h0 with
      | sl hl hn hc hp =>
        obtain ⟨rfl, h1⟩ := den8 hl
        simp only [List.length_map, Nat.mul_one] at hn
        subst hn
        refine ⟨⟨_, _, rfl, fun hne => ?_⟩⟩
        rcases hp with hp | ⟨b, off, cs, elem, f, rfl, hb, _, hlies⟩
        · exact absurd (by simpa using hp) hne
        · exact ⟨b, off, rfl, fun j x hj => cell_of_lies hb hlies hj⟩
  · rename_i t
    refine ⟨t, _, hok, .inl ⟨rfl, ?_⟩⟩
    cases hx with | im h0 => cases h0; rfl
  · rename_i id len
    obtain ⟨g, rd', hg, _, hok⟩ := hok
    dsimp only at hok
    split at hok
    · rename_i n xs r
      obtain ⟨rfl, hok⟩ := hok
      refine ⟨xs, _, hok, .inr ⟨by simp, ?_⟩⟩
      have lenEq : ∀ {b sz}, ρ id = some (b, sz) → xs.length = len ∧ ∀ j x, (xs.map v8)[j]? = some x → w.cell? ⟨b, j, none⟩ = some x := fun hr => by
        obtain ⟨l, hd, hc⟩ := hs.lies hg hr
        obtain ⟨l1, l2, rfl, h1, _⟩ := hd.inv_seg (by intro v; simp)
        obtain ⟨rfl, hn⟩ := den8 h1
        refine ⟨hn, fun j x hj => ?_⟩
        have := hc j x (by rw [List.getElem?_append_left (List.getElem?_eq_some_iff.1 hj).1]; exact hj)
        simpa using this
      cases hx with
      | im h0 => cases h0
      | os hr hc hz =>
        obtain ⟨h1, h2⟩ := lenEq hr
        subst h1
        exact ⟨⟨_, _, rfl, fun _ => ⟨_, 0, rfl, fun j x hj => by simpa using h2 j x hj⟩⟩⟩
      | osn hr =>
        obtain ⟨h1, h2⟩ := lenEq hr
        obtain rfl : xs = [] := List.length_eq_zero_iff.1 h1
        exact ⟨⟨_, _, rfl, by simp⟩⟩
    · exact hok.elim
  · rename_i id off len
    obtain ⟨g, rd', hg, _, hok⟩ := hok
    dsimp only at hok
    split at hok
    · rename_i n xs r
      obtain ⟨hle, hok⟩ := hok
      refine ⟨_, _, hok, .inr ⟨by simp, ?_⟩⟩
      have lenEq : ∀ {b sz}, ρ id = some (b, sz) → xs.length = n ∧ ∀ j x, (((xs.drop off).take len).map v8)[j]? = some x → w.cell? ⟨b, off + j, none⟩ = some x := fun hr => by
        obtain ⟨l, hd, hc⟩ := hs.lies hg hr
        obtain ⟨l1, l2, rfl, h1, _⟩ := hd.inv_seg (by intro v; simp)
        obtain ⟨rfl, hn⟩ := den8 h1
        refine ⟨hn, fun j x hj => ?_⟩
        have hj' : j < len := by
          have := (List.getElem?_eq_some_iff.1 hj).1
          simp at this; omega
        rw [List.getElem?_map, List.getElem?_take, if_pos hj', List.getElem?_drop] at hj
        have hlt : off + j < xs.length := by
          rcases Nat.lt_or_ge (off + j) xs.length with h | h
          · exact h
          · rw [List.getElem?_eq_none h] at hj; cases hj
        have := hc (off + j) x (by rw [List.getElem?_append_left (by simpa using hlt), List.getElem?_map]; exact hj)
        simpa using this
      have hl : ∀ {b sz}, ρ id = some (b, sz) → ((xs.drop off).take len).length = len := fun hr => by
        have := (lenEq hr).1
        simp; omega
      cases hx with
      | im h0 => cases h0
      | osub hr hc hz =>
        exact ⟨⟨_, _, by rw [hl hr], fun _ => ⟨_, _, rfl, (lenEq hr).2⟩⟩⟩
      | osubn hr => exact ⟨⟨_, _, by rw [hl hr], fun h => absurd (List.length_eq_zero_iff.1 (hl hr)) h⟩⟩
      | osubz hr => exact ⟨⟨_, _, by rw [hl hr], fun h => absurd (List.length_eq_zero_iff.1 (hl hr)) h⟩⟩
    · exact hok.elim
  · exact hok.elim

theorem loadCells_bytes {b off : Nat} {xs : List (BitVec 8)} (h : ∀ j x, (xs.map v8)[j]? = some x → w.cell? ⟨b, off + j, none⟩ = some x) : (loadCells ⟨b, off, none⟩ xs.length).run P w = .ok (xs.map v8).toArray w := by
  have := run_loadCells_list (P := P) w ⟨b, off, none⟩ (xs.map v8) (fun j v hj => by rw [add_zero_spot]; exact h j v hj)
  simpa using this
theorem fold_push (xs : List (BitVec 8)) : ∀ (acc : ByteArray), (xs.map fun x => (x.toNat : Int)).foldl (fun r n => r.push (UInt8.ofNat n.toNat)) acc = ⟨(acc.data.toList ++ xs.map fun x => UInt8.ofBitVec x).toArray⟩ := by
  induction xs with
  | nil => intro acc; simp
  | cons x r ih =>
    intro acc
    simp only [List.map_cons, List.foldl_cons, ih]
    have : UInt8.ofNat ((x.toNat : Int)).toNat = UInt8.ofBitVec x := by
      apply UInt8.toNat_inj.1
      simp
    rw [this]
    simp [ByteArray.push]
theorem run_bytesToString {v : Value} {xs : List (BitVec 8)} (h : BytesAt w v xs) : (Conv.bytesToString v).run P w = .ok (.string (mkStr xs)) w := by
  obtain ⟨a, cap, rfl, hc⟩ := h.ok
  cases a with
  | none =>
    obtain rfl : xs = [] := by
      rcases xs with _ | ⟨x, r⟩
      · rfl
      · obtain ⟨b, off, h1, _⟩ := hc (by simp); cases h1
    rfl
  | some a =>
    by_cases hx : xs = []
    · subst hx
      simp [Conv.bytesToString, loadCells, loadCellsFrom]
      rfl
    · obtain ⟨b, off, h1, h2⟩ := hc hx
      cases h1
      have e1 : (xs.map v8) = ((xs.map fun x => (x.toNat : Int)).map (Value.int .u8)) := by rw [List.map_map]; rfl
      rw [Go.run_bytesToString w _ _ _ (xs.map fun x => (x.toNat : Int)) (by rw [← e1]; exact loadCells_bytes h2), fold_push]
      simp [mkStr, ByteArray.empty, ByteArray.emptyWithCapacity]
      rfl

theorem run_conv_string {src dst e0 : Nat} (h1 : P.underlying src = some (.slice e0)) (h2 : P.underlying e0 = some (.int .u8)) (h3 : P.underlying dst = some .string) {v : Value} {xs : List (BitVec 8)} (h : BytesAt w v xs) :
    (Go.convert src dst v).run P w = .ok (.string (mkStr xs)) w := by
  obtain ⟨a, cap, rfl, hc⟩ := h.ok
  cases a with
  | none => 
    have := run_bytesToString (P := P) h
    simp only [Go.convert, Sem.run_bind, Go.run_underlying h1, Go.run_underlying h2, Go.run_underlying h3, Result.andThen_ok]
    exact this
  | some a => rw [Go.run_convert_bytes_string w src dst e0 _ _ _ h1 h2 h3]; exact run_bytesToString h

/-- The world has grown, and nothing else. -/
theorem SatH.grow {w' : World} (hs : SatH X G s ρ lh w) (hq : Mute w w') (hz : w.heap.size ≤ w'.heap.size) (hb : ∀ (b : Nat) (o : Obj), w.heap[b]? = some o → w'.heap[b]? = some o) :
    SatH X G s ρ lh w' ∧ Goes s.next s.nh s s ρ ρ lh lh w w' := by
  have hg : Goes s.next s.nh s s ρ ρ lh lh w w' := ⟨hz, fun b o h _ => hb b o h, fun _ h => .inl h, fun _ _ _ h => h, fun _ _ _ h => h, hq⟩
  exact ⟨hs.step hg (fun _ => rfl) (fun _ _ e => .inl ⟨e, fun _ _ _ _ _ h => hb _ _ h⟩) hs.inj hs.foreign hs.nxt (fun _ _ _ _ _ _ h => hb _ _ h) rfl (Nat.le_refl _), hg⟩
theorem Own.lt (hs : SatH X G s ρ lh w) {b : Nat} (h : Own X s ρ lh b) : b < w.heap.size := by
  rcases h with h | ⟨i, segs, sz, h1, h2, h3⟩ | ⟨L, x, h1, h2⟩
  · exact hs.xlt b h
  · obtain ⟨b', sz', e, l, _, _, hb⟩ := hs.blk i segs h1
    rw [h2] at e; cases e
    obtain ⟨cs, elem, hb', _⟩ := hb h3
    exact lt_of_heap hb'
  · obtain ⟨l, r, e, hb, _⟩ := hs.hd L x h1
    rw [h2] at e; cases e
    exact lt_of_heap hb

theorem Does.grow {w' : World} (hs : SatH X G s ρ lh w) (hq : Mute w w') (hz : w.heap.size ≤ w'.heap.size) (hb : ∀ (b : Nat) (o : Obj), w.heap[b]? = some o → w'.heap[b]? = some o) {sv : SV} {v : Value} (hv : Den w' (Own X s ρ lh) ρ lh sv v) :
    Does X G s ρ lh w ⟨sv, [], [], []⟩ fr v w' := ⟨ρ, (hs.grow hq hz hb).1, hv, (hs.grow hq hz hb).2, fun _ h => .inl h⟩

theorem run_stringToBytes (hs : SatH X G s ρ lh w) (e0 : Nat) (xs : List (BitVec 8)) :
    ∃ w' v, (Conv.stringToBytes e0 (mkStr xs)).run P w = .ok v w' ∧ Does X G s ρ lh w ⟨.sl 1 xs.length (.b8s xs.length xs), [], [], []⟩ fr v w' := by
  have hsz : (mkStr xs).size = xs.length := by simp [mkStr, ByteArray.size]
  have hel : (mkStr xs).data.map (fun b => Value.int .u8 (b.toNat : Int)) = (xs.map v8).toArray := by
    simp [mkStr]
    intro x _
    rfl
  simp only [Conv.stringToBytes, Sem.run_bind, run_choose, Question.forced, Bool.false_eq_true, if_false, Result.andThen_ok, newRow, run_newObj, Sem.run_pure, markStringish, run_shape, hsz, hel]
  generalize hcap : Question.cut (.appendCap xs.length 0 e0) (w.tape w.drawn (.appendCap xs.length 0 e0)) = cap
  have hge : xs.length ≤ cap := by rw [← hcap]; simp [Question.cut]
  have hsh : ∀ c : Array Value, ({ heap := w.heap.push (.cells c e0), tape := w.tape, drawn := w.drawn + 1, os := w.os, output := w.output } : World).shape? w.heap.size = some (e0, c.size) := by
    intro c; simp [World.shape?]
  simp only [hsh, run_freeze, Result.andThen_ok]
  refine ⟨_, _, rfl, ?_⟩
  have hold : ∀ (b : Nat) (o : Obj), w.heap[b]? = some o → (World.freeze { heap := w.heap.push (.cells ((xs.map v8).toArray ++ Array.replicate (cap - xs.length) (.int .u8 0)) e0), tape := w.tape, drawn := w.drawn + 1, os := w.os, output := w.output } { block := w.heap.size, off := ((xs.map v8).toArray ++ Array.replicate (cap - xs.length) (Value.int .u8 0)).size } 1).heap[b]? = some o := by
    intro b o hb
    have hlt := lt_of_heap hb
    simp only [World.freeze, Nat.one_ne_zero, if_false, Array.getElem?_modify]
    rw [if_neg (by omega), Array.getElem?_push, if_neg (by omega)]
    exact hb
  generalize hC : (xs.map v8).toArray ++ Array.replicate (cap - xs.length) (Value.int .u8 0) = C at *
  have hnew : (World.freeze { heap := w.heap.push (.cells C e0), tape := w.tape, drawn := w.drawn + 1, os := w.os, output := w.output } { block := w.heap.size, off := C.size } 1).heap[w.heap.size]? = some (.cells C e0 (C.size, C.size + 1)) := by
    simp only [World.freeze, Nat.one_ne_zero, if_false, Array.getElem?_modify, if_true, Array.getElem?_push, Option.map_some]
    rfl
  have hden : ∀ W : World, DenS0 W (Own X s ρ lh) [.b8s xs.length xs] (xs.map v8) := fun W => by
    have := DenS0.b8s (w := W) (own := Own X s ρ lh) (n := xs.length) (xs := xs) rfl .nil
    rwa [List.append_nil] at this
  refine Does.grow hs (by unfold World.freeze; split <;> exact ⟨rfl, rfl⟩) (by simp [World.freeze]) hold (.im (.sl (hden _) (by simp) hge (Or.inr ⟨w.heap.size, 0, C, e0, (C.size, C.size + 1), rfl, hnew, fun h => Nat.lt_irrefl _ (Own.lt hs h), ?_⟩)))
  rw [← hC]
  simp [liesAt]

theorem den_int {own : Nat → Prop} {n : Int} {v : Value} (h : Den w own ρ lh (.int n) v) : v = .int .i64 n := by cases h with | im h0 => cases h0; rfl
theorem den_b8 {own : Nat → Prop} {n : BitVec 8} {v : Value} (h : Den w own ρ lh (.b8 n) v) : v = .int .u8 (n.toNat : Int) := by cases h with | im h0 => cases h0; rfl
theorem den_b16 {own : Nat → Prop} {n : BitVec 16} {v : Value} (h : Den w own ρ lh (.b16 n) v) : v = .int .u16 (n.toNat : Int) := by cases h with | im h0 => cases h0; rfl
theorem den_b32 {own : Nat → Prop} {n : BitVec 32} {v : Value} (h : Den w own ρ lh (.b32 n) v) : v = .int .u32 (n.toNat : Int) := by cases h with | im h0 => cases h0; rfl
theorem den_b64 {own : Nat → Prop} {n : BitVec 64} {v : Value} (h : Den w own ρ lh (.b64 n) v) : v = .int .u64 (n.toNat : Int) := by cases h with | im h0 => cases h0; rfl
theorem den_asInt {own : Nat → Prop} {sv : SV} {v : Value} {n : Int} (h : Den w own ρ lh sv v) (e : sv.asInt = some n) : ∃ k, v = .int k n := by
  cases sv <;> simp only [SV.asInt, Option.some.injEq, reduceCtorEq] at e <;> subst e
  · exact ⟨_, den_int h⟩
  · exact ⟨_, den_b8 h⟩
  · exact ⟨_, den_b16 h⟩
  · exact ⟨_, den_b32 h⟩
  · exact ⟨_, den_b64 h⟩

theorem conv_sound {T : List TI} (hT : TabOK P T) {src dst : Nat} (hk1 : (ty T src).k ≠ .other) (hk2 : (ty T dst).k ≠ .other) (h8 : ∀ e0, (ty T src).k = .slice e0 ∨ (ty T dst).k = .slice e0 → (ty T e0).k = .u8)
    (hs : SatH X G s ρ lh w) {x : SV} {v : Value} (hx : Den w (Own X s ρ lh) ρ lh x v) {e : Eff} {rd : List Nat} (hok : (convT (ty T dst) (ty T src) x).Ok s.blk e rd) :
    ∃ v' w', (Go.convert src dst v).run P w = .ok v' w' ∧ Does X G s ρ lh w e fr v' w' := by
  obtain ⟨ds, hds, hks⟩ := (hT.get hk1).und
  obtain ⟨dd, hdd, hkd⟩ := (hT.get hk2).und
  have fin : ∀ {k k0 : IntKind} {n m : Int} {sv : SV}, v = .int k0 n → dd = .int k → k.wrap n = m → Den0 w (Own X s ρ lh) sv (.int k m) → ∃ v' w', (Go.convert src dst v).run P w = .ok v' w' ∧ Does X G s ρ lh w ⟨sv, [], [], []⟩ fr v' w' := by
    intro k k0 n m sv hv hd hm hden
    subst hv hm
    exact ⟨_, _, run_convert_int hds hdd hd, does_val hs (.im hden) rfl ⟨rfl, rfl⟩⟩
  unfold convT at hok
  split at hok <;> rename_i hk1' hk2' <;> (try rw [hk1'] at hkd) <;> (try rw [hk2'] at hks)
  · split at hok
    · obtain ⟨h1, rfl, rfl⟩ := hok
      exact fin (den_int hx) hkd (i64_in h1) (.int _)
    · exact hok.elim
  · split at hok
    · rename_i x
      obtain ⟨rfl, rfl⟩ := hok
      exact fin (den_b8 hx) hkd (i64_in ⟨by omega, by have := x.isLt; omega⟩) (.int _)
    · exact hok.elim
  · split at hok
    · rename_i x
      obtain ⟨rfl, rfl⟩ := hok
      exact fin (den_b16 hx) hkd (i64_in ⟨by omega, by have := x.isLt; omega⟩) (.int _)
    · exact hok.elim
  · split at hok
    · rename_i x
      obtain ⟨rfl, rfl⟩ := hok
      exact fin (den_b32 hx) hkd (i64_in ⟨by omega, by have := x.isLt; omega⟩) (.int _)
    · exact hok.elim
  · split at hok
    · rename_i n
      obtain ⟨rfl, rfl⟩ := hok
      exact fin (den_int hx) hkd (wrap_bv (k := .u8) rfl n) (.b8 _)
    · exact hok.elim
  · split at hok
    · rename_i x
      obtain ⟨rfl, rfl⟩ := hok
      refine fin (den_b32 hx) hkd (wrap_bv (k := .u8) rfl _) ?_
      have : BitVec.ofInt (IntKind.bits .u8) (x.toNat : Int) = x.setWidth 8 := by
        rw [BitVec.ofInt_natCast]; rfl
      rw [this]; exact .b8 _
    · exact hok.elim
  · split at hok
    · rename_i x
      obtain ⟨rfl, rfl⟩ := hok
      refine fin (den_b8 hx) hkd (wrap_bv (k := .u32) rfl _) ?_
      have : BitVec.ofInt (IntKind.bits .u32) (x.toNat : Int) = x.setWidth 32 := by
        rw [BitVec.ofInt_natCast]; apply BitVec.eq_of_toNat_eq; simp [IntKind.bits]
      rw [this]; exact .b32 _
    · exact hok.elim
  · split at hok
    · rename_i n
      obtain ⟨rfl, rfl⟩ := hok
      exact fin (den_int hx) hkd (wrap_bv (k := .u64) rfl n) (.b64 _)
    · exact hok.elim
  · rename_i e0
    have hns : ∀ t, x ≠ .str t := fun t ht => by subst ht; exact hok.elim
    have hok : (bytesT x fun xs => .val (.str xs)).Ok s.blk e rd := by
      cases x <;> first | exact hok.elim | exact hok
    obtain ⟨xs, rd', hok, hb⟩ := bytes_ok hs hx hok
    obtain ⟨rfl, rfl⟩ := hok
    have h8' := h8 e0 (.inl hk2')
    obtain ⟨d8, hd8, hk8⟩ := (hT.get (t := e0) (by rw [h8']; simp)).und
    rw [h8'] at hk8
    have hsrc : P.underlying src = some (.slice e0) := by rw [hds, hks]
    have hdst : P.underlying dst = some .string := by rw [hdd, hkd]
    rcases hb with ⟨hx', _⟩ | ⟨_, hb⟩
    · exact absurd hx' (hns _)
    · exact ⟨_, _, run_conv_string hsrc (by rw [hd8, hk8]) hdst hb, does_val hs (.im (.str xs)) rfl ⟨rfl, rfl⟩⟩
  · rename_i e0
    split at hok
    · rename_i xs
      obtain ⟨_, rfl, rfl⟩ := hok
      obtain rfl : v = .string (mkStr xs) := by cases hx with | im h0 => cases h0; rfl
      have h8' := h8 e0 (.inr hk1')
      obtain ⟨d8, hd8, hk8⟩ := (hT.get (t := e0) (by rw [h8']; simp)).und
      rw [h8'] at hk8
      obtain ⟨w', v', h1, h2⟩ := run_stringToBytes (P := P) (fr := fr) hs e0 xs
      refine ⟨v', w', ?_, h2⟩
      have e1 : P.underlying dst = some (.slice e0) := by rw [hdd, hkd]
      have e2 : P.underlying src = some .string := by rw [hds, hks]
      have e3 : P.underlying e0 = some (.int .u8) := by rw [hd8, hk8]
      simp only [Go.convert, Sem.run_bind, Go.run_underlying e1, Go.run_underlying e2, Go.run_underlying e3, Result.andThen_ok]
      exact h1
    · exact hok.elim
  · exact hok.elim
end
end Go.SE
/- Addresses, fields, indexes, slices. -/
namespace Go.SE
open Go

def fieldAddrT (T : List TI) (ti : TI) (x : SV) (f : Nat) : Tr := match ti.k with
  | .struct fs => match fs[f]? with
    | some (off, ft) => match (ty T ft).k, (ty T ft).size with
      | .other, _ => .fail
      | _, 0 => .fail
      | _, _ => match x with
        | .ptr id base => .val (.ptr id (base + off))
        | .ip o base => .val (.ip o (base + off))
        | _ => .fail
    | none => .fail
  | _ => .fail
def fieldT (T : List TI) (ti : TI) (x : SV) (f : Nat) : Tr := match ti.k, x with
  | .struct fs, .agg o => match fs[f]? with
    | some (off, ft) => match (ty T ft).k with
      | .other => .fail
      | _ => rd1 (ty T ft) o off
    | none => .fail
  | _, _ => .fail
def mulE (es n : Nat) : Nat := match es with
  | 1 => n
  | _ => n * es
theorem mulE_eq (es n : Nat) : mulE es n = n * es := by unfold mulE; split <;> simp
def indexAddrT (T : List TI) (ti : TI) (x i : SV) : Tr := match i.asInt with
  | some n => match ti.k with
    | .arr len e => match (ty T e).k with
      | .other => .fail
      | _ => match x with
        | .ptr id base => .vc (0 ≤ n ∧ n < len) (.val (.ptri id base (mulE (ty T e).size n.toNat)))
        | .ip o base => .vc (0 ≤ n ∧ n < len) (.val (.ipi o base (mulE (ty T e).size n.toNat)))
        | _ => .fail
    | .slice e => match (ty T e).k with
      | .other => .fail
      | _ => match x with
        | .sl es len g => match decide (es = (ty T e).size ∧ 0 < es) with
          | true => .vc (0 ≤ n ∧ n < len) (.val (.ipi [g] 0 (mulE es n.toNat)))
          | false => .fail
        | .os id es len => match decide (es = (ty T e).size) with
          | true => .vc (0 ≤ n ∧ n < len) (.val (.ptri id 0 (mulE es n.toNat)))
          | false => .fail
        | .osub id es off len => match decide (es = (ty T e).size) with
          | true => .vc (0 ≤ n ∧ n < len) (.val (.ptri id 0 (off + mulE es n.toNat)))
          | false => .fail
        | _ => .fail
    | _ => .fail
  | none => .fail
def indexT (T : List TI) (ti : TI) (x i : SV) : Tr := match i.asInt, ti.k with
  | some n, .arr len e => match (ty T e).k, x with
    | .u8, .agg (.b8s m xs :: _) => match decide (m = len) with
      | true => .vc (0 ≤ n ∧ n < len) (.val (.b8 (xs.getD n.toNat 0)))
      | false => .fail
    | .u32, .agg (.b32s m xs :: _) => match decide (m = len) with
      | true => .vc (0 ≤ n ∧ n < len) (.val (.b32 (xs.getD n.toNat 0)))
      | false => .fail
    | .i64, .agg (.ints m xs :: _) => match decide (m = len) with
      | true => .vc (0 ≤ n ∧ n < len) (.val (.int (xs.getD n.toNat 0)))
      | false => .fail
    | _, _ => .fail
  | _, _ => .fail
def nilCheckT (x : SV) : Tr := match x with
  | .ptr _ _ | .ptri _ _ _ | .ip _ _ | .ipi _ _ _ | .fn _ _ _ | .yv _ => .val x
  | _ => .fail
def extractT (x : SV) (i : Nat) : Tr := match x with
  | .tup vs => match vs[i]? with
    | some v => .val v
    | none => .fail
  | _ => .fail

section
variable {P : Program} {X : Nat → Prop} {G : List (Nat × SV)} {s : St} {ρ : Rho} {lh : Lam} {w : World} {fr : Nat} {own : Nat → Prop}

theorem struct_field {T : List TI} (hT : TabOK P T) {t : Nat} {fs : List (Nat × Nat)} (hk : (ty T t).k = .struct fs) {f off ft : Nat} (hf : fs[f]? = some (off, ft)) :
    ∃ fields fd, P.underlying t = some (.struct fields) ∧ fields[f]? = some fd ∧ fd.offset = off ∧ fd.type = ft := by
  obtain ⟨d, hd, hkd⟩ := (hT.get (t := t) (by rw [hk]; simp)).und
  rw [hk] at hkd
  obtain ⟨fields, rfl, hm⟩ := hkd
  rw [← hm, List.getElem?_map] at hf
  cases hg : fields.toList[f]? with
  | none => rw [hg] at hf; cases hf
  | some fd =>
    rw [hg] at hf
    simp only [Option.map_some, Option.some.injEq, Prod.mk.injEq] at hf
    exact ⟨fields, fd, hd, by simpa using hg, hf.1, hf.2⟩

theorem fieldAddr_sound {T : List TI} (hT : TabOK P T) {t : Nat} {x : SV} {v : Value} {f : Nat} {h : Nat → Option (List Seg)} {e : Eff} {rd : List Nat} (hx : Den w own ρ lh x v) (hok : (fieldAddrT T (ty T t) x f).Ok h e rd) :
    ∃ sv v', e = ⟨sv, [], [], []⟩ ∧ (Instr.fieldAt t v f).run P w = .ok v' w ∧ Den w own ρ lh sv v' := by
  unfold fieldAddrT at hok
  split at hok
  · rename_i fs hk
    split at hok
    · rename_i off ft hf
      obtain ⟨fields, fd, h1, h2, h3, h4⟩ := struct_field hT hk hf
      split at hok
      · exact hok.elim
      · exact hok.elim
      · rename_i hno hz
        have hft := hT.get (t := ft) hno
        have hsz : (ty T ft).size ≠ 0 := hz
        have run : ∀ b o, (Instr.fieldAt t (.pointer (some ⟨b, o, none⟩)) f).run P w = .ok (.pointer (some ⟨b, o + off, none⟩)) w := fun b o => by
          simp only [Instr.fieldAt, Sem.run_bind, Go.run_underlying h1, Result.andThen_ok, h2, Instr.sureAddr, Sem.run_pure, fieldPlace, h4, hft.run_sizeOf, hsz, if_false]
          rw [h3, add_zero_spot]
        split at hok
        · obtain ⟨rfl, rfl⟩ := hok
          cases hx with
          | im h0 => cases h0
          | ptr hr => exact ⟨_, _, rfl, run _ _, .ptr hr⟩
        · obtain ⟨rfl, rfl⟩ := hok
          cases hx with
          | im h0 => cases h0 with
            | ip hb ho hl hp => exact ⟨_, _, rfl, run _ _, by rw [Nat.add_assoc]; exact .im (.ip hb ho hl hp)⟩
        · exact hok.elim
    · exact hok.elim
  · exact hok.elim

theorem DenS.lies_self {o : List Seg} {l : List Value} (h : DenS w own ρ lh o l) {n : Nat} {p q : List Seg} (e : segSplit o n = some (p, q)) : ∃ l1 l2, l = l1 ++ l2 ∧ l1.length = n ∧ DenS w own ρ lh p l1 ∧ DenS w own ρ lh q l2 := segSplit_den h e

theorem field_sound {T : List TI} (hT : TabOK P T) {t : Nat} {x : SV} {v : Value} {f : Nat} {h : Nat → Option (List Seg)} {e : Eff} {rd : List Nat} (hx : Den w own ρ lh x v) (hok : (fieldT T (ty T t) x f).Ok h e rd) :
    ∃ sv v', e = ⟨sv, [], [], []⟩ ∧ (Instr.field t v f).run P w = .ok v' w ∧ Den w own ρ lh sv v' := by
  unfold fieldT at hok
  split at hok
  · rename_i fs o hk
    obtain ⟨l, rfl, hl⟩ : ∃ l, v = .agg l.toArray ∧ DenS w own ρ lh o l := by
      cases hx with
      | im h0 => cases h0 with
        | agg h => exact ⟨_, rfl, h.full⟩
      | agg h => exact ⟨_, rfl, h⟩
    split at hok
    · rename_i off ft hf
      obtain ⟨fields, fd, h1, h2, h3, h4⟩ := struct_field hT hk hf
      split at hok
      · exact hok.elim
      · rename_i hno
        have hft := hT.get (t := ft) hno
        have run : (Instr.field t (.agg l.toArray) f).run P w = (part ft l.toArray off).run P w := by
          simp only [Instr.field, Sem.run_bind, Go.run_underlying h1, Result.andThen_ok, h2, asAgg, Sem.run_pure, h3, h4]
        rw [run]
        unfold rd1 at hok
        split at hok
        · rename_i p r hs
          obtain ⟨l1, l2, rfl, hl1, _, hd2⟩ := segSplit_den hl hs
          split at hok
          · rename_i hagg
            split at hok
            · rename_i m q hm
              obtain ⟨rfl, rfl⟩ := hok
              obtain ⟨l3, l4, rfl, hl3, hd3, _⟩ := segSplit_den hd2 hm
              refine ⟨_, .agg l3.toArray, rfl, ?_, .agg hd3⟩
              simp only [part, Sem.run_bind, hft.run_isAgg, hagg, Result.andThen_ok, if_true, hft.run_sizeOf, Sem.run_pure]
              congr 2
              apply Array.toList_inj.1
              simp only [Array.toList_extract, List.extract_eq_take_drop]
              subst hl1
              simp [← hl3]
            · exact hok.elim
          · rename_i hagg
            split at hok
            · rename_i v0 r'
              obtain ⟨rfl, rfl⟩ := hok
              obtain ⟨y, l4, rfl, hy, _, _⟩ := hd2.inv_one
              refine ⟨_, y, rfl, ?_, hy⟩
              subst hl1
              simp [part, hft.run_isAgg, hagg]
            · exact hok.elim
        · exact hok.elim
    · exact hok.elim
  · exact hok.elim

theorem indexAddr_sound {T : List TI} (hT : TabOK P T) {t : Nat} {x i : SV} {v vi : Value} {h : Nat → Option (List Seg)} {e : Eff} {rd : List Nat} (hx : Den w own ρ lh x v) (hi : Den w own ρ lh i vi)
    (hok : (indexAddrT T (ty T t) x i).Ok h e rd) : ∃ sv v', e = ⟨sv, [], [], []⟩ ∧ (Instr.indexAt t v vi).run P w = .ok v' w ∧ Den w own ρ lh sv v' := by
  unfold indexAddrT at hok
  split at hok
  · rename_i n hn
    obtain ⟨k, rfl⟩ := den_asInt hi hn
    split at hok
    · rename_i len e0 hk
      obtain ⟨d, hd, hkd⟩ := (hT.get (t := t) (by rw [hk]; simp)).und
      rw [hk] at hkd
      have hd' : P.underlying t = some (.array len e0) := by rw [hd, hkd]
      split at hok
      · exact hok.elim
      · rename_i hno
        have he := hT.get (t := e0) hno
        have run : ∀ b o, 0 ≤ n ∧ n < len → (Instr.indexAt t (.pointer (some ⟨b, o, none⟩)) (.int k n)).run P w = .ok (.pointer (some ⟨b, o + n.toNat * (ty T e0).size, none⟩)) w := fun b o hb => by
          simp only [Instr.indexAt, Sem.run_bind, asIntOf, Sem.run_pure, Result.andThen_ok, Go.run_underlying hd', Instr.sureAddr, hb, and_self, if_true, he.run_sizeOf, add_zero_spot]
        split at hok
        · obtain ⟨hb, rfl, rfl⟩ := hok
          cases hx with
          | im h0 => cases h0
          | ptr hr => exact ⟨_, _, rfl, run _ _ hb, by rw [mulE_eq]; exact .ptri hr⟩
        · obtain ⟨hb, rfl, rfl⟩ := hok
          cases hx with
          | im h0 => cases h0 with
            | ip h1 h2 h3 h4 => exact ⟨_, _, rfl, run _ _ hb, by rw [mulE_eq, Nat.add_assoc]; exact .im (.ipi h1 h2 h3 h4)⟩
        · exact hok.elim
    · rename_i e0 hk
      obtain ⟨d, hd, hkd⟩ := (hT.get (t := t) (by rw [hk]; simp)).und
      rw [hk] at hkd
      have hd' : P.underlying t = some (.slice e0) := by rw [hd, hkd]
      split at hok
      · exact hok.elim
      · rename_i hno
        have he := hT.get (t := e0) hno
        have run : ∀ b o (len cap : Nat), 0 ≤ n ∧ n < len → (Instr.indexAt t (.slice (some ⟨b, o, none⟩) len cap) (.int k n)).run P w = .ok (.pointer (some ⟨b, o + n.toNat * (ty T e0).size, none⟩)) w := fun b o len cap hb => by
          simp only [Instr.indexAt, Sem.run_bind, asIntOf, Sem.run_pure, Result.andThen_ok, Go.run_underlying hd', hb, and_self, if_true, he.run_sizeOf, add_zero_spot]
        split at hok
        · rename_i es len g
          split at hok
          · rename_i hes
            obtain ⟨hb, rfl, rfl⟩ := hok
            obtain ⟨hes, hpos⟩ := of_decide_eq_true hes
            cases hx with
            | im h0 => cases h0 with
              | sl hl hln hc hp =>
                rcases hp with rfl | ⟨b, off, cs, elem, f, rfl, h1, h2, h3⟩
                · exfalso
                  simp only [List.length_nil] at hln
                  rcases Nat.mul_eq_zero.1 hln.symm with h0 | h0 <;> omega
                · refine ⟨_, _, rfl, run _ _ _ _ hb, ?_⟩
                  rw [mulE_eq, hes]
                  have := Den0.ipi (base := 0) (idx := n.toNat * (ty T e0).size) h1 h2 hl h3
                  rw [Nat.zero_add] at this
                  exact .im this
          · exact hok.elim
        · rename_i id es len
          split at hok
          · rename_i hes
            obtain ⟨hb, rfl, rfl⟩ := hok
            have hes := of_decide_eq_true hes
            cases hx with
            | im h0 => cases h0
            | os hr hc hz => exact ⟨_, _, rfl, run _ _ _ _ hb, by rw [mulE_eq, hes]; exact .ptri hr⟩
            | osn hr => exact absurd hb (by omega)
          · exact hok.elim
        · rename_i id es off len
          split at hok
          · rename_i hes
            obtain ⟨hb, rfl, rfl⟩ := hok
            have hes := of_decide_eq_true hes
            cases hx with
            | im h0 => cases h0
            | osub hr hc hz =>
              refine ⟨_, _, rfl, run _ _ _ _ hb, ?_⟩
              rw [mulE_eq, hes]
              have := Den.ptri (w := w) (own := own) (lh := lh) (base := 0) (idx := off + n.toNat * (ty T e0).size) hr
              rwa [Nat.zero_add] at this
            | osubn hr => exact absurd hb (by omega)
            | osubz hr => exact absurd hb (by omega)
          · exact hok.elim
        · exact hok.elim
    · exact hok.elim
  · exact hok.elim
end
end Go.SE
/- Indexes of values, lengths, slices of slices. -/
namespace Go.SE
open Go

def lenT (x : SV) : Tr := match x with
  | .nils => .val (.int 0)
  | .sl _ len _ => .val (.int (len : Int))
  | .os _ _ len => .val (.int (len : Int))
  | .osub _ _ _ len => .val (.int (len : Int))
  | .str s => .vc (s.length ≤ 9223372036854775807) (.val (.int (s.length : Int)))
  | _ => .fail
def capT (x : SV) : Tr := match x with
  | .nils => .val (.int 0)
  | _ => .fail

/-- A bound of a slice. -/
def boundT (x : Option SV) (dflt lim : Nat) (k : Nat → Tr) : Tr := match x with
  | none => k dflt
  | some v => match v.asInt with
    | some n => .vc (0 ≤ n ∧ n ≤ lim) (k n.toNat)
    | none => .fail
/-- What a slice reads as when it is cut. -/
def cutL {α : Type} (lo hi : Option SV) (l h : Nat) (xs : List α) : List α := match lo, hi with
  | none, none => xs
  | none, some _ => xs.take h
  | some _, none => xs.drop l
  | some _, some _ => (xs.drop l).take (h - l)
def cutN (lo : Option SV) (l h : Nat) : Nat := match lo with
  | none => h
  | some _ => h - l
theorem cutL_eq {α : Type} {lo hi : Option SV} {l h : Nat} {xs : List α} (h1 : lo = none → l = 0) (h2 : hi = none → h = xs.length) : cutL lo hi l h xs = (xs.drop l).take (h - l) := by
  unfold cutL
  split
  · rw [h1 rfl, h2 rfl]; simp
  · rw [h1 rfl]; simp
  · rw [h2 rfl, List.take_of_length_le (by simp)]
  · rfl
theorem cutN_eq {lo : Option SV} {l h : Nat} (h1 : lo = none → l = 0) : cutN lo l h = h - l := by
  unfold cutN
  split
  · rw [h1 rfl]; rfl
  · rfl
def sliceT (T : List TI) (ti : TI) (x : SV) (lo hi mx : Option SV) : Tr := match ti.k with
  | .slice e => match (ty T e).k, (ty T e).size with
    | .other, _ => .fail
    | _, 1 => match x with
      | .nils => boundT mx 0 0 fun m => boundT hi 0 (match mx with | some _ => m | none => 0) fun h => boundT lo 0 h fun _ => .val .nils
      | .sl 1 len (.b8s _ xs) => boundT mx len len fun m => boundT hi len (match mx with | some _ => m | none => len) fun h => boundT lo 0 h fun l =>
          .val (.sl 1 (cutN lo l h) (.b8s (cutN lo l h) (cutL lo hi l h xs)))
      | .sl 1 len (.rows _ xs) => boundT mx len len fun m => boundT hi len (match mx with | some _ => m | none => len) fun h => boundT lo 0 h fun l =>
          .val (.sl 1 (cutN lo l h) (.rows (cutN lo l h) (cutL lo hi l h xs)))
      | .os id 1 len => boundT mx len len fun m => boundT hi len (match mx with | some _ => m | none => len) fun h => boundT lo 0 h fun l =>
          .val (.osub id 1 l (cutN lo l h))
      | .osub id 1 off len => boundT mx len len fun m => boundT hi len (match mx with | some _ => m | none => len) fun h => boundT lo 0 h fun l =>
          .val (.osub id 1 (off + l) (cutN lo l h))
      | _ => .fail
    | _, _ => .fail
  | .arr n e => match (ty T e).k, (ty T e).size with
    | .other, _ => .fail
    | _, 1 => match x with
      | .ptr id 0 => .blk id fun g => match g with
        | .b8s n' _ :: _ => match decide (n' = n) with
          | true => boundT mx n n fun m => boundT hi n (match mx with | some _ => m | none => n) fun h => boundT lo 0 h fun l => .val (.osub id 1 l (cutN lo l h))
          | false => .fail
        | _ => .fail
      | .ip (.b8s n' xs :: _) 0 => match decide (n' = n) with
          | true => boundT mx n n fun m => boundT hi n (match mx with | some _ => m | none => n) fun h => boundT lo 0 h fun l => .val (.sl 1 (cutN lo l h) (.b8s (cutN lo l h) (cutL lo hi l h xs)))
          | false => .fail
      | _ => .fail
    | _, _ => .fail
  | _ => .fail
def arrayAtT (ti : TI) (x : SV) : Tr := match ti.k with
  | .arr n _ => match x with
    | .sl 1 len (.b8s _ xs) => .vc (n ≤ len ∧ 0 < n) (.val (.ip [.b8s n (xs.take n)] 0))
    | .os id 1 len => .vc (n ≤ len ∧ 0 < n) (.val (.ptr id 0))
    | .osub id 1 off len => .vc (n ≤ len ∧ 0 < n) (.val (.ptri id 0 off))
    | _ => .fail
  | _ => .fail

section
variable {P : Program} {X : Nat → Prop} {G : List (Nat × SV)} {s : St} {ρ : Rho} {lh : Lam} {w : World} {fr : Nat} {own : Nat → Prop}

theorem nilCheck_sound {x : SV} {v : Value} {h : Nat → Option (List Seg)} {e : Eff} {rd : List Nat} (hx : Den w own ρ lh x v) (hok : (nilCheckT x).Ok h e rd) :
    e = ⟨x, [], [], []⟩ ∧ ((∃ a, v = .pointer (some a)) ∨ ∃ f a b, v = .func (.func f) a b ∨ v = .func (.yield f) a b) := by
  unfold nilCheckT at hok
  split at hok
  · exact ⟨hok.1, .inl (isPtr_den hx rfl)⟩
  · exact ⟨hok.1, .inl (isPtr_den hx rfl)⟩
  · exact ⟨hok.1, .inl (isPtr_den hx rfl)⟩
  · exact ⟨hok.1, .inl (isPtr_den hx rfl)⟩
  · refine ⟨hok.1, .inr ?_⟩
    cases hx with
    | im h0 => cases h0; exact ⟨_, _, _, .inl rfl⟩
    | fn _ _ => exact ⟨_, _, _, .inl rfl⟩
  · refine ⟨hok.1, .inr ?_⟩
    cases hx with
    | im h0 => cases h0
    | yv _ => exact ⟨_, _, _, .inr rfl⟩
  · exact hok.elim

theorem DenL.get {vs : List SV} : ∀ {l : List Value} {i : Nat} {sv : SV}, DenL w own ρ lh vs l → vs[i]? = some sv → ∃ v, l[i]? = some v ∧ Den w own ρ lh sv v := by
  induction vs with
  | nil => intro l i sv _ h; cases h
  | cons x r ih =>
    intro l i sv h hi
    cases h with
    | cons hx hr =>
      cases i with
      | zero => cases hi; exact ⟨_, rfl, hx⟩
      | succ i =>
        obtain ⟨v', h1, h2⟩ := ih (i := i) hr (by simpa using hi)
        exact ⟨v', by simpa using h1, h2⟩
theorem extract_sound {x : SV} {v : Value} {i : Nat} {h : Nat → Option (List Seg)} {e : Eff} {rd : List Nat} (hx : Den w own ρ lh x v) (hok : (extractT x i).Ok h e rd) :
    ∃ sv v', e = ⟨sv, [], [], []⟩ ∧ (Instr.extract v i).run P w = .ok v' w ∧ Den w own ρ lh sv v' := by
  unfold extractT at hok
  split at hok
  · split at hok
    · rename_i vs sv hi
      obtain ⟨rfl, rfl⟩ := hok
      cases hx with
      | im h0 => cases h0
      | tup hl =>
        obtain ⟨v', h1, h2⟩ := hl.get hi
        exact ⟨_, v', rfl, by simp [Instr.extract, h1], h2⟩
    · exact hok.elim
  · exact hok.elim

theorem index_sound {T : List TI} (hT : TabOK P T) {t : Nat} {x i : SV} {v vi : Value} {h : Nat → Option (List Seg)} {e : Eff} {rd : List Nat} (hx : Den w own ρ lh x v) (hi : Den w own ρ lh i vi)
    (hok : (indexT T (ty T t) x i).Ok h e rd) : ∃ sv v', e = ⟨sv, [], [], []⟩ ∧ (Instr.index t v vi).run P w = .ok v' w ∧ Den w own ρ lh sv v' := by
  unfold indexT at hok
  split at hok
  · rename_i n len e0 hn hk
    obtain ⟨k, rfl⟩ := den_asInt hi hn
    obtain ⟨d, hd, hkd⟩ := (hT.get (t := t) (by rw [hk]; simp)).und
    rw [hk] at hkd
    have hd' : P.underlying t = some (.array len e0) := by rw [hd, hkd]
    have fin : ∀ {l : List Value} {v' : Value}, (ty T e0).k ≠ .other → (ty T e0).agg = false → l[n.toNat]? = some v' → 0 ≤ n ∧ n < len → (Instr.index t (.agg l.toArray) (.int k n)).run P w = .ok v' w := fun ho ha hl hb => by
      have he := hT.get (t := e0) ho
      have h1 := he.one ha
      simp only [Instr.index, asIntOf, Sem.run_bind, Sem.run_pure, Result.andThen_ok, Go.run_underlying hd', hb, and_self, if_true, he.run_sizeOf, h1, Nat.mul_one, part, he.run_isAgg, ha, Bool.false_eq_true, if_false]
      simp [hl]
    have seg : ∀ {g : Seg} {r : List Seg}, (∀ v, g ≠ .one v) → x = .agg (g :: r) → ∃ l1 l2, v = .agg (l1 ++ l2).toArray ∧ DenS0 w own [g] l1 := by
      rintro g r hg rfl
      obtain ⟨l, rfl, hl⟩ : ∃ l, v = .agg l.toArray ∧ DenS w own ρ lh (g :: r) l := by
        cases hx with
        | im h0 => cases h0 with
          | agg h => exact ⟨_, rfl, h.full⟩
        | agg h => exact ⟨_, rfl, h⟩
      obtain ⟨l1, l2, rfl, h1, _⟩ := hl.inv_seg hg
      exact ⟨l1, l2, rfl, h1⟩
    split at hok
    · rename_i m xs r hk8
      split at hok
      · rename_i hm
        obtain ⟨hb, rfl, rfl⟩ := hok
        have hm := of_decide_eq_true hm
        obtain ⟨l1, l2, rfl, h1⟩ := seg (by intro v; simp) rfl
        cases h1 with
        | b8s hl hr =>
          cases hr
          exact ⟨_, _, rfl, fin (by rw [hk8]; simp) (by unfold TI.agg; rw [hk8]) (by rw [List.append_nil]; exact map_get v8 xs 0 l2 (by omega)) hb, .im (.b8 _)⟩
      · exact hok.elim
    · rename_i m xs r hk8
      split at hok
      · rename_i hm
        obtain ⟨hb, rfl, rfl⟩ := hok
        have hm := of_decide_eq_true hm
        obtain ⟨l1, l2, rfl, h1⟩ := seg (by intro v; simp) rfl
        cases h1 with
        | b32s hl hr =>
          cases hr
          exact ⟨_, _, rfl, fin (by rw [hk8]; simp) (by unfold TI.agg; rw [hk8]) (by rw [List.append_nil]; exact map_get v32 xs 0 l2 (by omega)) hb, .im (.b32 _)⟩
      · exact hok.elim
    · rename_i m xs r hk8
      split at hok
      · rename_i hm
        obtain ⟨hb, rfl, rfl⟩ := hok
        have hm := of_decide_eq_true hm
        obtain ⟨l1, l2, rfl, h1⟩ := seg (by intro v; simp) rfl
        cases h1 with
        | ints hl hr =>
          cases hr
          exact ⟨_, _, rfl, fin (by rw [hk8]; simp) (by unfold TI.agg; rw [hk8]) (by rw [List.append_nil]; exact map_get vInt xs 0 l2 (by omega)) hb, .im (.int _)⟩
      · exact hok.elim
    · exact hok.elim
  · exact hok.elim

/-! ### Lengths -/
/-- The value is a slice of this length. -/
theorem den_slice {sv : SV} {v : Value} (h : Den w own ρ lh sv v) (n : Nat) (hn : sv = .nils ∧ n = 0 ∨ (∃ es g, sv = .sl es n g) ∨ (∃ id es, sv = .os id es n) ∨ ∃ id es off, sv = .osub id es off n) :
    ∃ a c, v = .slice a n c := by
  rcases hn with ⟨rfl, rfl⟩ | ⟨es, g, rfl⟩ | ⟨id, es, rfl⟩ | ⟨id, es, off, rfl⟩
  · cases h with | im h0 => cases h0; exact ⟨_, _, rfl⟩
  · cases h with | im h0 => cases h0; exact ⟨_, _, rfl⟩
  · cases h with
    | im h0 => cases h0
    | os _ _ _ => exact ⟨_, _, rfl⟩
    | osn _ => exact ⟨_, _, rfl⟩
  · cases h with
    | im h0 => cases h0
    | osub _ _ _ => exact ⟨_, _, rfl⟩
    | osubn _ => exact ⟨_, _, rfl⟩
    | osubz _ => exact ⟨_, _, rfl⟩
theorem len_sound {t e0 : Nat} {d : TypeDesc} (hd : P.underlying t = some d) {x : SV} {v : Value} (hd2 : d = .slice e0 ∨ d = .string ∧ ∃ u, v = .string u) {h : Nat → Option (List Seg)} {e : Eff} {rd : List Nat}
    (hx : Den w own ρ lh x v) (hok : (lenT x).Ok h e rd) (hns : d = .slice e0 → ∀ u, x ≠ .str u) {ts : Array TypeId} (ht : ts[0]? = some t) {ty0 : TypeId} :
    ∃ sv v', e = ⟨sv, [], [], []⟩ ∧ (Builtin.len_ ts ty0 #[v]).run P w = .ok v' w ∧ Den w own ρ lh sv v' := by
  have fin : ∀ n : Nat, (x = .nils ∧ n = 0 ∨ (∃ es g, x = .sl es n g) ∨ (∃ id es, x = .os id es n) ∨ ∃ id es off, x = .osub id es off n) → (Builtin.len_ ts ty0 #[v]).run P w = .ok (vInt n) w := fun n hn => by
    obtain ⟨a, c, rfl⟩ := den_slice hx n hn
    rcases hd2 with rfl | ⟨rfl, u, hu⟩
    · simp [Builtin.len_, ht, Go.run_underlying hd, vInt, goInt]
    · cases hu
  unfold lenT at hok
  split at hok
  · obtain ⟨rfl, rfl⟩ := hok; exact ⟨_, _, rfl, fin 0 (.inl ⟨rfl, rfl⟩), .im (.int _)⟩
  · obtain ⟨rfl, rfl⟩ := hok; exact ⟨_, _, rfl, fin _ (.inr (.inl ⟨_, _, rfl⟩)), .im (.int _)⟩
  · obtain ⟨rfl, rfl⟩ := hok; exact ⟨_, _, rfl, fin _ (.inr (.inr (.inl ⟨_, _, rfl⟩))), .im (.int _)⟩
  · obtain ⟨rfl, rfl⟩ := hok; exact ⟨_, _, rfl, fin _ (.inr (.inr (.inr ⟨_, _, _, rfl⟩))), .im (.int _)⟩
  · rename_i u
    obtain ⟨_, rfl, rfl⟩ := hok
    obtain rfl : v = .string (mkStr u) := by cases hx with | im h0 => cases h0; rfl
    rcases hd2 with rfl | ⟨rfl, _⟩
    · exact absurd rfl (hns rfl u)
    · refine ⟨_, _, rfl, ?_, .im (.int _)⟩
      have : (mkStr u).size = u.length := by simp [mkStr, ByteArray.size]
      simp [Builtin.len_, ht, Go.run_underlying hd, vInt, goInt, this]
  · exact hok.elim

/-! ### Slices -/
def OptDen (w : World) (own : Nat → Prop) (ρ : Rho) (lh : Lam) (x : Option SV) (v : Option Value) : Prop := match x, v with
  | none, none => True
  | some sv, some u => Den w own ρ lh sv u
  | _, _ => False
theorem bound_ok {x : Option SV} {v : Option Value} {dflt lim : Nat} {k : Nat → Tr} {h : Nat → Option (List Seg)} {e : Eff} {rd : List Nat} (hok : (boundT x dflt lim k).Ok h e rd)
    (hv : OptDen w own ρ lh x v) :
    (x = none ∧ v = none ∧ (k dflt).Ok h e rd) ∨ ∃ (n : Nat) (kk : IntKind) (sv : SV), x = some sv ∧ v = some (.int kk (n : Int)) ∧ n ≤ lim ∧ (k n).Ok h e rd := by
  cases x with
  | none =>
    cases v with
    | none => exact .inl ⟨rfl, rfl, hok⟩
    | some _ => exact hv.elim
  | some sv =>
    simp only [boundT] at hok
    cases hn : sv.asInt with
    | none => rw [hn] at hok; exact hok.elim
    | some n =>
      rw [hn] at hok
      obtain ⟨⟨h0, h1⟩, hok⟩ := hok
      cases v with
      | none => exact hv.elim
      | some u =>
        obtain ⟨kk, rfl⟩ := den_asInt hv hn
        refine .inr ⟨n.toNat, kk, sv, rfl, by rw [Int.toNat_of_nonneg h0], by omega, hok⟩

def bm (v : Option Value) (a b : Nat) : Nat := match v with
  | some _ => a
  | none => b
theorem run_sliceBounds {len cap : Nat} {lo hi mx : Option Value} {l h m : Nat} (b : Bool) (hcap : len ≤ cap)
    (hm : (mx = none ∧ m = cap) ∨ ∃ k, mx = some (.int k (m : Int)) ∧ m ≤ cap) (hh : (hi = none ∧ h = len ∧ mx = none) ∨ ∃ k, hi = some (.int k (h : Int)) ∧ h ≤ m) (hl : (lo = none ∧ l = 0) ∨ ∃ k, lo = some (.int k (l : Int)) ∧ l ≤ h) :
    (Instr.sliceBounds b len cap lo hi mx).run P w = .ok (l, h, m) w := by
  have sb : ∀ (k : IntKind) (n lim : Nat) (c : BoundsCode), n ≤ lim → (Instr.sliceBound (.int k (n : Int)) lim c).run P w = .ok n w := fun k n lim c hn => by
    simp [Instr.sliceBound, asIntOf, hn]
  rcases hm with ⟨rfl, rfl⟩ | ⟨km, rfl, hm⟩ <;> rcases hh with ⟨rfl, rfl, hx⟩ | ⟨kh, rfl, hh⟩ <;> rcases hl with ⟨rfl, rfl⟩ | ⟨kl, rfl, hl⟩ <;>
    (try cases hx) <;> simp [Instr.sliceBounds, *]

theorem bounds3 {lo hi mx : Option SV} {vlo vhi vmx : Option Value} {len : Nat} {K : Nat → Nat → Tr} {hh : Nat → Option (List Seg)} {e : Eff} {rd : List Nat}
    (hok : (boundT mx len len fun m => boundT hi len (match mx with | some _ => m | none => len) fun h => boundT lo 0 h fun l => K l h).Ok hh e rd)
    (h1 : OptDen w own ρ lh lo vlo) (h2 : OptDen w own ρ lh hi vhi) (h3 : OptDen w own ρ lh mx vmx) (h4 : mx.isSome = true → hi.isSome = true) :
    ∃ l h, l ≤ h ∧ h ≤ len ∧ (lo = none → l = 0) ∧ (hi = none → h = len) ∧ (K l h).Ok hh e rd ∧
      ∀ (b : Bool) (cap : Nat), len ≤ cap → ∃ m, h ≤ m ∧ m ≤ cap ∧ (Instr.sliceBounds b len cap vlo vhi vmx).run P w = .ok (l, h, m) w := by
  rcases bound_ok hok h3 with ⟨rfl, rfl, hok⟩ | ⟨m, km, svm, rfl, rfl, hm, hok⟩
  · rcases bound_ok hok h2 with ⟨rfl, rfl, hok⟩ | ⟨h, kh, svh, rfl, rfl, hh', hok⟩
    · rcases bound_ok hok h1 with ⟨rfl, rfl, hok⟩ | ⟨l, kl, svl, rfl, rfl, hl', hok⟩
      · exact ⟨0, len, Nat.zero_le _, Nat.le_refl _, fun _ => rfl, fun _ => rfl, hok, fun b cap hc => ⟨cap, hc, Nat.le_refl _, run_sliceBounds b hc (.inl ⟨rfl, rfl⟩) (.inl ⟨rfl, rfl, rfl⟩) (.inl ⟨rfl, rfl⟩)⟩⟩
      · exact ⟨l, len, hl', Nat.le_refl _, (by simp), fun _ => rfl, hok, fun b cap hc => ⟨cap, hc, Nat.le_refl _, run_sliceBounds b hc (.inl ⟨rfl, rfl⟩) (.inl ⟨rfl, rfl, rfl⟩) (.inr ⟨_, rfl, hl'⟩)⟩⟩
    · dsimp only at hh'
      rcases bound_ok hok h1 with ⟨rfl, rfl, hok⟩ | ⟨l, kl, svl, rfl, rfl, hl', hok⟩
      · exact ⟨0, h, Nat.zero_le _, hh', fun _ => rfl, (by simp), hok, fun b cap hc => ⟨cap, by omega, Nat.le_refl _, run_sliceBounds b hc (.inl ⟨rfl, rfl⟩) (.inr ⟨_, rfl, by omega⟩) (.inl ⟨rfl, rfl⟩)⟩⟩
      · exact ⟨l, h, hl', hh', (by simp), (by simp), hok, fun b cap hc => ⟨cap, by omega, Nat.le_refl _, run_sliceBounds b hc (.inl ⟨rfl, rfl⟩) (.inr ⟨_, rfl, by omega⟩) (.inr ⟨_, rfl, hl'⟩)⟩⟩
  · rcases bound_ok hok h2 with ⟨rfl, rfl, hok⟩ | ⟨h, kh, svh, rfl, rfl, hh', hok⟩
    · simp at h4
    · dsimp only at hh'
      rcases bound_ok hok h1 with ⟨rfl, rfl, hok⟩ | ⟨l, kl, svl, rfl, rfl, hl', hok⟩
      · exact ⟨0, h, Nat.zero_le _, by omega, fun _ => rfl, (by simp), hok, fun b cap hc => ⟨m, hh', by omega, run_sliceBounds b hc (.inr ⟨_, rfl, by omega⟩) (.inr ⟨_, rfl, hh'⟩) (.inl ⟨rfl, rfl⟩)⟩⟩
      · exact ⟨l, h, hl', by omega, (by simp), (by simp), hok, fun b cap hc => ⟨m, hh', by omega, run_sliceBounds b hc (.inr ⟨_, rfl, by omega⟩) (.inr ⟨_, rfl, hh'⟩) (.inr ⟨_, rfl, hl'⟩)⟩⟩

theorem cut_lies {cs : Array Value} {off : Nat} {vs : List Value} (h : liesAt cs off vs) (l n : Nat) (hn : l + n ≤ vs.length) : liesAt cs (off + l) ((vs.drop l).take n) := by
  have e : vs = vs.take l ++ (vs.drop l).take n ++ (vs.drop l).drop n := by rw [List.append_assoc, List.take_append_drop, List.take_append_drop]
  rw [e] at h
  have := liesAt_mid h
  rwa [show (vs.take l).length = l by simp; omega] at this

theorem slice_imm {es len cap l h m : Nat} {vs : List Value} {a : Option Addr} {g' : Seg} (hes : es = 1) (hlen : vs.length = len) (hl : l ≤ h) (hh : h ≤ len) (hm : h ≤ m) (_hmc : m ≤ cap)
    (hp : vs = [] ∨ ∃ b off cs elem fr, a = some ⟨b, off, none⟩ ∧ w.heap[b]? = some (.cells cs elem fr) ∧ ¬ own b ∧ liesAt cs off vs) (hd : DenS0 w own [g'] ((vs.drop l).take (h - l))) :
    Den0 w own (.sl 1 (h - l) g') (.slice (if m = l then a else a.map (·.add (l * es))) (h - l) (m - l)) := by
  subst hes
  refine .sl hd (by simp; omega) (by omega) ?_
  by_cases hml : m = l
  · left
    rw [show h - l = 0 by omega]; simp
  · rcases hp with rfl | ⟨b, off, cs, elem, f, rfl, h1, h2, h3⟩
    · left; simp
    · right
      refine ⟨b, off + l, cs, elem, f, by simp [hml, add_zero_spot], h1, h2, cut_lies h3 l (h - l) (by omega)⟩

theorem DenR.drop {xss : List (List (BitVec 8))} : ∀ {l : List Value} (n : Nat), DenR w own xss l → DenR w own (xss.drop n) (l.drop n)
  | _, 0, h => by simpa using h
  | _, n + 1, .nil => by simp; exact .nil
  | _, n + 1, .cons _ hr => by simpa using DenR.drop n hr
theorem DenR.take {xss : List (List (BitVec 8))} : ∀ {l : List Value} (n : Nat), DenR w own xss l → DenR w own (xss.take n) (l.take n)
  | _, 0, _ => by simp; exact .nil
  | _, n + 1, .nil => by simp; exact .nil
  | _, n + 1, .cons h hr => by simpa using .cons h (DenR.take n hr)

theorem slice_sound {T : List TI} (hT : TabOK P T) {t : Nat} (hs : SatH X G s ρ lh w) {x : SV} {v : Value} {lo hi mx : Option SV} {vlo vhi vmx : Option Value} {e : Eff} {rd : List Nat} (hx : Den w (Own X s ρ lh) ρ lh x v)
    (h1 : OptDen w (Own X s ρ lh) ρ lh lo vlo) (h2 : OptDen w (Own X s ρ lh) ρ lh hi vhi) (h3 : OptDen w (Own X s ρ lh) ρ lh mx vmx) (h4 : mx.isSome = true → hi.isSome = true)
    (hok : (sliceT T (ty T t) x lo hi mx).Ok s.blk e rd) : ∃ sv v', e = ⟨sv, [], [], []⟩ ∧ (Instr.sliceAt t v vlo vhi vmx).run P w = .ok v' w ∧ Den w (Own X s ρ lh) ρ lh sv v' := by
  unfold sliceT at hok
  split at hok
  · rename_i e0 hk
    obtain ⟨d, hd, hkd⟩ := (hT.get (t := t) (by rw [hk]; simp)).und
    rw [hk] at hkd
    have hd' : P.underlying t = some (.slice e0) := by rw [hd, hkd]
    split at hok
    · exact hok.elim
    · rename_i hsz hno
      have he := hT.get (t := e0) hno
      have run : ∀ {a : Option Addr} {len cap l h m : Nat}, (Instr.sliceBounds true len cap vlo vhi vmx).run P w = .ok (l, h, m) w →
          (Instr.sliceAt t (.slice a len cap) vlo vhi vmx).run P w = .ok (.slice (if m = l then a else a.map (·.add (l * 1))) (h - l) (m - l)) w := fun hb => by
        simp only [Instr.sliceAt, Instr.slice, Sem.run_bind, Go.run_underlying hd', Result.andThen_ok, hb, he.run_sizeOf, hsz, Sem.run_pure]
      split at hok
      · obtain ⟨l, h, b1, b2, b3, b4, hok, hb⟩ := bounds3 (P := P) (K := fun _ _ => .val .nils) hok h1 h2 h3 h4
        obtain ⟨rfl, rfl⟩ := hok
        obtain rfl : v = .slice none 0 0 := by cases hx with | im h0 => cases h0; rfl
        obtain ⟨m, m1, m2, hrun⟩ := hb true 0 (Nat.le_refl _)
        refine ⟨_, _, rfl, run hrun, ?_⟩
        rw [show h - l = 0 by omega, show m - l = 0 by omega]
        simp
        exact .im .nils
      · rename_i len n0 xs
        cases hx with
        | im h0 =>
          cases h0 with
          | sl hl hln hc hp =>
            cases hl with
            | b8s hn hr =>
              cases hr
              simp only [List.append_nil, List.length_map, Nat.mul_one] at hln hp
              obtain ⟨l, h, b1, b2, b3, b4, hok, hb⟩ := bounds3 (P := P) hok h1 h2 h3 h4
              obtain ⟨rfl, rfl⟩ := hok
              obtain ⟨m, m1, m2, hrun⟩ := hb true _ hc
              refine ⟨_, _, rfl, run hrun, .im ?_⟩
              rw [cutN_eq b3, cutL_eq b3 (fun hhi => by rw [b4 hhi, hln])]
              refine slice_imm rfl (by simpa using hln) b1 b2 m1 m2 hp ?_
              have := DenS0.b8s (w := w) (own := Own X s ρ lh) (n := h - l) (xs := (xs.drop l).take (h - l)) (by simp; omega) .nil
              rw [List.append_nil, List.map_take, List.map_drop] at this
              exact this
      · rename_i len n0 xs
        cases hx with
        | im h0 =>
          cases h0 with
          | sl hl hln hc hp =>
            cases hl with
            | rows hn hv hr =>
              cases hr
              have hvl := hv.length
              simp only [List.append_nil, Nat.mul_one] at hln hp
              obtain ⟨l, h, b1, b2, b3, b4, hok, hb⟩ := bounds3 (P := P) hok h1 h2 h3 h4
              obtain ⟨rfl, rfl⟩ := hok
              obtain ⟨m, m1, m2, hrun⟩ := hb true _ hc
              refine ⟨_, _, rfl, run hrun, .im ?_⟩
              rw [cutN_eq b3, cutL_eq b3 (fun hhi => by rw [b4 hhi]; omega)]
              refine slice_imm rfl hln b1 b2 m1 m2 hp ?_
              have := DenS0.rows (w := w) (own := Own X s ρ lh) (n := h - l) (xss := (xs.drop l).take (h - l)) (by simp; omega) ((hv.drop l).take (h - l)) .nil
              rw [List.append_nil] at this
              exact this
      · rename_i id len
        obtain ⟨l, h, b1, b2, b3, b4, hok, hb⟩ := bounds3 (P := P) hok h1 h2 h3 h4
        obtain ⟨rfl, rfl⟩ := hok
        cases hx with
        | im h0 => cases h0
        | os hr hc hz =>
          obtain ⟨m, m1, m2, hrun⟩ := hb true _ hc
          refine ⟨_, _, rfl, run hrun, ?_⟩
          rw [cutN_eq b3]
          by_cases hml : m = l
          · rw [if_pos hml, show h - l = 0 by omega, show m - l = 0 by omega]; exact .osubz hr
          · rw [if_neg hml]
            have := Den.osub (w := w) (own := Own X s ρ lh) (lh := lh) (es := 1) (off := l) (len := h - l) (cap := m - l) hr (by omega) (by omega)
            simpa [add_zero_spot] using this
        | osn hr =>
          obtain ⟨m, m1, m2, hrun⟩ := hb true 0 (Nat.le_refl _)
          refine ⟨_, _, rfl, run hrun, ?_⟩
          rw [cutN_eq b3, show h - l = 0 by omega, show m - l = 0 by omega]
          simp
          exact .osubn hr
      · rename_i id off len
        obtain ⟨l, h, b1, b2, b3, b4, hok, hb⟩ := bounds3 (P := P) hok h1 h2 h3 h4
        obtain ⟨rfl, rfl⟩ := hok
        cases hx with
        | im h0 => cases h0
        | osub hr hc hz =>
          obtain ⟨m, m1, m2, hrun⟩ := hb true _ hc
          refine ⟨_, _, rfl, run hrun, ?_⟩
          rw [cutN_eq b3]
          by_cases hml : m = l
          · rw [if_pos hml, show h - l = 0 by omega, show m - l = 0 by omega]; exact .osubz hr
          · rw [if_neg hml]
            have := Den.osub (w := w) (own := Own X s ρ lh) (lh := lh) (es := 1) (off := off + l) (len := h - l) (cap := m - l) hr (by omega) (by omega)
            simpa [add_zero_spot] using this
        | osubn hr =>
          obtain ⟨m, m1, m2, hrun⟩ := hb true 0 (Nat.le_refl _)
          refine ⟨_, _, rfl, run hrun, ?_⟩
          rw [cutN_eq b3, show h - l = 0 by omega, show m - l = 0 by omega]
          simp
          exact .osubn hr
        | osubz hr =>
          obtain ⟨m, m1, m2, hrun⟩ := hb true 0 (Nat.le_refl _)
          refine ⟨_, _, rfl, run hrun, ?_⟩
          rw [cutN_eq b3, if_pos (by omega), show h - l = 0 by omega, show m - l = 0 by omega]
          exact .osubz hr
      · exact hok.elim
    · exact hok.elim
  · rename_i n e0 hk
    obtain ⟨d, hd, hkd⟩ := (hT.get (t := t) (by rw [hk]; simp)).und
    rw [hk] at hkd
    have hd' : P.underlying t = some (.array n e0) := by rw [hd, hkd]
    split at hok
    · exact hok.elim
    · rename_i hsz hno
      have he := hT.get (t := e0) hno
      have run : ∀ {b o l h m : Nat}, (Instr.sliceBounds false n n vlo vhi vmx).run P w = .ok (l, h, m) w →
          (Instr.sliceAt t (.pointer (some ⟨b, o, none⟩)) vlo vhi vmx).run P w = .ok (.slice (some (if m = l then ⟨b, o, none⟩ else (⟨b, o, none⟩ : Addr).add (l * 1))) (h - l) (m - l)) w := fun hb => by
        simp only [Instr.sliceAt, Sem.run_bind, Go.run_underlying hd', Result.andThen_ok, Instr.sureAddr, hb, he.run_sizeOf, hsz, Sem.run_pure]
      split at hok
      · rename_i id
        obtain ⟨g, rd', hg, _, hok⟩ := hok
        dsimp only at hok
        split at hok
        · rename_i n' xs r
          split at hok
          · rename_i hnn
            have hnn := of_decide_eq_true hnn
            obtain ⟨l, h, b1, b2, b3, b4, hok, hb⟩ := bounds3 (P := P) hok h1 h2 h3 h4
            obtain ⟨rfl, rfl⟩ := hok
            obtain ⟨m, m1, m2, hrun⟩ := hb false _ (Nat.le_refl _)
            cases hx with
            | im h0 => cases h0
            | ptr hr =>
              refine ⟨_, _, rfl, run hrun, ?_⟩
              rw [cutN_eq b3]
              obtain ⟨b', sz', er, lv, hdl, hlen, _⟩ := hs.blk id _ hg
              rw [hr] at er; cases er
              obtain ⟨l1, l2, rfl, hd1, _⟩ := hdl.inv_seg (by intro v; simp)
              have hsz1 := hd1.size (k := n') rfl
              simp only [List.length_append] at hlen
              by_cases hml : m = l
              · rw [if_pos hml, show h - l = 0 by omega, show m - l = 0 by omega]; exact .osubz hr
              · rw [if_neg hml]
                have := Den.osub (w := w) (own := Own X s ρ lh) (lh := lh) (es := 1) (off := l) (len := h - l) (cap := m - l) hr (by omega) (by omega)
                simpa [add_zero_spot] using this
          · exact hok.elim
        · exact hok.elim
      · rename_i n' xs r
        split at hok
        · rename_i hnn
          have hnn := of_decide_eq_true hnn
          obtain ⟨l, h, b1, b2, b3, b4, hok, hb⟩ := bounds3 (P := P) hok h1 h2 h3 h4
          obtain ⟨rfl, rfl⟩ := hok
          obtain ⟨m, m1, m2, hrun⟩ := hb false _ (Nat.le_refl _)
          cases hx with
          | im h0 =>
            cases h0 with
            | ip hb1 ho1 hl1 hp1 =>
              refine ⟨_, _, rfl, run hrun, .im ?_⟩
              obtain ⟨l1, l2, rfl, hd1, _⟩ := hl1.cons_inv
              cases hd1 with
              | b8s hn hr =>
                cases hr
                simp only [List.append_nil] at hp1
                rw [cutN_eq b3, cutL_eq b3 (fun hhi => by rw [b4 hhi, hn, hnn])]
                have hd2 := DenS0.b8s (w := w) (own := Own X s ρ lh) (n := h - l) (xs := (xs.drop l).take (h - l)) (by simp; omega) .nil
                rw [List.append_nil, List.map_take, List.map_drop] at hd2
                have hlie := liesAt_mid (l1 := []) (by rw [List.nil_append]; exact hp1)
                rw [List.length_nil] at hlie
                have := slice_imm (es := 1) (len := n) (cap := m) (l := l) (h := h) (m := m) (vs := xs.map v8) (g' := .b8s (h - l) ((xs.drop l).take (h - l))) rfl (by simp; omega) b1 b2 m1 (Nat.le_refl _) (.inr ⟨_, _, _, _, _, rfl, hb1, ho1, hlie⟩) hd2
                by_cases hml : m = l
                · rw [if_pos hml] at this ⊢; exact this
                · rw [if_neg hml] at this ⊢; exact this
        · exact hok.elim
      · exact hok.elim
    · exact hok.elim
  · exact hok.elim

theorem arrayAt_sound {T : List TI} (hT : TabOK P T) {t : Nat} {x : SV} {v : Value} {h : Nat → Option (List Seg)} {e : Eff} {rd : List Nat} (hx : Den w own ρ lh x v) (hok : (arrayAtT (ty T t) x).Ok h e rd) :
    ∃ sv v', e = ⟨sv, [], [], []⟩ ∧ (Instr.arrayAt t v).run P w = .ok v' w ∧ Den w own ρ lh sv v' := by
  unfold arrayAtT at hok
  split at hok
  · rename_i n e0 hk
    obtain ⟨d, hd, hkd⟩ := (hT.get (t := t) (by rw [hk]; simp)).und
    rw [hk] at hkd
    have hd' : P.underlying t = some (.array n e0) := by rw [hd, hkd]
    have run : ∀ {a : Option Addr} {len cap : Nat}, n ≤ len → (Instr.arrayAt t (.slice a len cap)).run P w = .ok (.pointer a) w := fun hl => by
      simp [Instr.arrayAt, Go.run_underlying hd', Nat.not_lt.2 hl]
    split at hok
    · rename_i len m xs
      obtain ⟨⟨hl, h0⟩, rfl, rfl⟩ := hok
      cases hx with
      | im h0 =>
        cases h0 with
        | sl hd1 hln hc hp =>
          rcases hp with rfl | ⟨b, off, cs, elem, f, rfl, k1, k2, k3⟩
          · simp at hln; omega
          · refine ⟨_, _, rfl, run hl, .im ?_⟩
            cases hd1 with
            | b8s hm hr =>
              cases hr
              simp only [List.append_nil, List.length_map, Nat.mul_one] at hln k3
              have e : xs.map v8 = [] ++ (xs.take n).map v8 ++ (xs.drop n).map v8 := by
                rw [List.nil_append, ← List.map_append, List.take_append_drop]
              rw [e] at k3
              have d : DenS0 w own [.b8s n (xs.take n)] ((xs.take n).map v8) := by
                have := DenS0.b8s (w := w) (own := own) (n := n) (xs := xs.take n) (by rw [List.length_take]; omega) .nil
                rwa [List.append_nil] at this
              exact .ip (base := 0) k1 k2 d (liesAt_mid k3)
    · obtain ⟨⟨hl, h0⟩, rfl, rfl⟩ := hok
      cases hx with
      | im h0 => cases h0
      | os hr hc hz => exact ⟨_, _, rfl, run hl, .ptr hr⟩
      | osn hr => omega
    · rename_i id off len
      obtain ⟨⟨hl, h0⟩, rfl, rfl⟩ := hok
      cases hx with
      | im h0 => cases h0
      | osub hr hc hz =>
        refine ⟨_, _, rfl, run hl, ?_⟩
        have := Den.ptri (w := w) (own := own) (lh := lh) (base := 0) (idx := off) hr
        rwa [Nat.zero_add] at this
      | osubn hr => omega
      | osubz hr => omega
    · exact hok.elim
  · exact hok.elim
end
end Go.SE
/- New blocks: variables, built values, made slices. -/
namespace Go.SE
open Go

def allocT (fr : Nat) (ti : TI) : Tr := match ti.k with
  | .other => .fail
  | _ => .done ⟨.ptr fr 0, [], [], [ti.zero]⟩
def boxT (fr : Nat) (v : SV) : Tr := match v with
  | .agg m => .done ⟨.ptr fr 0, [], [], [m]⟩
  | v => match v.cell1 with
    | true => .done ⟨.ptr fr 0, [], [], [[.one v]]⟩
    | false => .fail

/-- The parts of a value that is stored as a whole. -/
def partCells (ti : TI) (v : SV) : Option (List Seg) := match ti.k with
  | .other => none
  | _ => match ti.agg with
    | true => match v with
      | .agg m => match sizeIs m ti.size with
        | true => some m
        | false => none
      | _ => none
    | false => match v.cell1 with
      | true => some [.one v]
      | false => none
def buildStruct (T : List TI) (size : Nat) : List (Nat × Nat) → Nat → Nat → List (Nat × SV) → Option (List Seg)
  | [], _, o, [] => match decide (o = size) with
    | true => some []
    | false => none
  | (off, ft) :: fs, i, o, (j, v) :: vs => match decide (off = o ∧ j = i) with
    | true => match partCells (ty T ft) v with
      | some m => match buildStruct T size fs (i + 1) (o + (ty T ft).size) vs with
        | some r => some (m ++ r)
        | none => none
      | none => none
    | false => none
  | _, _, _, _ => none
def pack8 : List (Nat × SV) → Nat → Option (List (BitVec 8))
  | [], _ => some []
  | (j, .b8 x) :: r, i => match decide (j = i) with
    | true => match pack8 r (i + 1) with
      | some xs => some (x :: xs)
      | none => none
    | false => none
  | _, _ => none
def pack32 : List (Nat × SV) → Nat → Option (List (BitVec 32))
  | [], _ => some []
  | (j, .b32 x) :: r, i => match decide (j = i) with
    | true => match pack32 r (i + 1) with
      | some xs => some (x :: xs)
      | none => none
    | false => none
  | _, _ => none
def packI : List (Nat × SV) → Nat → Option (List Int)
  | [], _ => some []
  | (j, .int x) :: r, i => match decide (j = i) with
    | true => match packI r (i + 1) with
      | some xs => some (x :: xs)
      | none => none
    | false => none
  | _, _ => none
def packOnes (e : TI) : List (Nat × SV) → Nat → Option (List Seg)
  | [], _ => some []
  | (j, v) :: r, i => match decide (j = i) with
    | true => match partCells e v with
      | some m => match packOnes e r (i + 1) with
        | some q => some (m ++ q)
        | none => none
      | none => none
    | false => none
/-- The parts of a row whose elements are all given. -/
def buildRow (e : TI) (n : Nat) (vs : List (Nat × SV)) : Option (List Seg) := match decide (vs.length = n) with
  | true => match e.k with
    | .other => none
    | .u8 => match pack8 vs 0 with
      | some xs => some [.b8s n xs]
      | none => none
    | .u32 => match pack32 vs 0 with
      | some xs => some [.b32s n xs]
      | none => none
    | .i64 => match packI vs 0 with
      | some xs => some [.ints n xs]
      | none => none
    | _ => packOnes e vs 0
  | false => none
def TK.known : TK → Bool
  | .other => false
  | _ => true
theorem TK.known_ne {k : TK} (h : k.known = true) : k ≠ .other := by rintro rfl; cases h
def knownAll (T : List TI) : List (Nat × Nat) → Bool
  | [] => true
  | f :: r => (ty T f.2).k.known && knownAll T r
def buildT (T : List TI) (ti : TI) (vs : List (Nat × SV)) : Tr := match ti.k, vs with
  | .other, _ => .fail
  | .struct fs, [] => match knownAll T fs with
    | true => .val (.agg ti.zero)
    | false => .fail
  | .arr _ e, [] => match (ty T e).k.known with
    | true => .val (.agg ti.zero)
    | false => .fail
  | .struct fs, vs => match buildStruct T ti.size fs 0 0 vs with
    | some m => .val (.agg m)
    | none => .fail
  | .arr n e, vs => match decide (n * (ty T e).size = ti.size) with
    | true => match buildRow (ty T e) n vs with
      | some m => .val (.agg m)
      | none => .fail
    | false => .fail
  | _, _ => .fail
def buildSliceT (fr : Nat) (T : List TI) (ti : TI) (n : Nat) (vs : List (Nat × SV)) : Tr := match ti.k with
  | .slice e => match decide (n * (ty T e).size ≤ 16777216) with
    | true => match buildRow (ty T e) n vs with
      | some m => .done ⟨.os fr (ty T e).size n, [], [], [m]⟩
      | none => .fail
    | false => .fail
  | _ => .fail
def makeSliceT (fr : Nat) (T : List TI) (ti : TI) (l c : SV) : Tr := match ti.k, l, c with
  | .slice e, .int n, .int m => match (ty T e).k, (ty T e).bytes, (ty T e).zero with
    | .u8, 1, [.one (.b8 z)] => .vc (0 ≤ n ∧ n = m ∧ n ≤ 1099511627776) (.done ⟨.os fr 1 n.toNat, [], [], [[.b8s n.toNat (List.replicate n.toNat z)]]⟩)
    | _, _, _ => .fail
  | _, _, _ => .fail

section
variable {P : Program} {X : Nat → Prop} {G : List (Nat × SV)} {s : St} {ρ : Rho} {lh : Lam} {w : World} {fr : Nat} {own : Nat → Prop}

theorem alloc_sound {T : List TI} (hT : TabOK P T) {t : Nat} (hs : SatH X G s ρ lh w) (hf : Free s ρ fr) {e : Eff} {rd : List Nat} (hok : (allocT fr (ty T t)).Ok s.blk e rd) :
    ∃ v w', (Instr.alloc t true (.tuple #[])).run P w = .ok v w' ∧ Does X G s ρ lh w e fr v w' := by
  have main : (ty T t).k ≠ .other → ∃ v w', (Instr.alloc t true (.tuple #[])).run P w = .ok v w' ∧ Does X G s ρ lh w ⟨.ptr fr 0, [], [], [(ty T t).zero]⟩ fr v w' := fun hk => by
    have ht := hT.get hk
    obtain ⟨z, hz, hc⟩ := ht.run_zero (w := w)
    refine ⟨.pointer (some ⟨w.heap.size, 0, none⟩), w.alloc (.cells z.cells t), by simp [Instr.alloc, newVar, newRow, hz], does_new hs hf rfl ⟨rfl, rfl⟩ ?_ fun w' ρ' own hr => .ptr hr⟩
    rw [hc]
    exact (zok_den _ ht.zero).full
  unfold allocT at hok
  split at hok
  · exact hok.elim
  · rename_i hk
    obtain ⟨rfl, rfl⟩ := hok
    exact main (by intro h; exact hk h)

theorem box_sound {t : Nat} (hs : SatH X G s ρ lh w) (hf : Free s ρ fr) {sv : SV} {x : Value} (hx : Den w (Own X s ρ lh) ρ lh sv x) {e : Eff} {rd : List Nat} (hok : (boxT fr sv).Ok s.blk e rd) :
    ∃ v w', (Instr.box t x).run P w = .ok v w' ∧ Does X G s ρ lh w e fr v w' := by
  have run : (Instr.box t x).run P w = .ok (.pointer (some ⟨w.heap.size, 0, none⟩)) (w.alloc (.cells x.cells t)) := by simp [Instr.box, newVar, newRow]
  have one : sv.cell1 = true → ∃ v w', (Instr.box t x).run P w = .ok v w' ∧ Does X G s ρ lh w ⟨.ptr fr 0, [], [], [[.one sv]]⟩ fr v w' := fun h1 => by
    obtain ⟨h2, h3⟩ := hx.cell1 h1
    refine ⟨_, _, run, does_new hs hf rfl ⟨rfl, rfl⟩ ?_ fun w' ρ' own hr => .ptr hr⟩
    rw [h3]
    exact .one hx h2 .nil
  unfold boxT at hok
  split at hok
  · rename_i m
    obtain ⟨rfl, rfl⟩ := hok
    obtain ⟨lm, rfl, hlm⟩ : ∃ lm, x = .agg lm.toArray ∧ DenS w (Own X s ρ lh) ρ lh m lm := by
      cases hx with
      | im h0 => cases h0 with
        | agg h => exact ⟨_, rfl, h.full⟩
      | agg h => exact ⟨_, rfl, h⟩
    exact ⟨_, _, run, does_new hs hf rfl ⟨rfl, rfl⟩ (by show DenS w (Own X s ρ lh) ρ lh m _; simpa [Value.cells] using hlm) fun w' ρ' own hr => .ptr hr⟩
  · split at hok
    · rename_i h1
      obtain ⟨rfl, rfl⟩ := hok
      exact one h1
    · exact hok.elim

/-! ### What 'fill' makes -/
theorem foldl_set (off : Nat) (vs : List Value) : ∀ (j : Nat) (cells : Array Value), off + j + vs.length ≤ cells.size →
    (vs.zipIdx j).foldl (fun cs (p : Value × Nat) => cs.setIfInBounds (off + p.2) p.1) cells = (cells.toList.take (off + j) ++ vs ++ cells.toList.drop (off + j + vs.length)).toArray := by
  induction vs with
  | nil => intro j cells _; simp
  | cons v r ih =>
    intro j cells h
    have hlt : off + j < cells.size := by simp at h; omega
    simp only [List.zipIdx_cons, List.foldl_cons]
    rw [ih (j + 1) _ (by simp at h ⊢; omega)]
    congr 1
    simp only [Array.toList_setIfInBounds, List.length_cons]
    rw [show off + (j + 1) = off + j + 1 by omega, show off + j + 1 + r.length = off + j + (r.length + 1) by omega]
    rw [List.take_set, List.take_succ_eq_append_getElem (by simpa using hlt), List.drop_set_of_lt (by omega)]
    simp [Nat.min_eq_left (Nat.le_of_lt hlt)]

/-- The parts lie one behind the other. -/
def Fits (place : Nat → Option (Nat × Nat)) : List (Nat × Value) → Nat → Prop
  | [], _ => True
  | (i, v) :: r, o => place i = some (o, v.cells.size) ∧ Fits place r (o + v.cells.size)
def cellsOf (l : List (Nat × Value)) : List Value := l.flatMap fun p => p.2.cells.toList

theorem fill_fits {place : Nat → Option (Nat × Nat)} : ∀ (parts : List (Nat × Value)) (o : Nat) (cells : Array Value), Fits place parts o → o + (cellsOf parts).length ≤ cells.size →
    Instr.fill place cells parts = some (cells.toList.take o ++ cellsOf parts ++ cells.toList.drop (o + (cellsOf parts).length)).toArray := by
  intro parts
  induction parts with
  | nil => intro o cells _ _; simp [Instr.fill, cellsOf]
  | cons p r ih =>
    intro o cells hf hl
    obtain ⟨i, v⟩ := p
    obtain ⟨hp, hf⟩ := hf
    have hlen : (cellsOf ((i, v) :: r)).length = v.cells.size + (cellsOf r).length := by simp [cellsOf]
    rw [hlen] at hl
    have h1 : ¬ (o + v.cells.size > cells.size) := by omega
    simp only [Instr.fill, hp]
    rw [if_neg (by simp; omega)]
    have hfold : v.cells.zipIdx.foldl (fun cs (c, j) => cs.setIfInBounds (o + j) c) cells = (cells.toList.take o ++ v.cells.toList ++ cells.toList.drop (o + v.cells.size)).toArray := by
      rw [← Array.foldl_toList, Array.toList_zipIdx]
      have := foldl_set o v.cells.toList 0 cells (by simp; omega)
      simpa using this
    rw [hfold, ih (o + v.cells.size) _ hf (by simp; omega), hlen]
    congr 1
    have hmin : min o cells.size = o := by omega
    have e1 : (List.take o cells.toList ++ v.cells.toList ++ List.drop (o + v.cells.size) cells.toList).take (o + v.cells.size) = List.take o cells.toList ++ v.cells.toList := by
      rw [List.take_append_of_le_length (by simp; omega), List.take_of_length_le (by simp; omega)]
    have e2 : (List.take o cells.toList ++ v.cells.toList ++ List.drop (o + v.cells.size) cells.toList).drop (o + v.cells.size + (cellsOf r).length) = cells.toList.drop (o + (v.cells.size + (cellsOf r).length)) := by
      rw [List.drop_append, List.drop_eq_nil_of_le (by simp; omega), List.nil_append, List.drop_drop]
      congr 1
      simp; omega
    simp only at e1 e2 ⊢
    rw [e1, e2]
    simp [cellsOf, List.append_assoc]
theorem fill_all {place : Nat → Option (Nat × Nat)} {parts : List (Nat × Value)} {cells : Array Value} (hf : Fits place parts 0) (hl : (cellsOf parts).length = cells.size) :
    Instr.fill place cells parts = some (cellsOf parts).toArray := by
  rw [fill_fits parts 0 cells hf (by omega)]
  congr 1
  rw [hl]; simp

/-- The values of given parts. -/
inductive DenP (w : World) (own : Nat → Prop) (ρ : Rho) (lh : Lam) : List (Nat × SV) → List (Nat × Value) → Prop
  | nil : DenP w own ρ lh [] []
  | cons {i : Nat} {sv : SV} {v : Value} {r : List (Nat × SV)} {l : List (Nat × Value)} (h : Den w own ρ lh sv v) (hr : DenP w own ρ lh r l) : DenP w own ρ lh ((i, sv) :: r) ((i, v) :: l)
theorem DenP.length {r : List (Nat × SV)} {l : List (Nat × Value)} (h : DenP w own ρ lh r l) : l.length = r.length := by
  induction h with
  | nil => rfl
  | cons _ _ ih => simp [ih]

theorem partCells_den {ti : TI} {sv : SV} {v : Value} {m : List Seg} (hx : Den w own ρ lh sv v) (hone : ti.agg = false → ti.size = 1) (h : partCells ti sv = some m) :
    v.cells.size = ti.size ∧ DenS w own ρ lh m v.cells.toList := by
  unfold partCells at h
  split at h
  · cases h
  · split at h
    · split at h
      · rename_i m'
        split at h
        · rename_i hm
          cases h
          obtain ⟨lm, rfl, hlm⟩ : ∃ lm, v = .agg lm.toArray ∧ DenS w own ρ lh m lm := by
            cases hx with
            | im h0 => cases h0 with
              | agg h => exact ⟨_, rfl, h.full⟩
            | agg h => exact ⟨_, rfl, h⟩
          exact ⟨by simpa [Value.cells] using sizeIs_den hlm hm, by simpa [Value.cells] using hlm⟩
        · cases h
      · cases h
    · rename_i hagg
      split at h
      · rename_i h1
        cases h
        obtain ⟨h2, h3⟩ := hx.cell1 h1
        rw [h3]
        exact ⟨by simp [hone (by simpa using hagg)], .one hx h2 .nil⟩
      · cases h

theorem cellsOf_cons (i : Nat) (v : Value) (r : List (Nat × Value)) : cellsOf ((i, v) :: r) = v.cells.toList ++ cellsOf r := rfl

theorem pack8_den {vs : List (Nat × SV)} : ∀ {l : List (Nat × Value)} {i : Nat} {xs : List (BitVec 8)}, DenP w own ρ lh vs l → pack8 vs i = some xs →
    cellsOf l = xs.map v8 ∧ xs.length = vs.length ∧ Fits (fun i => some (i * 1, 1)) l i := by
  induction vs with
  | nil => intro l i xs h e; cases h; simp only [pack8, Option.some.injEq] at e; subst e; exact ⟨rfl, rfl, trivial⟩
  | cons p r ih =>
    intro l i xs h e
    cases h with
    | @cons j sv v _ l' hv hr =>
      cases sv <;> simp only [pack8] at e <;> try (cases e)
      rename_i x
      split at e
      · rename_i hj
        have hj := of_decide_eq_true hj
        subst hj
        split at e
        · rename_i ys hy
          cases e
          obtain ⟨h1, h2, h3⟩ := ih hr hy
          obtain rfl : v = v8 x := by cases hv with | im h0 => cases h0; rfl
          exact ⟨by rw [cellsOf_cons, h1]; rfl, by simp [h2], by show some (j * 1, 1) = some (j, 1); simp, by simpa [Value.cells, v8] using h3⟩
        · cases e
      · cases e
theorem pack32_den {vs : List (Nat × SV)} : ∀ {l : List (Nat × Value)} {i : Nat} {xs : List (BitVec 32)}, DenP w own ρ lh vs l → pack32 vs i = some xs →
    cellsOf l = xs.map v32 ∧ xs.length = vs.length ∧ Fits (fun i => some (i * 1, 1)) l i := by
  induction vs with
  | nil => intro l i xs h e; cases h; simp only [pack32, Option.some.injEq] at e; subst e; exact ⟨rfl, rfl, trivial⟩
  | cons p r ih =>
    intro l i xs h e
    cases h with
    | @cons j sv v _ l' hv hr =>
      cases sv <;> simp only [pack32] at e <;> try (cases e)
      rename_i x
      split at e
      · rename_i hj
        have hj := of_decide_eq_true hj
        subst hj
        split at e
        · rename_i ys hy
          cases e
          obtain ⟨h1, h2, h3⟩ := ih hr hy
          obtain rfl : v = v32 x := by cases hv with | im h0 => cases h0; rfl
          exact ⟨by rw [cellsOf_cons, h1]; rfl, by simp [h2], by show some (j * 1, 1) = some (j, 1); simp, by simpa [Value.cells, v32] using h3⟩
        · cases e
      · cases e
theorem packI_den {vs : List (Nat × SV)} : ∀ {l : List (Nat × Value)} {i : Nat} {xs : List Int}, DenP w own ρ lh vs l → packI vs i = some xs →
    cellsOf l = xs.map vInt ∧ xs.length = vs.length ∧ Fits (fun i => some (i * 1, 1)) l i := by
  induction vs with
  | nil => intro l i xs h e; cases h; simp only [packI, Option.some.injEq] at e; subst e; exact ⟨rfl, rfl, trivial⟩
  | cons p r ih =>
    intro l i xs h e
    cases h with
    | @cons j sv v _ l' hv hr =>
      cases sv <;> simp only [packI] at e <;> try (cases e)
      rename_i x
      split at e
      · rename_i hj
        have hj := of_decide_eq_true hj
        subst hj
        split at e
        · rename_i ys hy
          cases e
          obtain ⟨h1, h2, h3⟩ := ih hr hy
          obtain rfl : v = vInt x := by cases hv with | im h0 => cases h0; rfl
          exact ⟨by rw [cellsOf_cons, h1]; rfl, by simp [h2], by show some (j * 1, 1) = some (j, 1); simp, by simpa [Value.cells, vInt] using h3⟩
        · cases e
      · cases e
theorem packOnes_den {ti : TI} (hone : ti.agg = false → ti.size = 1) {vs : List (Nat × SV)} : ∀ {l : List (Nat × Value)} {i : Nat} {m : List Seg}, DenP w own ρ lh vs l → packOnes ti vs i = some m →
    DenS w own ρ lh m (cellsOf l) ∧ (cellsOf l).length = vs.length * ti.size ∧ Fits (fun i => some (i * ti.size, ti.size)) l (i * ti.size) := by
  induction vs with
  | nil => intro l i xs h e; cases h; simp only [packOnes, Option.some.injEq] at e; subst e; exact ⟨.nil, by simp [cellsOf], trivial⟩
  | cons p r ih =>
    intro l i m h e
    cases h with
    | @cons j sv v _ l' hv hr =>
      simp only [packOnes] at e
      split at e
      · rename_i hj
        have hj := of_decide_eq_true hj
        subst hj
        split at e
        · rename_i m0 hm
          split at e
          · rename_i q hq
            cases e
            obtain ⟨h1, h2, h3⟩ := ih hr hq
            obtain ⟨h4, h5⟩ := partCells_den hv hone hm
            refine ⟨by rw [cellsOf_cons]; exact h5.append h1, ?_, ?_, ?_⟩
            · rw [cellsOf_cons, List.length_append, h2, Array.length_toList, h4, List.length_cons, Nat.succ_mul]; omega
            · show some (j * ti.size, ti.size) = _; rw [h4]
            · rw [h4, ← Nat.succ_mul]; exact h3
          · cases e
        · cases e
      · cases e
theorem buildRow_den {ti : TI} (hone : ti.agg = false → ti.size = 1) {n : Nat} {vs : List (Nat × SV)} {l : List (Nat × Value)} {m : List Seg} (h : DenP w own ρ lh vs l) (e : buildRow ti n vs = some m) :
    DenS w own ρ lh m (cellsOf l) ∧ (cellsOf l).length = n * ti.size ∧ Fits (fun i => some (i * ti.size, ti.size)) l 0 := by
  unfold buildRow at e
  split at e
  · rename_i hn
    have hn := of_decide_eq_true hn
    have hsz : ∀ {k : TK}, ti.k = k → (∀ n e, k ≠ .arr n e) → (∀ fs, k ≠ .struct fs) → ti.size = 1 := fun hk h1 h2 => hone (by
      unfold TI.agg; rw [hk]; rename_i k; cases k <;> first | rfl | exact absurd rfl (h1 _ _) | exact absurd rfl (h2 _))
    split at e
    · cases e
    · rename_i hk
      split at e
      · rename_i xs hp
        cases e
        obtain ⟨h1, h2, h3⟩ := pack8_den h hp
        have hs := hsz hk (by simp) (by simp)
        rw [hs, h1]
        refine ⟨?_, by simp; omega, h3⟩
        have := DenS0.b8s (w := w) (own := own) (n := n) (xs := xs) (by omega) .nil
        rw [List.append_nil] at this
        exact this.full
      · cases e
    · rename_i hk
      split at e
      · rename_i xs hp
        cases e
        obtain ⟨h1, h2, h3⟩ := pack32_den h hp
        have hs := hsz hk (by simp) (by simp)
        rw [hs, h1]
        refine ⟨?_, by simp; omega, h3⟩
        have := DenS0.b32s (w := w) (own := own) (n := n) (xs := xs) (by omega) .nil
        rw [List.append_nil] at this
        exact this.full
      · cases e
    · rename_i hk
      split at e
      · rename_i xs hp
        cases e
        obtain ⟨h1, h2, h3⟩ := packI_den h hp
        have hs := hsz hk (by simp) (by simp)
        rw [hs, h1]
        refine ⟨?_, by simp; omega, h3⟩
        have := DenS0.ints (w := w) (own := own) (n := n) (xs := xs) (by omega) .nil
        rw [List.append_nil] at this
        exact this.full
      · cases e
    · obtain ⟨h1, h2, h3⟩ := packOnes_den hone h e
      rw [hn] at h2
      rw [Nat.zero_mul] at h3
      exact ⟨h1, h2, h3⟩
  · cases e

theorem buildStruct_den {T : List TI} (hT : TabOK P T) {size : Nat} : ∀ (fs : List (Nat × Nat)) (i o : Nat) (vs : List (Nat × SV)) (l : List (Nat × Value)) (m : List Seg), DenP w own ρ lh vs l → buildStruct T size fs i o vs = some m →
    DenS w own ρ lh m (cellsOf l) ∧ o + (cellsOf l).length = size ∧ (∀ f ∈ fs, (ty T f.2).k ≠ .other) ∧
    ∀ pre : List (Nat × Nat), pre.length = i → Fits (fun j => (pre ++ fs.map fun f => (f.1, (ty T f.2).size))[j]?) l o
  | [], i, o, [], l, m, h, e => by
    cases h
    simp only [buildStruct] at e
    split at e
    · rename_i ho
      cases e
      exact ⟨.nil, by simpa [cellsOf] using of_decide_eq_true ho, by simp, fun _ _ => trivial⟩
    · cases e
  | [], _, _, _ :: _, _, _, _, e => by simp [buildStruct] at e
  | (_, _) :: _, _, _, [], _, _, _, e => by simp [buildStruct] at e
  | (off, ft) :: fs, i, o, (j, sv) :: vs, l, m, h, e => by
    simp only [buildStruct] at e
    split at e
    · rename_i ho
      obtain ⟨rfl, rfl⟩ := of_decide_eq_true ho
      split at e
      · rename_i m0 hm
        split at e
        · rename_i q hq
          cases e
          cases h with
          | @cons _ _ v _ l' hv hr =>
            have hk : (ty T ft).k ≠ .other := by
              intro h0
              unfold partCells at hm
              rw [h0] at hm
              cases hm
            obtain ⟨h1, h2, h3, h4⟩ := buildStruct_den hT fs _ _ _ _ _ hr hq
            obtain ⟨h5, h6⟩ := partCells_den hv (hT.get hk).one hm
            refine ⟨by rw [cellsOf_cons]; exact h6.append h1, ?_, ?_, ?_⟩
            · rw [cellsOf_cons, List.length_append, Array.length_toList, h5]; omega
            · intro f hf
              rcases List.mem_cons.1 hf with rfl | hf
              · exact hk
              · exact h3 f hf
            · intro pre hp
              refine ⟨?_, ?_⟩
              · show (pre ++ (off, (ty T ft).size) :: _)[j]? = _
                rw [List.getElem?_append_right (by omega), hp, Nat.sub_self, h5]; rfl
              · have := h4 (pre ++ [(off, (ty T ft).size)]) (by simp [hp])
                rw [h5]
                simpa using this
        · cases e
      · cases e
    · cases e

theorem zagg {T : List TI} (hT : TabOK P T) {t : Nat} (hk : (ty T t).k ≠ .other) : ∃ z it, P.info? t = some it ∧ it.zero = some z ∧ z.cells.toList = zvals (ty T t).zero ∧ it.size = (ty T t).size := by
  obtain ⟨i, hi, hs, _, z, hz, hc⟩ := (hT.get hk).info
  exact ⟨z, i, hi, hz, hc, hs⟩

theorem buildRow_known {ti : TI} {n : Nat} {vs : List (Nat × SV)} {m : List Seg} (e : buildRow ti n vs = some m) : ti.k ≠ .other := by
  unfold buildRow at e
  split at e
  · split at e <;> first | cases e | simp_all
  · cases e
theorem run_built_struct {T : List TI} (hT : TabOK P T) {t : Nat} {fs : List (Nat × Nat)} (hk : (ty T t).k = .struct fs) (h3 : ∀ f ∈ fs, (ty T f.2).k ≠ .other) {l : List (Nat × Value)} {cells : Array Value}
    (hfill : ∀ z : Array Value, z.toList = zvals (ty T t).zero → z.size = (ty T t).size → Instr.fill (fun j => (fs.map fun f => (f.1, (ty T f.2).size))[j]?) z l = some cells) : (Instr.build t l.toArray).run P w = .ok (.agg cells) w := by
  have hko : (ty T t).k ≠ .other := by rw [hk]; simp
  obtain ⟨d, hd, hkd⟩ := (hT.get hko).und
  rw [hk] at hkd
  obtain ⟨fields, rfl, hfs⟩ := hkd
  obtain ⟨z, it, hi, hz, hc, hsz⟩ := zagg hT hko
  have hzs : z.cells.size = (ty T t).size := by rw [← Array.length_toList, hc, (hT.get hko).len]
  have hpl : fields.toList.mapM (fun f => (P.info? f.type).map fun i => (f.offset, i.size)) = some (fs.map fun f => (f.1, (ty T f.2).size)) := by
    rw [← hfs] at h3 ⊢
    generalize fields.toList = fl at *
    clear hfs
    induction fl with
    | nil => rfl
    | cons f r ih =>
      obtain ⟨i, hi, hs, _⟩ := (hT.get (h3 (f.offset, f.type) (by simp))).info
      simp only [List.mapM_cons, hi, Option.map_some, Option.bind_eq_bind, Option.bind_some, Option.pure_def]
      rw [ih (fun g hg => h3 g (by simp at hg ⊢; exact .inr hg))]
      simp [hs]
  refine run_build w t l.toArray _ ?_
  unfold Program.built
  simp only [hi, hd, hz, hpl]
  simpa using hfill _ hc hzs
theorem run_built_arr {T : List TI} (hT : TabOK P T) {t n e0 : Nat} (hk : (ty T t).k = .arr n e0) (hke : (ty T e0).k ≠ .other) {l : List (Nat × Value)} {cells : Array Value}
    (hfill : ∀ z : Array Value, z.toList = zvals (ty T t).zero → z.size = (ty T t).size → Instr.fill (fun i => some (i * (ty T e0).size, (ty T e0).size)) z l = some cells) : (Instr.build t l.toArray).run P w = .ok (.agg cells) w := by
  have hko : (ty T t).k ≠ .other := by rw [hk]; simp
  obtain ⟨d, hd, hkd⟩ := (hT.get hko).und
  rw [hk] at hkd
  subst hkd
  obtain ⟨z, it, hi, hz, hc, _⟩ := zagg hT hko
  have hzs : z.cells.size = (ty T t).size := by rw [← Array.length_toList, hc, (hT.get hko).len]
  obtain ⟨ie, hie, hse, _⟩ := (hT.get hke).info
  refine run_build w t l.toArray _ ?_
  unfold Program.built
  simp only [hi, hd, hz, hie, hse]
  simpa using hfill _ hc hzs
theorem knownAll_ok {T : List TI} {fs : List (Nat × Nat)} (h : knownAll T fs = true) : ∀ f ∈ fs, (ty T f.2).k ≠ .other := by
  induction fs with
  | nil => simp
  | cons f r ih =>
    simp only [knownAll, Bool.and_eq_true] at h
    intro g hg
    rcases List.mem_cons.1 hg with rfl | hg
    · exact TK.known_ne h.1
    · exact ih h.2 g hg

theorem build_sound {T : List TI} (hT : TabOK P T) {t : Nat} {vs : List (Nat × SV)} {l : List (Nat × Value)} (hx : DenP w own ρ lh vs l) {h : Nat → Option (List Seg)} {e : Eff} {rd : List Nat}
    (hok : (buildT T (ty T t) vs).Ok h e rd) : ∃ sv v', e = ⟨sv, [], [], []⟩ ∧ (Instr.build t l.toArray).run P w = .ok v' w ∧ Den w own ρ lh sv v' := by
  have zero : ∀ z : Array Value, (ty T t).k ≠ .other → z.toList = zvals (ty T t).zero → Den w own ρ lh (.agg (ty T t).zero) (.agg (zvals (ty T t).zero).toArray) := fun z hk hc =>
    .agg (zok_den (w := w) (own := own) _ (hT.get hk).zero).full
  unfold buildT at hok
  split at hok
  · exact hok.elim
  · rename_i fs hk
    split at hok
    · rename_i hka
      obtain ⟨rfl, rfl⟩ := hok
      cases hx
      exact ⟨_, _, rfl, run_built_struct hT hk (knownAll_ok hka) (fun z hz _ => by simp [Instr.fill, ← hz]), zero (zvals (ty T t).zero).toArray (by rw [hk]; simp) (by simp)⟩
    · exact hok.elim
  · rename_i n e0 hk
    split at hok
    · rename_i hka
      obtain ⟨rfl, rfl⟩ := hok
      cases hx
      exact ⟨_, _, rfl, run_built_arr hT hk (TK.known_ne hka) (fun z hz _ => by simp [Instr.fill, ← hz]), zero (zvals (ty T t).zero).toArray (by rw [hk]; simp) (by simp)⟩
    · exact hok.elim
  · rename_i fs hk hnil
    split at hok
    · rename_i m hm
      obtain ⟨rfl, rfl⟩ := hok
      obtain ⟨h1, h2, h3, h4⟩ := buildStruct_den hT _ _ _ _ _ _ hx hm
      have h4 := h4 [] rfl
      simp only [List.nil_append] at h4
      exact ⟨_, .agg (cellsOf l).toArray, rfl, run_built_struct hT hk h3 (fun z _ hz => fill_all h4 (by omega)), .agg h1⟩
    · exact hok.elim
  · rename_i n e0 hk hnil
    split at hok
    · rename_i hsz
      have hsz := of_decide_eq_true hsz
      split at hok
      · rename_i m hm
        obtain ⟨rfl, rfl⟩ := hok
        have hke := buildRow_known hm
        obtain ⟨h1, h2, h3⟩ := buildRow_den (hT.get hke).one hx hm
        exact ⟨_, .agg (cellsOf l).toArray, rfl, run_built_arr hT hk hke (fun z _ hz => fill_all h3 (by omega)), .agg h1⟩
      · exact hok.elim
    · exact hok.elim
  · exact hok.elim

theorem buildSlice_sound {T : List TI} (hT : TabOK P T) {t n : Nat} (hs : SatH X G s ρ lh w) (hf : Free s ρ fr) {vs : List (Nat × SV)} {l : List (Nat × Value)} (hx : DenP w (Own X s ρ lh) ρ lh vs l) {e : Eff} {rd : List Nat}
    (hok : (buildSliceT fr T (ty T t) n vs).Ok s.blk e rd) : ∃ v w', (Instr.buildSlice t n l.toArray).run P w = .ok v w' ∧ Does X G s ρ lh w e fr v w' := by
  unfold buildSliceT at hok
  split at hok
  · rename_i e0 hk
    split at hok
    · rename_i hle
      have hle := of_decide_eq_true hle
      split at hok
      · rename_i m hm
        obtain ⟨rfl, rfl⟩ := hok
        obtain ⟨d, hd, hkd⟩ := (hT.get (t := t) (by rw [hk]; simp)).und
        rw [hk] at hkd
        subst hkd
        have hke := buildRow_known hm
        obtain ⟨h1, h2, h3⟩ := buildRow_den (hT.get hke).one hx hm
        obtain ⟨z, ie, hie, hz, hc, hse⟩ := zagg hT hke
        have hfill : ∀ z0 : Array Value, Instr.fill (fun i => some (i * (ty T e0).size, (ty T e0).size)) ((Array.range (n * (ty T e0).size)).map (z0[· % z0.size]!)) l = some (cellsOf l).toArray := fun z0 => fill_all h3 (by simp [h2])
        have hle' : ¬ (16777216 < n * (ty T e0).size) := by omega
        have run : (Instr.buildSlice t n l.toArray).run P w = .ok (.slice (some ⟨w.heap.size, 0, none⟩) n n) (w.alloc (.cells (cellsOf l).toArray e0)) := by
          by_cases h0 : n * (ty T e0).size = 0
          · have := hfill #[]
            rw [h0] at this
            simp [Instr.buildSlice, Go.run_underlying hd, sizeOf, typeInfo, hie, hse, newRow, h0] at this ⊢
            simp [this]
          · have := hfill z.cells
            simp [Instr.buildSlice, Go.run_underlying hd, sizeOf, typeInfo, zeroValue, hie, hz, hse, newRow, h0, hle'] at this ⊢
            simp [this]
        refine ⟨_, _, run, does_new hs hf rfl ⟨rfl, rfl⟩ (by show DenS w (Own X s ρ lh) ρ lh m _; simpa using h1) fun w' ρ' own hr => .os hr (Nat.le_refl _) (by simp [h2])⟩
      · exact hok.elim
    · exact hok.elim
  · exact hok.elim

theorem madeCells_one (v : Value) (n : Nat) : madeCells #[v] n = (List.replicate n v).toArray := by
  apply Array.ext
  · simp [madeCells]
  · intro i h1 h2
    simp [madeCells, Nat.mod_one]

theorem makeSlice_sound {T : List TI} (hT : TabOK P T) {t : Nat} (hs : SatH X G s ρ lh w) (hf : Free s ρ fr) {sl sc : SV} {vl vc : Value} (hl : Den w (Own X s ρ lh) ρ lh sl vl) (hc : Den w (Own X s ρ lh) ρ lh sc vc) {e : Eff} {rd : List Nat}
    (hok : (makeSliceT fr T (ty T t) sl sc).Ok s.blk e rd) : ∃ v w', (Instr.makeSlice t vl vc).run P w = .ok v w' ∧ Does X G s ρ lh w e fr v w' := by
  unfold makeSliceT at hok
  split at hok
  · rename_i e0 n m hk
    split at hok
    · rename_i zb hke hby hzz
      obtain ⟨⟨h0, h1, h2⟩, rfl, rfl⟩ := hok
      subst h1
      obtain rfl : vl = vInt n := by cases hl with | im h => cases h; rfl
      obtain rfl : vc = vInt n := by cases hc with | im h => cases h; rfl
      obtain ⟨d, hd, hkd⟩ := (hT.get (t := t) (by rw [hk]; simp)).und
      rw [hk] at hkd
      subst hkd
      have hko : (ty T e0).k ≠ .other := by rw [hke]; simp
      obtain ⟨i, hi, hs1, hb1, z, hz, hcz⟩ := (hT.get hko).info
      have hone := (hT.get hko).one (by unfold TI.agg; rw [hke])
      have hzc : z.cells = #[v8 zb] := by
        apply Array.ext'
        rw [hcz, hzz]; rfl
      have run := run_make (P := P) w t e0 i z hd hi hz .i64 .i64 n n h0 (Int.le_refl _) (by rw [hb1, hby]; omega) (by omega)
      rw [hs1, hone, Nat.mul_one, hzc, madeCells_one] at run
      refine ⟨_, _, run, does_new hs hf rfl ⟨rfl, rfl⟩ ?_ fun w' ρ' own hr => .os hr (Nat.le_refl _) (by simp)⟩
      have := DenS0.b8s (w := w) (own := Own X s ρ lh) (n := n.toNat) (xs := List.replicate n.toNat zb) (by simp) .nil
      rw [List.append_nil] at this
      show DenS w (Own X s ρ lh) ρ lh _ _
      simpa using this.full
    · exact hok.elim
  · exact hok.elim
end
end Go.SE
