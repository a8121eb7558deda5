/- sha_Hash_Sum -/
import Derived.Test.YtjbnpbnfkgmkoaaDoorFShaNone1
set_option linter.all false
namespace Go.Proofs.Tryd
open Go Go.SE
set_option maxRecDepth 100000
set_option maxHeartbeats 400000
set_option linter.unusedVariables false
noncomputable def Gl_sha_Hash_Sum : List (Nat × SV) := [(1, .ip [.b32s 64 shaK] 0)]
noncomputable def E_sha_Hash_Sum : Env := ⟨T, [(13, S_sha_Sum), (42, S_sha_end), (44, S_slices_Chunk__own), (39, S_sha_state_add), (40, S_sha_state_bytes)], Gl_sha_Hash_Sum, [(69, ⟨f69.ntmps, f69.body.getD .skip⟩)]⟩
theorem E_sha_Hash_Sum_ok : EnvOK prog E_sha_Hash_Sum := ⟨T_ok, (.cons cok_sha_Sum (.cons (cok_sha_end.mono fun _ h => by cases h) (.cons (cok_slices_Chunk__own.mono fun _ h => by cases h) (.cons cok_sha_state_add (.cons (cok_sha_state_bytes.mono fun _ h => by cases h) .nil))))), mix_ok, (FBOK.cons func69 (by kernel_rfl) (by kernel_rfl) (by kernel_rfl) FBOK.nil)⟩
theorem ob_sha_Hash_Sum_0  : (wpFn E_sha_Hash_Sum 2000 (.mk [] []) (f26.body.getD .skip) f26.ntmps f26.results.toList [.nilp] [] ⟨.agg [.b8s 32 (sha256 [])], [], []⟩).holds = (nil8.length ≤ (2000000000 : Nat) ∧ ((32 : Nat) = (32 : Nat) ∧ sha256 nil8 = sha256 nil8) ∧ True) := by kernel_rfl
theorem vc_sha_Hash_Sum_0  : (wpFn E_sha_Hash_Sum 2000 (.mk [] []) (f26.body.getD .skip) f26.ntmps f26.results.toList [.nilp] [] ⟨.agg [.b8s 32 (sha256 [])], [], []⟩).Holds := by
  refine holdsI (ob_sha_Hash_Sum_0 ) ?_
  refine ⟨(by decide), ⟨rfl, rfl⟩, trivial⟩
theorem ob_sha_Hash_Sum_1 (st : List (BitVec 32))  (n : Int) (hp : nil8.length ≤ 1000000000 ∧ 0 ≤ n ∧ n ≤ 1000000000) : (wpFn E_sha_Hash_Sum 3000 (.mk [] [(0, .mk [(0, cntInv ((shaEnd nil8 n).length / 64) fun k s => tplA s [(4, .int ((64 * k : Nat) : Int))] [(idU s 0 3, [.b32s 8 (absorb st (shaEnd nil8 n) k)])])] [])]) (f26.body.getD .skip) f26.ntmps f26.results.toList [.ip [.b32s 8 st, .one .nils, .one (.int n)] 0] [] ⟨.agg [.b8s 32 (hSum st nil8 n)], [], []⟩).holds = (bsplit (decide (n = (0 : Int))) (nil8.length ≤ (2000000000 : Nat) ∧ ((32 : Nat) = (32 : Nat) ∧ sha256 nil8 = hSum st nil8 n) ∧ True) ((nil8.length ≤ (2000000000 : Nat) ∧ (0 : Int) ≤ n ∧ n ≤ (2000000000 : Int)) ∧ (1 : Int) ≤ (64 : Int) ∧ ((0 : Nat) ≤ (shaEnd nil8 n).length / (64 : Nat) ∧ (0 : Int) = (↑((64 : Nat) * (0 : Nat)) : Int) ∧ (64 : Int) = (64 : Int) ∧ (shaEnd nil8 n).length = (shaEnd nil8 n).length ∧ ((shaEnd nil8 n).length = (shaEnd nil8 n).length ∧ shaEnd nil8 n = shaEnd nil8 n) ∧ ((8 : Nat) = (8 : Nat) ∧ st = absorb st (shaEnd nil8 n) (0 : Nat)) ∧ ((32 : Nat) = (32 : Nat) ∧ List.replicate (32 : Nat) (0 : BitVec (8 : Nat)) = List.replicate (32 : Nat) (0 : BitVec (8 : Nat))) ∧ True) ∧ ∀ (i : Nat), i ≤ (shaEnd nil8 n).length / (64 : Nat) → bsplit (decide ((↑((64 : Nat) * i) : Int) < (↑(shaEnd nil8 n).length : Int))) (((0 : Int) ≤ (↑((64 : Nat) * i) : Int) ∧ (↑((64 : Nat) * i) : Int) ≤ (↑(shaEnd nil8 n).length : Int)) ∧ inI64 ((↑((64 : Nat) * i) : Int) + if (↑((shaEnd nil8 n).length - (↑((64 : Nat) * i) : Int).toNat) : Int) < (64 : Int) then (↑((shaEnd nil8 n).length - (↑((64 : Nat) * i) : Int).toNat) : Int) else (64 : Int)) ∧ inI64 ((↑((64 : Nat) * i) : Int) + if (↑((shaEnd nil8 n).length - (↑((64 : Nat) * i) : Int).toNat) : Int) < (64 : Int) then (↑((shaEnd nil8 n).length - (↑((64 : Nat) * i) : Int).toNat) : Int) else (64 : Int)) ∧ (((0 : Int) ≤ (↑((64 : Nat) * i) : Int) + if (↑((shaEnd nil8 n).length - (↑((64 : Nat) * i) : Int).toNat) : Int) < (64 : Int) then (↑((shaEnd nil8 n).length - (↑((64 : Nat) * i) : Int).toNat) : Int) else (64 : Int)) ∧ ((↑((64 : Nat) * i) : Int) + if (↑((shaEnd nil8 n).length - (↑((64 : Nat) * i) : Int).toNat) : Int) < (64 : Int) then (↑((shaEnd nil8 n).length - (↑((64 : Nat) * i) : Int).toNat) : Int) else (64 : Int)) ≤ (↑(shaEnd nil8 n).length : Int)) ∧ (((0 : Int) ≤ (↑((64 : Nat) * i) : Int) + if (↑((shaEnd nil8 n).length - (↑((64 : Nat) * i) : Int).toNat) : Int) < (64 : Int) then (↑((shaEnd nil8 n).length - (↑((64 : Nat) * i) : Int).toNat) : Int) else (64 : Int)) ∧ ((↑((64 : Nat) * i) : Int) + if (↑((shaEnd nil8 n).length - (↑((64 : Nat) * i) : Int).toNat) : Int) < (64 : Int) then (↑((shaEnd nil8 n).length - (↑((64 : Nat) * i) : Int).toNat) : Int) else (64 : Int)) ≤ (↑((↑((64 : Nat) * i) : Int) + if (↑((shaEnd nil8 n).length - (↑((64 : Nat) * i) : Int).toNat) : Int) < (64 : Int) then (↑((shaEnd nil8 n).length - (↑((64 : Nat) * i) : Int).toNat) : Int) else (64 : Int)).toNat : Int)) ∧ ((0 : Int) ≤ (↑((64 : Nat) * i) : Int) ∧ (↑((64 : Nat) * i) : Int) ≤ (↑((↑((64 : Nat) * i) : Int) + if (↑((shaEnd nil8 n).length - (↑((64 : Nat) * i) : Int).toNat) : Int) < (64 : Int) then (↑((shaEnd nil8 n).length - (↑((64 : Nat) * i) : Int).toNat) : Int) else (64 : Int)).toNat : Int)) ∧ (↑((64 : Nat) * i) : Int).toNat + (((↑((64 : Nat) * i) : Int) + if (↑((shaEnd nil8 n).length - (↑((64 : Nat) * i) : Int).toNat) : Int) < (64 : Int) then (↑((shaEnd nil8 n).length - (↑((64 : Nat) * i) : Int).toNat) : Int) else (64 : Int)).toNat - (↑((64 : Nat) * i) : Int).toNat) ≤ (shaEnd nil8 n).length ∧ (List.take (((↑((64 : Nat) * i) : Int) + if (↑((shaEnd nil8 n).length - (↑((64 : Nat) * i) : Int).toNat) : Int) < (64 : Int) then (↑((shaEnd nil8 n).length - (↑((64 : Nat) * i) : Int).toNat) : Int) else (64 : Int)).toNat - (↑((64 : Nat) * i) : Int).toNat) (List.drop (↑((64 : Nat) * i) : Int).toNat (shaEnd nil8 n))).length = (64 : Nat) ∧ inI64 ((↑((64 : Nat) * i) : Int) + (64 : Int)) ∧ (i + (1 : Nat) ≤ (shaEnd nil8 n).length / (64 : Nat) ∧ (shaEnd nil8 n).length / (64 : Nat) - (i + (1 : Nat)) < (shaEnd nil8 n).length / (64 : Nat) - i) ∧ (↑((64 : Nat) * i) : Int) + (64 : Int) = (↑((64 : Nat) * (i + (1 : Nat))) : Int) ∧ (64 : Int) = (64 : Int) ∧ (shaEnd nil8 n).length = (shaEnd nil8 n).length ∧ ((shaEnd nil8 n).length = (shaEnd nil8 n).length ∧ shaEnd nil8 n = shaEnd nil8 n) ∧ ((8 : Nat) = (8 : Nat) ∧ shaBlock (absorb st (shaEnd nil8 n) i) (List.take (((↑((64 : Nat) * i) : Int) + if (↑((shaEnd nil8 n).length - (↑((64 : Nat) * i) : Int).toNat) : Int) < (64 : Int) then (↑((shaEnd nil8 n).length - (↑((64 : Nat) * i) : Int).toNat) : Int) else (64 : Int)).toNat - (↑((64 : Nat) * i) : Int).toNat) (List.drop (↑((64 : Nat) * i) : Int).toNat (shaEnd nil8 n))) = absorb st (shaEnd nil8 n) (i + (1 : Nat))) ∧ ((32 : Nat) = (32 : Nat) ∧ List.replicate (32 : Nat) (0 : BitVec (8 : Nat)) = List.replicate (32 : Nat) (0 : BitVec (8 : Nat))) ∧ True) (((32 : Nat) = (32 : Nat) ∧ shaBytes (absorb st (shaEnd nil8 n) i) = hSum st nil8 n) ∧ True))) := by kernel_rfl
theorem vc_sha_Hash_Sum_1 (st : List (BitVec 32))  (n : Int) (hp : nil8.length ≤ 1000000000 ∧ 0 ≤ n ∧ n ≤ 1000000000) : (wpFn E_sha_Hash_Sum 3000 (.mk [] [(0, .mk [(0, cntInv ((shaEnd nil8 n).length / 64) fun k s => tplA s [(4, .int ((64 * k : Nat) : Int))] [(idU s 0 3, [.b32s 8 (absorb st (shaEnd nil8 n) k)])])] [])]) (f26.body.getD .skip) f26.ntmps f26.results.toList [.ip [.b32s 8 st, .one .nils, .one (.int n)] 0] [] ⟨.agg [.b8s 32 (hSum st nil8 n)], [], []⟩).Holds := by
  refine holdsI (ob_sha_Hash_Sum_1 st n hp) ?_
  refine bsplit_dec (fun h0 => ⟨(by decide), ⟨rfl, ?_⟩, trivial⟩) (fun h1 => ⟨⟨(by decide), (by omega), (by omega)⟩, (by decide), ⟨(by omega), (by decide), rfl, rfl, ⟨rfl, rfl⟩, ⟨rfl, rfl⟩, ⟨rfl, rfl⟩, trivial⟩, fun i2 => fun h3 => bsplit_dec (fun h4 => ⟨⟨(by omega), (by omega)⟩, ?a5, ?a6, ⟨(by omega), (by omega)⟩, ⟨(by omega), (by omega)⟩, ⟨(by omega), (by omega)⟩, (by omega), ?_, ?a7, ⟨?a8, ?a9⟩, (by omega), rfl, rfl, ⟨rfl, rfl⟩, ⟨rfl, ?_⟩, ⟨rfl, rfl⟩, trivial⟩) (fun h10 => ⟨⟨rfl, ?_⟩, trivial⟩)⟩)
  case a5 | a6 | a7 => (have := shaEnd_len nil8 n; have := padZ_lt nil8.length; have := shaEnd_mod nil8 n; simp only [inI64]; omega)
  case a8 | a9 => (have := shaEnd_mod nil8 n; omega)
  · rw [hSum, if_pos h0]
  · have e : (((64 * i2 : Nat) : Int) + if (((shaEnd nil8 n).length - ((64 * i2 : Nat) : Int).toNat : Nat) : Int) < 64 then (((shaEnd nil8 n).length - ((64 * i2 : Nat) : Int).toNat : Nat) : Int) else 64).toNat - ((64 * i2 : Nat) : Int).toNat = 64 := by
      have := shaEnd_mod nil8 n
      rw [if_neg (by omega)]; omega
    have e2 : ((64 * i2 : Nat) : Int).toNat = 64 * i2 := by omega
    rw [e, e2]
    rw [take_len64 _ _ (by have := shaEnd_mod nil8 n; omega)]
  · have e : (((64 * i2 : Nat) : Int) + if (((shaEnd nil8 n).length - ((64 * i2 : Nat) : Int).toNat : Nat) : Int) < 64 then (((shaEnd nil8 n).length - ((64 * i2 : Nat) : Int).toNat : Nat) : Int) else 64).toNat - ((64 * i2 : Nat) : Int).toNat = 64 := by
      have := shaEnd_mod nil8 n
      rw [if_neg (by omega)]; omega
    have e2 : ((64 * i2 : Nat) : Int).toNat = 64 * i2 := by omega
    rw [e, e2]
    rfl
  · obtain rfl : i2 = (shaEnd nil8 n).length / 64 := (by have := shaEnd_mod nil8 n; omega)
    rw [hSum, if_neg h1]
theorem ob_sha_Hash_Sum_2 (st : List (BitVec 32)) (r : List (BitVec 8)) (k k2 : Nat) (n : Int) (hk : r.length = k2) (hk2 : k = k2) (hp : r.length ≤ 1000000000 ∧ 0 ≤ n ∧ n ≤ 1000000000) : (wpFn E_sha_Hash_Sum 3000 (.mk [] [(0, .mk [(0, cntInv ((shaEnd r n).length / 64) fun k s => tplA s [(4, .int ((64 * k : Nat) : Int))] [(idU s 0 3, [.b32s 8 (absorb st (shaEnd r n) k)])])] [])]) (f26.body.getD .skip) f26.ntmps f26.results.toList [.ip [.b32s 8 st, .one (.sl 1 k (.b8s k2 r)), .one (.int n)] 0] [] ⟨.agg [.b8s 32 (hSum st r n)], [], []⟩).holds = (bsplit (decide (n = (0 : Int))) (nil8.length ≤ (2000000000 : Nat) ∧ ((32 : Nat) = (32 : Nat) ∧ sha256 nil8 = hSum st r n) ∧ True) ((r.length ≤ (2000000000 : Nat) ∧ (0 : Int) ≤ n ∧ n ≤ (2000000000 : Int)) ∧ (1 : Int) ≤ (64 : Int) ∧ ((0 : Nat) ≤ (shaEnd r n).length / (64 : Nat) ∧ (0 : Int) = (↑((64 : Nat) * (0 : Nat)) : Int) ∧ (64 : Int) = (64 : Int) ∧ (shaEnd r n).length = (shaEnd r n).length ∧ ((shaEnd r n).length = (shaEnd r n).length ∧ shaEnd r n = shaEnd r n) ∧ ((8 : Nat) = (8 : Nat) ∧ st = absorb st (shaEnd r n) (0 : Nat)) ∧ ((32 : Nat) = (32 : Nat) ∧ List.replicate (32 : Nat) (0 : BitVec (8 : Nat)) = List.replicate (32 : Nat) (0 : BitVec (8 : Nat))) ∧ True) ∧ ∀ (i : Nat), i ≤ (shaEnd r n).length / (64 : Nat) → bsplit (decide ((↑((64 : Nat) * i) : Int) < (↑(shaEnd r n).length : Int))) (((0 : Int) ≤ (↑((64 : Nat) * i) : Int) ∧ (↑((64 : Nat) * i) : Int) ≤ (↑(shaEnd r n).length : Int)) ∧ inI64 ((↑((64 : Nat) * i) : Int) + if (↑((shaEnd r n).length - (↑((64 : Nat) * i) : Int).toNat) : Int) < (64 : Int) then (↑((shaEnd r n).length - (↑((64 : Nat) * i) : Int).toNat) : Int) else (64 : Int)) ∧ inI64 ((↑((64 : Nat) * i) : Int) + if (↑((shaEnd r n).length - (↑((64 : Nat) * i) : Int).toNat) : Int) < (64 : Int) then (↑((shaEnd r n).length - (↑((64 : Nat) * i) : Int).toNat) : Int) else (64 : Int)) ∧ (((0 : Int) ≤ (↑((64 : Nat) * i) : Int) + if (↑((shaEnd r n).length - (↑((64 : Nat) * i) : Int).toNat) : Int) < (64 : Int) then (↑((shaEnd r n).length - (↑((64 : Nat) * i) : Int).toNat) : Int) else (64 : Int)) ∧ ((↑((64 : Nat) * i) : Int) + if (↑((shaEnd r n).length - (↑((64 : Nat) * i) : Int).toNat) : Int) < (64 : Int) then (↑((shaEnd r n).length - (↑((64 : Nat) * i) : Int).toNat) : Int) else (64 : Int)) ≤ (↑(shaEnd r n).length : Int)) ∧ (((0 : Int) ≤ (↑((64 : Nat) * i) : Int) + if (↑((shaEnd r n).length - (↑((64 : Nat) * i) : Int).toNat) : Int) < (64 : Int) then (↑((shaEnd r n).length - (↑((64 : Nat) * i) : Int).toNat) : Int) else (64 : Int)) ∧ ((↑((64 : Nat) * i) : Int) + if (↑((shaEnd r n).length - (↑((64 : Nat) * i) : Int).toNat) : Int) < (64 : Int) then (↑((shaEnd r n).length - (↑((64 : Nat) * i) : Int).toNat) : Int) else (64 : Int)) ≤ (↑((↑((64 : Nat) * i) : Int) + if (↑((shaEnd r n).length - (↑((64 : Nat) * i) : Int).toNat) : Int) < (64 : Int) then (↑((shaEnd r n).length - (↑((64 : Nat) * i) : Int).toNat) : Int) else (64 : Int)).toNat : Int)) ∧ ((0 : Int) ≤ (↑((64 : Nat) * i) : Int) ∧ (↑((64 : Nat) * i) : Int) ≤ (↑((↑((64 : Nat) * i) : Int) + if (↑((shaEnd r n).length - (↑((64 : Nat) * i) : Int).toNat) : Int) < (64 : Int) then (↑((shaEnd r n).length - (↑((64 : Nat) * i) : Int).toNat) : Int) else (64 : Int)).toNat : Int)) ∧ (↑((64 : Nat) * i) : Int).toNat + (((↑((64 : Nat) * i) : Int) + if (↑((shaEnd r n).length - (↑((64 : Nat) * i) : Int).toNat) : Int) < (64 : Int) then (↑((shaEnd r n).length - (↑((64 : Nat) * i) : Int).toNat) : Int) else (64 : Int)).toNat - (↑((64 : Nat) * i) : Int).toNat) ≤ (shaEnd r n).length ∧ (List.take (((↑((64 : Nat) * i) : Int) + if (↑((shaEnd r n).length - (↑((64 : Nat) * i) : Int).toNat) : Int) < (64 : Int) then (↑((shaEnd r n).length - (↑((64 : Nat) * i) : Int).toNat) : Int) else (64 : Int)).toNat - (↑((64 : Nat) * i) : Int).toNat) (List.drop (↑((64 : Nat) * i) : Int).toNat (shaEnd r n))).length = (64 : Nat) ∧ inI64 ((↑((64 : Nat) * i) : Int) + (64 : Int)) ∧ (i + (1 : Nat) ≤ (shaEnd r n).length / (64 : Nat) ∧ (shaEnd r n).length / (64 : Nat) - (i + (1 : Nat)) < (shaEnd r n).length / (64 : Nat) - i) ∧ (↑((64 : Nat) * i) : Int) + (64 : Int) = (↑((64 : Nat) * (i + (1 : Nat))) : Int) ∧ (64 : Int) = (64 : Int) ∧ (shaEnd r n).length = (shaEnd r n).length ∧ ((shaEnd r n).length = (shaEnd r n).length ∧ shaEnd r n = shaEnd r n) ∧ ((8 : Nat) = (8 : Nat) ∧ shaBlock (absorb st (shaEnd r n) i) (List.take (((↑((64 : Nat) * i) : Int) + if (↑((shaEnd r n).length - (↑((64 : Nat) * i) : Int).toNat) : Int) < (64 : Int) then (↑((shaEnd r n).length - (↑((64 : Nat) * i) : Int).toNat) : Int) else (64 : Int)).toNat - (↑((64 : Nat) * i) : Int).toNat) (List.drop (↑((64 : Nat) * i) : Int).toNat (shaEnd r n))) = absorb st (shaEnd r n) (i + (1 : Nat))) ∧ ((32 : Nat) = (32 : Nat) ∧ List.replicate (32 : Nat) (0 : BitVec (8 : Nat)) = List.replicate (32 : Nat) (0 : BitVec (8 : Nat))) ∧ True) (((32 : Nat) = (32 : Nat) ∧ shaBytes (absorb st (shaEnd r n) i) = hSum st r n) ∧ True))) := by kernel_rfl
theorem vc_sha_Hash_Sum_2 (st : List (BitVec 32)) (r : List (BitVec 8)) (k k2 : Nat) (n : Int) (hk : r.length = k2) (hk2 : k = k2) (hp : r.length ≤ 1000000000 ∧ 0 ≤ n ∧ n ≤ 1000000000) : (wpFn E_sha_Hash_Sum 3000 (.mk [] [(0, .mk [(0, cntInv ((shaEnd r n).length / 64) fun k s => tplA s [(4, .int ((64 * k : Nat) : Int))] [(idU s 0 3, [.b32s 8 (absorb st (shaEnd r n) k)])])] [])]) (f26.body.getD .skip) f26.ntmps f26.results.toList [.ip [.b32s 8 st, .one (.sl 1 k (.b8s k2 r)), .one (.int n)] 0] [] ⟨.agg [.b8s 32 (hSum st r n)], [], []⟩).Holds := by
  refine holdsI (ob_sha_Hash_Sum_2 st r k k2 n hk hk2 hp) ?_
  refine bsplit_dec (fun h0 => ⟨(by decide), ⟨rfl, ?_⟩, trivial⟩) (fun h1 => ⟨⟨(by omega), (by omega), (by omega)⟩, (by decide), ⟨(by omega), (by decide), rfl, rfl, ⟨rfl, rfl⟩, ⟨rfl, rfl⟩, ⟨rfl, rfl⟩, trivial⟩, fun i2 => fun h3 => bsplit_dec (fun h4 => ⟨⟨(by omega), (by omega)⟩, ?a5, ?a6, ⟨(by omega), (by omega)⟩, ⟨(by omega), (by omega)⟩, ⟨(by omega), (by omega)⟩, (by omega), ?_, ?a7, ⟨?a8, ?a9⟩, (by omega), rfl, rfl, ⟨rfl, rfl⟩, ⟨rfl, ?_⟩, ⟨rfl, rfl⟩, trivial⟩) (fun h10 => ⟨⟨rfl, ?_⟩, trivial⟩)⟩)
  case a5 | a6 | a7 => (have := shaEnd_len r n; have := padZ_lt r.length; have := shaEnd_mod r n; simp only [inI64]; omega)
  case a8 | a9 => (have := shaEnd_mod r n; omega)
  · rw [hSum, if_pos h0]
  · have e : (((64 * i2 : Nat) : Int) + if (((shaEnd r n).length - ((64 * i2 : Nat) : Int).toNat : Nat) : Int) < 64 then (((shaEnd r n).length - ((64 * i2 : Nat) : Int).toNat : Nat) : Int) else 64).toNat - ((64 * i2 : Nat) : Int).toNat = 64 := by
      have := shaEnd_mod r n
      rw [if_neg (by omega)]; omega
    have e2 : ((64 * i2 : Nat) : Int).toNat = 64 * i2 := by omega
    rw [e, e2]
    rw [take_len64 _ _ (by have := shaEnd_mod r n; omega)]
  · have e : (((64 * i2 : Nat) : Int) + if (((shaEnd r n).length - ((64 * i2 : Nat) : Int).toNat : Nat) : Int) < 64 then (((shaEnd r n).length - ((64 * i2 : Nat) : Int).toNat : Nat) : Int) else 64).toNat - ((64 * i2 : Nat) : Int).toNat = 64 := by
      have := shaEnd_mod r n
      rw [if_neg (by omega)]; omega
    have e2 : ((64 * i2 : Nat) : Int).toNat = 64 * i2 := by omega
    rw [e, e2]
    rfl
  · obtain rfl : i2 = (shaEnd r n).length / 64 := (by have := shaEnd_mod r n; omega)
    rw [hSum, if_neg h1]
noncomputable def post_sha_Hash_Sum : List SV → List (List Seg) → FPost := fun L H => match L, H with
  | [.nilp], [] => .ret ⟨.agg [.b8s 32 (sha256 [])], [], []⟩
  | [.ip [.b32s 8 st, .one .nils, .one (.int n)] 0], [] => .vc (nil8.length ≤ 1000000000 ∧ 0 ≤ n ∧ n ≤ 1000000000) (.ret ⟨.agg [.b8s 32 (hSum st nil8 n)], [], []⟩)
  | [.ip [.b32s 8 st, .one (.sl 1 k (.b8s k2 r)), .one (.int n)] 0], [] => .vc (r.length ≤ 1000000000 ∧ 0 ≤ n ∧ n ≤ 1000000000) (.ret ⟨.agg [.b8s 32 (hSum st r n)], [], []⟩)
  | _, _ => .fail
noncomputable def S_sha_Hash_Sum : SE.Spec := specOf false [.gen] post_sha_Hash_Sum
theorem cok_sha_Hash_Sum : CallOK prog Gl_sha_Hash_Sum 26 S_sha_Hash_Sum := by
  refine callOK_ofI (E := E_sha_Hash_Sum) (code := f26.body.getD .skip) E_sha_Hash_Sum_ok func26 (by kernel_rfl) (by kernel_rfl) fun L H out ht hp => ?_
  have hl := ht.lens
  clear ht
  unfold post_sha_Hash_Sum at hp
  split at hp
  · skip
    obtain rfl := hp
    exact ⟨_, _, vc_sha_Hash_Sum_0 ⟩
  · rename_i st n
    obtain ⟨hpre, hp⟩ := hp
    obtain rfl := hp
    exact ⟨_, _, vc_sha_Hash_Sum_1 st n hpre⟩
  · rename_i st k k2 r n
    obtain ⟨hpre, hp⟩ := hp
    obtain rfl := hp
    exact ⟨_, _, vc_sha_Hash_Sum_2 st r k k2 n (hl.1.1.2.1.1) (hl.1.1.2.1.2) hpre⟩
  · exact hp.elim
end Go.Proofs.Tryd
/-! sha_Hash_Len -/
namespace Go.Proofs.Tryd
open Go Go.SE
set_option maxRecDepth 100000
set_option maxHeartbeats 400000
set_option linter.unusedVariables false
noncomputable def Gl_sha_Hash_Len : List (Nat × SV) := []
noncomputable def E_sha_Hash_Len : Env := ⟨T, [], Gl_sha_Hash_Len, []⟩
theorem E_sha_Hash_Len_ok : EnvOK prog E_sha_Hash_Len := ⟨T_ok, .nil, mix_ok, FBOK.nil⟩
theorem ob_sha_Hash_Len_0  : (wpFn E_sha_Hash_Len 2000 (.mk [] []) (f27.body.getD .skip) f27.ntmps f27.results.toList [.nilp] [] ⟨.int 0, [], []⟩).holds = ((0 : Int) = (0 : Int) ∧ True) := by kernel_rfl
theorem vc_sha_Hash_Len_0  : (wpFn E_sha_Hash_Len 2000 (.mk [] []) (f27.body.getD .skip) f27.ntmps f27.results.toList [.nilp] [] ⟨.int 0, [], []⟩).Holds := by
  refine holdsI (ob_sha_Hash_Len_0 ) ?_
  refine ⟨rfl, trivial⟩
theorem ob_sha_Hash_Len_1 (st : List (BitVec 32)) (n : Int) : (wpFn E_sha_Hash_Len 2000 (.mk [] []) (f27.body.getD .skip) f27.ntmps f27.results.toList [.ip [.b32s 8 st, .one .nils, .one (.int n)] 0] [] ⟨.int n, [], []⟩).holds = (n = n ∧ True) := by kernel_rfl
theorem vc_sha_Hash_Len_1 (st : List (BitVec 32)) (n : Int) : (wpFn E_sha_Hash_Len 2000 (.mk [] []) (f27.body.getD .skip) f27.ntmps f27.results.toList [.ip [.b32s 8 st, .one .nils, .one (.int n)] 0] [] ⟨.int n, [], []⟩).Holds := by
  refine holdsI (ob_sha_Hash_Len_1 st n) ?_
  refine ⟨rfl, trivial⟩
theorem ob_sha_Hash_Len_2 (st : List (BitVec 32)) (r : List (BitVec 8)) (k k2 : Nat) (n : Int) : (wpFn E_sha_Hash_Len 2000 (.mk [] []) (f27.body.getD .skip) f27.ntmps f27.results.toList [.ip [.b32s 8 st, .one (.sl 1 k (.b8s k2 r)), .one (.int n)] 0] [] ⟨.int n, [], []⟩).holds = (n = n ∧ True) := by kernel_rfl
theorem vc_sha_Hash_Len_2 (st : List (BitVec 32)) (r : List (BitVec 8)) (k k2 : Nat) (n : Int) : (wpFn E_sha_Hash_Len 2000 (.mk [] []) (f27.body.getD .skip) f27.ntmps f27.results.toList [.ip [.b32s 8 st, .one (.sl 1 k (.b8s k2 r)), .one (.int n)] 0] [] ⟨.int n, [], []⟩).Holds := by
  refine holdsI (ob_sha_Hash_Len_2 st r k k2 n) ?_
  refine ⟨rfl, trivial⟩
noncomputable def post_sha_Hash_Len : List SV → List (List Seg) → FPost := fun L H => match L, H with
  | [.nilp], [] => .ret ⟨.int 0, [], []⟩
  | [.ip [.b32s 8 st, .one .nils, .one (.int n)] 0], [] => .ret ⟨.int n, [], []⟩
  | [.ip [.b32s 8 st, .one (.sl 1 k (.b8s k2 r)), .one (.int n)] 0], [] => .ret ⟨.int n, [], []⟩
  | _, _ => .fail
noncomputable def S_sha_Hash_Len : SE.Spec := specOf false [.gen] post_sha_Hash_Len
theorem cok_sha_Hash_Len : CallOK prog Gl_sha_Hash_Len 27 S_sha_Hash_Len := by
  refine callOK_ofI (E := E_sha_Hash_Len) (code := f27.body.getD .skip) E_sha_Hash_Len_ok func27 (by kernel_rfl) (by kernel_rfl) fun L H out ht hp => ?_
  have hl := ht.lens
  clear ht
  unfold post_sha_Hash_Len at hp
  split at hp
  · skip
    obtain rfl := hp
    exact ⟨_, _, vc_sha_Hash_Len_0 ⟩
  · rename_i st n
    obtain rfl := hp
    exact ⟨_, _, vc_sha_Hash_Len_1 st n⟩
  · rename_i st k k2 r n
    obtain rfl := hp
    exact ⟨_, _, vc_sha_Hash_Len_2 st r k k2 n⟩
  · exact hp.elim
end Go.Proofs.Tryd
/-! sha_Hash_Copy -/
namespace Go.Proofs.Tryd
open Go Go.SE
set_option maxRecDepth 100000
set_option maxHeartbeats 400000
set_option linter.unusedVariables false
noncomputable def Gl_sha_Hash_Copy : List (Nat × SV) := []
noncomputable def E_sha_Hash_Copy : Env := ⟨T, [(45, S_slices_Clone)], Gl_sha_Hash_Copy, []⟩
theorem E_sha_Hash_Copy_ok : EnvOK prog E_sha_Hash_Copy := ⟨T_ok, (.cons cok_slices_Clone .nil), mix_ok, FBOK.nil⟩
theorem ob_sha_Hash_Copy_0  : (wpFn E_sha_Hash_Copy 2000 (.mk [] []) (f28.body.getD .skip) f28.ntmps f28.results.toList [.nilp] [] ⟨.nilp, [], []⟩).holds = (True) := by kernel_rfl
theorem vc_sha_Hash_Copy_0  : (wpFn E_sha_Hash_Copy 2000 (.mk [] []) (f28.body.getD .skip) f28.ntmps f28.results.toList [.nilp] [] ⟨.nilp, [], []⟩).Holds := by
  refine holdsI (ob_sha_Hash_Copy_0 ) ?_
  refine trivial
theorem ob_sha_Hash_Copy_1 (st : List (BitVec 32)) (n : Int) : (wpFn E_sha_Hash_Copy 2000 (.mk [] []) (f28.body.getD .skip) f28.ntmps f28.results.toList [.ip [.b32s 8 st, .one .nils, .one (.int n)] 0] [] ⟨.ptr 0 0, [], [[.b32s 8 st, .one (.os 1 1 0), .one (.int n)], [.b8s 0 [], .spare]]⟩).holds = (nil8.length ≤ (4294967296 : Nat) ∧ ((8 : Nat) = (8 : Nat) ∧ st = st) ∧ nil8.length = (0 : Nat) ∧ n = n ∧ (nil8.length = (0 : Nat) ∧ nil8 = nil8) ∧ True) := by kernel_rfl
theorem vc_sha_Hash_Copy_1 (st : List (BitVec 32)) (n : Int) : (wpFn E_sha_Hash_Copy 2000 (.mk [] []) (f28.body.getD .skip) f28.ntmps f28.results.toList [.ip [.b32s 8 st, .one .nils, .one (.int n)] 0] [] ⟨.ptr 0 0, [], [[.b32s 8 st, .one (.os 1 1 0), .one (.int n)], [.b8s 0 [], .spare]]⟩).Holds := by
  refine holdsI (ob_sha_Hash_Copy_1 st n) ?_
  refine ⟨(by decide), ⟨rfl, rfl⟩, (by decide), rfl, ⟨(by decide), rfl⟩, trivial⟩
theorem ob_sha_Hash_Copy_2 (st : List (BitVec 32)) (r : List (BitVec 8)) (k k2 : Nat) (n : Int) (hk : r.length = k2) (hk2 : k = k2) (hp : r.length ≤ 1000000000) : (wpFn E_sha_Hash_Copy 2000 (.mk [] []) (f28.body.getD .skip) f28.ntmps f28.results.toList [.ip [.b32s 8 st, .one (.sl 1 k (.b8s k2 r)), .one (.int n)] 0] [] ⟨.ptr 0 0, [], [[.b32s 8 st, .one (.os 1 1 r.length), .one (.int n)], [.b8s r.length r, .spare]]⟩).holds = (r.length ≤ (4294967296 : Nat) ∧ ((8 : Nat) = (8 : Nat) ∧ st = st) ∧ r.length = r.length ∧ n = n ∧ (r.length = r.length ∧ r = r) ∧ True) := by kernel_rfl
theorem vc_sha_Hash_Copy_2 (st : List (BitVec 32)) (r : List (BitVec 8)) (k k2 : Nat) (n : Int) (hk : r.length = k2) (hk2 : k = k2) (hp : r.length ≤ 1000000000) : (wpFn E_sha_Hash_Copy 2000 (.mk [] []) (f28.body.getD .skip) f28.ntmps f28.results.toList [.ip [.b32s 8 st, .one (.sl 1 k (.b8s k2 r)), .one (.int n)] 0] [] ⟨.ptr 0 0, [], [[.b32s 8 st, .one (.os 1 1 r.length), .one (.int n)], [.b8s r.length r, .spare]]⟩).Holds := by
  refine holdsI (ob_sha_Hash_Copy_2 st r k k2 n hk hk2 hp) ?_
  refine ⟨(by omega), ⟨rfl, rfl⟩, rfl, rfl, ⟨rfl, rfl⟩, trivial⟩
noncomputable def post_sha_Hash_Copy : List SV → List (List Seg) → FPost := fun L H => match L, H with
  | [.nilp], [] => .ret ⟨.nilp, [], []⟩
  | [.ip [.b32s 8 st, .one .nils, .one (.int n)] 0], [] => .ret ⟨.ptr 0 0, [], [[.b32s 8 st, .one (.os 1 1 0), .one (.int n)], [.b8s 0 [], .spare]]⟩
  | [.ip [.b32s 8 st, .one (.sl 1 k (.b8s k2 r)), .one (.int n)] 0], [] => .vc (r.length ≤ 1000000000) (.ret ⟨.ptr 0 0, [], [[.b32s 8 st, .one (.os 1 1 r.length), .one (.int n)], [.b8s r.length r, .spare]]⟩)
  | _, _ => .fail
noncomputable def S_sha_Hash_Copy : SE.Spec := specOf false [.gen] post_sha_Hash_Copy
theorem cok_sha_Hash_Copy : CallOK prog Gl_sha_Hash_Copy 28 S_sha_Hash_Copy := by
  refine callOK_ofI (E := E_sha_Hash_Copy) (code := f28.body.getD .skip) E_sha_Hash_Copy_ok func28 (by kernel_rfl) (by kernel_rfl) fun L H out ht hp => ?_
  have hl := ht.lens
  clear ht
  unfold post_sha_Hash_Copy at hp
  split at hp
  · skip
    obtain rfl := hp
    exact ⟨_, _, vc_sha_Hash_Copy_0 ⟩
  · rename_i st n
    obtain rfl := hp
    exact ⟨_, _, vc_sha_Hash_Copy_1 st n⟩
  · rename_i st k k2 r n
    obtain ⟨hpre, hp⟩ := hp
    obtain rfl := hp
    exact ⟨_, _, vc_sha_Hash_Copy_2 st r k k2 n (hl.1.1.2.1.1) (hl.1.1.2.1.2) hpre⟩
  · exact hp.elim
end Go.Proofs.Tryd
/-! law04_ShaNone -/
namespace Go.Proofs.Tryd
open Go Go.SE
set_option maxRecDepth 100000
set_option maxHeartbeats 400000
set_option linter.unusedVariables false
attribute [local irreducible] sha256 hSum hState hRest shaPad shaEnd
noncomputable def Gl_law04_ShaNone : List (Nat × SV) := [(1, .ip [.b32s 64 shaK] 0), (2, .ip [.one (.sl 1 64 (.ints 64 shaKI))] 0)]
noncomputable def E_law04_ShaNone : Env := ⟨T, [(14, S_ref04_Sum), (12, S_law04_known), (25, S_sha_Hash_Write__any), (26, S_sha_Hash_Sum), (27, S_sha_Hash_Len), (28, S_sha_Hash_Copy)], Gl_law04_ShaNone, []⟩

theorem SN1 (st : List (BitVec 32)) : hSum st nil8 0 = sha256 nil8 := hok_sum (hok_zero st)
theorem SN2 (st : List (BitVec 32)) (b : List (BitVec 8)) : hSum (hState st 0 (nil8 ++ b)) (hRest (nil8 ++ b)) (0 + (b.length : Int)) = sha256 b := hok_sum (hok_write (hok_zero st) b)
theorem E_law04_ShaNone_ok : EnvOK prog E_law04_ShaNone := ⟨T_ok, (.cons (cok_ref04_Sum.mono fun _ h => by show _ ∈ Gl_law04_ShaNone; simp only [Gl_ref04_Sum, Gl_law04_ShaNone, List.mem_cons, List.not_mem_nil, or_false] at h ⊢; simp only [h, true_or, or_true]) (.cons (cok_law04_known.mono fun _ h => by show _ ∈ Gl_law04_ShaNone; simp only [Gl_law04_known, Gl_law04_ShaNone, List.mem_cons, List.not_mem_nil, or_false] at h ⊢; simp only [h, true_or, or_true]) (.cons (cok_sha_Hash_Write__any.mono fun _ h => by show _ ∈ Gl_law04_ShaNone; simp only [Gl_sha_Hash_Write__any, Gl_law04_ShaNone, List.mem_cons, List.not_mem_nil, or_false] at h ⊢; simp only [h, true_or, or_true]) (.cons (cok_sha_Hash_Sum.mono fun _ h => by show _ ∈ Gl_law04_ShaNone; simp only [Gl_sha_Hash_Sum, Gl_law04_ShaNone, List.mem_cons, List.not_mem_nil, or_false] at h ⊢; simp only [h, true_or, or_true]) (.cons (cok_sha_Hash_Len.mono fun _ h => by cases h) (.cons (cok_sha_Hash_Copy.mono fun _ h => by cases h) .nil)))))), mix_ok, FBOK.nil⟩
theorem ob_law04_ShaNone_0 (b : List (BitVec 8)) : (wpFn E_law04_ShaNone 2000 (.mk [] []) (f9.body.getD .skip) f9.ntmps f9.results.toList [.sl 1 b.length (.b8s b.length b)] [] ⟨.bool true, [], []⟩).holds = (bsplit (decide ((100 : Int) < (↑b.length : Int))) (true = true ∧ True) (nil8.length ≤ (2000000000 : Nat) ∧ ((sha256 nil8).length = (32 : Nat) ∧ (sha256 nil8).length = (32 : Nat)) ∧ (nil8.length ≤ (1000000000 : Nat) ∧ nil8.length ≤ (1000000000 : Nat) ∧ (0 : Int) ≤ (0 : Int) ∧ (0 : Int) ≤ (1000000000 : Int)) ∧ ((hRest (nil8 ++ nil8)).length ≤ (1000000000 : Nat) ∧ (0 : Int) ≤ (0 : Int) + (↑nil8.length : Int) ∧ (0 : Int) + (↑nil8.length : Int) ≤ (1000000000 : Int)) ∧ ((hSum (hState (List.replicate (8 : Nat) (0 : BitVec (32 : Nat))) (0 : Int) (nil8 ++ nil8)) (hRest (nil8 ++ nil8)) ((0 : Int) + (↑nil8.length : Int))).length = (32 : Nat) ∧ (sha256 nil8).length = (32 : Nat)) ∧ (0 : Nat) = (0 : Nat) ∧ (nil8.length ≤ (1000000000 : Nat) ∧ (0 : Int) ≤ (0 : Int) ∧ (0 : Int) ≤ (1000000000 : Int)) ∧ ((hSum (List.replicate (8 : Nat) (0 : BitVec (32 : Nat))) nil8 (0 : Int)).length = (32 : Nat) ∧ (sha256 nil8).length = (32 : Nat)) ∧ (0 : Nat) = (0 : Nat) ∧ (nil8.length ≤ (1000000000 : Nat) ∧ b.length ≤ (1000000000 : Nat) ∧ (0 : Int) ≤ (0 : Int) ∧ (0 : Int) ≤ (1000000000 : Int)) ∧ ((hRest (nil8 ++ b)).length ≤ (1000000000 : Nat) ∧ (0 : Int) ≤ (0 : Int) + (↑b.length : Int) ∧ (0 : Int) + (↑b.length : Int) ≤ (1000000000 : Int)) ∧ b.length ≤ (2000000000 : Nat) ∧ ((hSum (hState (List.replicate (8 : Nat) (0 : BitVec (32 : Nat))) (0 : Int) (nil8 ++ b)) (hRest (nil8 ++ b)) ((0 : Int) + (↑b.length : Int))).length = (32 : Nat) ∧ (sha256 b).length = (32 : Nat)) ∧ bsplit (decide (hSum (hState (List.replicate (8 : Nat) (0 : BitVec (32 : Nat))) (0 : Int) (nil8 ++ b)) (hRest (nil8 ++ b)) ((0 : Int) + (↑b.length : Int)) = sha256 b)) (true = true ∧ True) (false = true ∧ True))) := by kernel_rfl
theorem vc_law04_ShaNone_0 (b : List (BitVec 8)) : (wpFn E_law04_ShaNone 2000 (.mk [] []) (f9.body.getD .skip) f9.ntmps f9.results.toList [.sl 1 b.length (.b8s b.length b)] [] ⟨.bool true, [], []⟩).Holds := by
  refine holdsI (ob_law04_ShaNone_0 b) ?_
  refine bsplit_dec (fun h0 => ⟨rfl, trivial⟩) (fun h1 => ⟨(by decide), ⟨?a0, ?a1⟩, ⟨(by decide), (by decide), (by decide), (by decide)⟩, ⟨?a2, (by decide), (by decide)⟩, ⟨?a3, ?a4⟩, rfl, ⟨(by decide), (by decide), (by decide)⟩, ⟨?a5, ?a6⟩, rfl, ⟨(by decide), (by omega), (by decide), (by decide)⟩, ⟨?a7, (by omega), (by omega)⟩, (by omega), ⟨?a8, ?a9⟩, bsplit_dec (fun h2 => ⟨rfl, trivial⟩) (fun h3 => (by exfalso; (exact absurd (SN2 _ _) (by assumption))))⟩)
  case a0 | a1 | a4 | a6 | a9 => exact sha256_len _
  case a2 => (have := hok_rest (hok_write (hok_zero (List.replicate 8 0)) nil8); exact Nat.le_trans this (by decide))
  case a3 | a5 | a8 => exact hSum_len _ _ _
  case a7 => (have := hok_rest (hok_write (hok_zero (List.replicate 8 0)) b); exact Nat.le_trans this (by simp; omega))
noncomputable def post_law04_ShaNone : List SV → List (List Seg) → FPost := fun L H => match L, H with
  | [.sl 1 b_n (.b8s b_m b)], [] => .ret ⟨.bool true, [], []⟩
  | _, _ => .fail
noncomputable def S_law04_ShaNone : SE.Spec := specOf false [.bytes] post_law04_ShaNone
theorem cok_law04_ShaNone : CallOK prog Gl_law04_ShaNone 9 S_law04_ShaNone := by
  refine callOK_ofI (E := E_law04_ShaNone) (code := f9.body.getD .skip) E_law04_ShaNone_ok func9 (by kernel_rfl) (by kernel_rfl) fun L H out ht hp => ?_
  have hl := ht.lens
  clear ht
  unfold post_law04_ShaNone at hp
  split at hp
  · rename_i b_n b_m b
    have hm_b := hl.1.1.1
    have hn_b := hl.1.1.2
    obtain rfl : b_m = b.length := hm_b.symm
    obtain rfl : b_n = b.length := hn_b
    obtain rfl := hp
    exact ⟨_, _, vc_law04_ShaNone_0 b⟩
  · exact hp.elim
end Go.Proofs.Tryd
