/- slices_Collect -/
import Derived.Test.YtjbnpbnfkgmkoaaFCtsExchanges1
set_option linter.all false
namespace Go.Proofs.Try
open Go Go.SE
set_option maxRecDepth 100000
set_option maxHeartbeats 400000
set_option linter.unusedVariables false
attribute [local irreducible] mvI subI addIt mxC mxR mxK encI decI ksI nextK nk1 nk2 tm rl8 sbox ibox addB keyAt rsC rsR ruC ruR ivI encB decB shB subB unshB mixB unmixB rnd unrnd wI wK wJ lastJ lastW incB blkC lastC chC catC16 lastD unC ctsPad exch encF decC decF padN
noncomputable def Gl_slices_Collect : List (Nat × SV) := []
noncomputable def E_slices_Collect : Env := ⟨T, [(59, S_slices_AppendSeq)], Gl_slices_Collect, []⟩
theorem E_slices_Collect_ok : EnvOK prog E_slices_Collect := ⟨T_ok, (.cons cok_slices_AppendSeq .nil), mix_ok, FBOK.nil⟩
theorem ob_slices_Collect_0 (f g ks iv p : List (BitVec 8)) (n m vn vm pn pm : Nat) (hp : f = sbox ∧ g = ibox ∧ n = 11 ∧ m = 176 ∧ vn = 16 ∧ vm = 16 ∧ iv.length = 16 ∧ pn = p.length ∧ pm = p.length ∧ p.length % 16 = 0 ∧ p.length ≤ 200000) : (wpFn E_slices_Collect 2000 (.mk [] []) (f51.body.getD .skip) f51.ntmps f51.results.toList [.fn 48 [] [.ip [.one (.ip [.b8s 256 f, .b8s 256 g, .one (.sl 16 n (.b8s m ks))] 0), .one (.sl 1 vn (.b8s vm iv))] 0, .ip [.one (.fn 60 [] [.ip [.one (.sl 1 pn (.b8s pm p))] 0, .ip [.one (.int 16)] 0])] 0]] [] ⟨.os 0 1 (p.length / 16), [], [[.rows (p.length / 16) (chC ks iv p (p.length / 16)), .spare]]⟩).holds = ((f = sbox ∧ g = ibox ∧ n = (11 : Nat) ∧ m = (176 : Nat) ∧ vn = (16 : Nat) ∧ vm = (16 : Nat) ∧ iv.length = (16 : Nat) ∧ pn = p.length ∧ pm = p.length ∧ p.length % (16 : Nat) = (0 : Nat) ∧ p.length ≤ (200000 : Nat)) ∧ p.length / (16 : Nat) = p.length / (16 : Nat) ∧ (p.length / (16 : Nat) = p.length / (16 : Nat) ∧ chC ks iv p (p.length / (16 : Nat)) = chC ks iv p (p.length / (16 : Nat))) ∧ True) := by kernel_rfl
theorem vc_slices_Collect_0 (f g ks iv p : List (BitVec 8)) (n m vn vm pn pm : Nat) (hp : f = sbox ∧ g = ibox ∧ n = 11 ∧ m = 176 ∧ vn = 16 ∧ vm = 16 ∧ iv.length = 16 ∧ pn = p.length ∧ pm = p.length ∧ p.length % 16 = 0 ∧ p.length ≤ 200000) : (wpFn E_slices_Collect 2000 (.mk [] []) (f51.body.getD .skip) f51.ntmps f51.results.toList [.fn 48 [] [.ip [.one (.ip [.b8s 256 f, .b8s 256 g, .one (.sl 16 n (.b8s m ks))] 0), .one (.sl 1 vn (.b8s vm iv))] 0, .ip [.one (.fn 60 [] [.ip [.one (.sl 1 pn (.b8s pm p))] 0, .ip [.one (.int 16)] 0])] 0]] [] ⟨.os 0 1 (p.length / 16), [], [[.rows (p.length / 16) (chC ks iv p (p.length / 16)), .spare]]⟩).Holds := by
  refine holdsI (ob_slices_Collect_0 f g ks iv p n m vn vm pn pm hp) ?_
  refine ⟨⟨(by (exact hp.1)), (by (exact hp.2.1)), (by omega), (by omega), (by omega), (by omega), (by omega), (by omega), (by omega), (by omega), (by omega)⟩, rfl, ⟨rfl, rfl⟩, trivial⟩
noncomputable def post_slices_Collect : List SV → List (List Seg) → FPost := fun L H => match L, H with
  | [.fn 48 [] [.ip [.one (.ip [.b8s 256 f, .b8s 256 g, .one (.sl 16 n (.b8s m ks))] 0), .one (.sl 1 vn (.b8s vm iv))] 0, .ip [.one (.fn 60 [] [.ip [.one (.sl 1 pn (.b8s pm p))] 0, .ip [.one (.int 16)] 0])] 0]], [] => .vc (f = sbox ∧ g = ibox ∧ n = 11 ∧ m = 176 ∧ vn = 16 ∧ vm = 16 ∧ iv.length = 16 ∧ pn = p.length ∧ pm = p.length ∧ p.length % 16 = 0 ∧ p.length ≤ 200000) (.ret ⟨.os 0 1 (p.length / 16), [], [[.rows (p.length / 16) (chC ks iv p (p.length / 16)), .spare]]⟩)
  | _, _ => .fail
noncomputable def S_slices_Collect : SE.Spec := specOf true [.gen] post_slices_Collect
theorem cok_slices_Collect : CallOK prog Gl_slices_Collect 51 S_slices_Collect := by
  refine callOK_ofI (E := E_slices_Collect) (code := f51.body.getD .skip) E_slices_Collect_ok func51 (by kernel_rfl) (by kernel_rfl) fun L H out ht hp => ?_
  have hl := ht.lens
  clear ht
  unfold post_slices_Collect at hp
  split at hp
  · rename_i f g n m ks vn vm iv pn pm p
    obtain ⟨hpre, hp⟩ := hp
    obtain rfl := hp
    exact ⟨_, _, vc_slices_Collect_0 f g ks iv p n m vn vm pn pm hpre⟩
  · exact hp.elim
end Go.Proofs.Try
/-! cts_mode_encrypt_1 -/
namespace Go.Proofs.Try
open Go Go.SE
set_option maxRecDepth 100000
set_option maxHeartbeats 400000
set_option linter.unusedVariables false
attribute [local irreducible] mvI subI addIt mxC mxR mxK encI decI ksI nextK nk1 nk2 tm rl8 sbox ibox addB keyAt rsC rsR ruC ruR ivI encB decB shB subB unshB mixB unmixB rnd unrnd wI wK wJ lastJ lastW incB blkC lastC chC catC16 lastD unC ctsPad exch encF decC decF padN
noncomputable def Gl_cts_mode_encrypt_1 : List (Nat × SV) := []
noncomputable def E_cts_mode_encrypt_1 : Env := ⟨T, [(50, S_slices_Concat)], Gl_cts_mode_encrypt_1, []⟩
theorem E_cts_mode_encrypt_1_ok : EnvOK prog E_cts_mode_encrypt_1 := ⟨T_ok, (.cons cok_slices_Concat .nil), mix_ok, FBOK.nil⟩
theorem ob_cts_mode_encrypt_1_0 (a : Int) (c : List (BitVec 8)) (cn cm : Nat) (hp : cn = c.length ∧ cm = c.length ∧ a = (c.length : Int) - 32 ∧ 32 ≤ c.length ∧ c.length ≤ 200000) : (wpFn E_cts_mode_encrypt_1 2000 (.mk [] []) (f53.body.getD .skip) f53.ntmps f53.results.toList [.int a, .ip [.one (.sl 1 cn (.b8s cm c))] 0] [] ⟨.osub 0 1 0 c.length, [], [[.b8s c.length (exch c c.length), .spare]]⟩).holds = (((0 : Int) ≤ a ∧ a ≤ (↑cn : Int)) ∧ ((0 : Int) ≤ a ∧ a ≤ (↑a.toNat : Int)) ∧ inI64 (a + (16 : Int)) ∧ ((0 : Int) ≤ a + (16 : Int) ∧ a + (16 : Int) ≤ (↑cn : Int)) ∧ inI64 (a + (16 : Int)) ∧ ((0 : Int) ≤ a + (16 : Int) ∧ a + (16 : Int) ≤ (↑cn : Int)) ∧ ((0 : Int) ≤ a ∧ a ≤ (↑(a + (16 : Int)).toNat : Int)) ∧ [List.take a.toNat c, List.drop (a + (16 : Int)).toNat c, List.take ((a + (16 : Int)).toNat - a.toNat) (List.drop a.toNat c)].length = (3 : Nat) ∧ ([List.take a.toNat c, List.drop (a + (16 : Int)).toNat c, List.take ((a + (16 : Int)).toNat - a.toNat) (List.drop a.toNat c)].flatten.length ≤ (4294967296 : Nat) ∧ [List.take a.toNat c, List.drop (a + (16 : Int)).toNat c, List.take ((a + (16 : Int)).toNat - a.toNat) (List.drop a.toNat c)].length ≤ (4294967296 : Nat)) ∧ ((0 : Nat) = (0 : Nat) ∧ [List.take a.toNat c, List.drop (a + (16 : Int)).toNat c, List.take ((a + (16 : Int)).toNat - a.toNat) (List.drop a.toNat c)].flatten.length = c.length) ∧ ([List.take a.toNat c, List.drop (a + (16 : Int)).toNat c, List.take ((a + (16 : Int)).toNat - a.toNat) (List.drop a.toNat c)].flatten.length = c.length ∧ [List.take a.toNat c, List.drop (a + (16 : Int)).toNat c, List.take ((a + (16 : Int)).toNat - a.toNat) (List.drop a.toNat c)].flatten = exch c c.length) ∧ True) := by kernel_rfl
theorem vc_cts_mode_encrypt_1_0 (a : Int) (c : List (BitVec 8)) (cn cm : Nat) (hp : cn = c.length ∧ cm = c.length ∧ a = (c.length : Int) - 32 ∧ 32 ≤ c.length ∧ c.length ≤ 200000) : (wpFn E_cts_mode_encrypt_1 2000 (.mk [] []) (f53.body.getD .skip) f53.ntmps f53.results.toList [.int a, .ip [.one (.sl 1 cn (.b8s cm c))] 0] [] ⟨.osub 0 1 0 c.length, [], [[.b8s c.length (exch c c.length), .spare]]⟩).Holds := by
  refine holdsI (ob_cts_mode_encrypt_1_0 a c cn cm hp) ?_
  refine ⟨⟨(by omega), (by omega)⟩, ⟨(by omega), (by omega)⟩, ?a0, ⟨(by omega), (by omega)⟩, ?a1, ⟨(by omega), (by omega)⟩, ⟨(by omega), (by omega)⟩, rfl, ⟨?_, ?_⟩, ⟨rfl, ?_⟩, ⟨?_, ?_⟩, trivial⟩
  case a0 | a1 => (simp only [inI64]; omega)
  · have e := exch_eq a c hp.2.2.1 hp.2.2.2.1
    rw [e, exch_len _ hp.2.2.2.1]; omega
  · show 3 ≤ 4294967296
    decide
  · have e := exch_eq a c hp.2.2.1 hp.2.2.2.1
    rw [e, exch_len _ hp.2.2.2.1]
  · have e := exch_eq a c hp.2.2.1 hp.2.2.2.1
    rw [e, exch_len _ hp.2.2.2.1]
  · exact exch_eq a c hp.2.2.1 hp.2.2.2.1
noncomputable def post_cts_mode_encrypt_1 : List SV → List (List Seg) → FPost := fun L H => match L, H with
  | [.int a, .ip [.one (.sl 1 cn (.b8s cm c))] 0], [] => .vc (cn = c.length ∧ cm = c.length ∧ a = (c.length : Int) - 32 ∧ 32 ≤ c.length ∧ c.length ≤ 200000) (.ret ⟨.osub 0 1 0 c.length, [], [[.b8s c.length (exch c c.length), .spare]]⟩)
  | _, _ => .fail
noncomputable def S_cts_mode_encrypt_1 : SE.Spec := specOf false [.gen, .gen] post_cts_mode_encrypt_1
theorem cok_cts_mode_encrypt_1 : CallOK prog Gl_cts_mode_encrypt_1 53 S_cts_mode_encrypt_1 := by
  refine callOK_ofI (E := E_cts_mode_encrypt_1) (code := f53.body.getD .skip) E_cts_mode_encrypt_1_ok func53 (by kernel_rfl) (by kernel_rfl) fun L H out ht hp => ?_
  have hl := ht.lens
  clear ht
  unfold post_cts_mode_encrypt_1 at hp
  split at hp
  · rename_i a cn cm c
    obtain ⟨hpre, hp⟩ := hp
    obtain rfl := hp
    exact ⟨_, _, vc_cts_mode_encrypt_1_0 a c cn cm hpre⟩
  · exact hp.elim
end Go.Proofs.Try
/-! cts_mode_encrypt -/
namespace Go.Proofs.Try
open Go Go.SE
set_option maxRecDepth 100000
set_option maxHeartbeats 400000
set_option linter.unusedVariables false
attribute [local irreducible] mvI subI addIt mxC mxR mxK encI decI ksI nextK nk1 nk2 tm rl8 sbox ibox addB keyAt rsC rsR ruC ruR ivI encB decB shB subB unshB mixB unmixB rnd unrnd wI wK wJ lastJ lastW incB blkC lastC chC catC16 lastD unC ctsPad exch encF decC decF padN
noncomputable def Gl_cts_mode_encrypt : List (Nat × SV) := []
noncomputable def E_cts_mode_encrypt : Env := ⟨T, [(50, S_slices_Concat), (52, S_slices_Chunk), (31, S_cts_mode_chain), (51, S_slices_Collect), (53, S_cts_mode_encrypt_1)], Gl_cts_mode_encrypt, []⟩
theorem E_cts_mode_encrypt_ok : EnvOK prog E_cts_mode_encrypt := ⟨T_ok, (.cons cok_slices_Concat (.cons cok_slices_Chunk (.cons cok_cts_mode_chain (.cons cok_slices_Collect (.cons cok_cts_mode_encrypt_1 .nil))))), mix_ok, FBOK.nil⟩
theorem ob_cts_mode_encrypt_0 (f g ks iv p : List (BitVec 8)) (n m vn vm : Nat) (hp : f = sbox ∧ g = ibox ∧ n = 11 ∧ m = 176 ∧ vn = 16 ∧ vm = 16 ∧ iv.length = 16 ∧ 16 ≤ p.length ∧ p.length ≤ 131072) : (wpFn E_cts_mode_encrypt 4000 (.mk [] []) (f34.body.getD .skip) f34.ntmps f34.results.toList [.agg [.one (.ip [.b8s 256 f, .b8s 256 g, .one (.sl 16 n (.b8s m ks))] 0), .one (.sl 1 vn (.b8s vm iv))], .sl 1 p.length (.b8s p.length p)] [] ⟨.osub 0 1 0 p.length, [], [[.b8s (padN p.length) (encF ks iv p), .spare]]⟩).holds = (((0 : Int) ≤ (↑p.length : Int) ∧ (0 : Int) < (16 : Int)) ∧ inI64 ((16 : Int) - (↑p.length : Int) % (16 : Int)) ∧ ((0 : Int) ≤ (16 : Int) - (↑p.length : Int) % (16 : Int) ∧ (0 : Int) < (16 : Int)) ∧ ((0 : Int) ≤ ((16 : Int) - (↑p.length : Int) % (16 : Int)) % (16 : Int) ∧ ((16 : Int) - (↑p.length : Int) % (16 : Int)) % (16 : Int) = ((16 : Int) - (↑p.length : Int) % (16 : Int)) % (16 : Int) ∧ ((16 : Int) - (↑p.length : Int) % (16 : Int)) % (16 : Int) ≤ (1099511627776 : Int)) ∧ (((16 : Int) - (↑p.length : Int) % (16 : Int)) % (16 : Int)).toNat = (((16 : Int) - (↑p.length : Int) % (16 : Int)) % (16 : Int)).toNat ∧ [p, List.replicate (((16 : Int) - (↑p.length : Int) % (16 : Int)) % (16 : Int)).toNat (0 : BitVec (8 : Nat))].length = (2 : Nat) ∧ ([p, List.replicate (((16 : Int) - (↑p.length : Int) % (16 : Int)) % (16 : Int)).toNat (0 : BitVec (8 : Nat))].flatten.length ≤ (4294967296 : Nat) ∧ [p, List.replicate (((16 : Int) - (↑p.length : Int) % (16 : Int)) % (16 : Int)).toNat (0 : BitVec (8 : Nat))].length ≤ (4294967296 : Nat)) ∧ (0 : Nat) + [p, List.replicate (((16 : Int) - (↑p.length : Int) % (16 : Int)) % (16 : Int)).toNat (0 : BitVec (8 : Nat))].flatten.length ≤ [p, List.replicate (((16 : Int) - (↑p.length : Int) % (16 : Int)) % (16 : Int)).toNat (0 : BitVec (8 : Nat))].flatten.length ∧ (1 : Int) ≤ (16 : Int) ∧ (f = sbox ∧ g = ibox ∧ n = (11 : Nat) ∧ m = (176 : Nat) ∧ vn = (16 : Nat) ∧ vm = (16 : Nat) ∧ iv.length = (16 : Nat) ∧ (List.take [p, List.replicate (((16 : Int) - (↑p.length : Int) % (16 : Int)) % (16 : Int)).toNat (0 : BitVec (8 : Nat))].flatten.length (List.drop (0 : Nat) [p, List.replicate (((16 : Int) - (↑p.length : Int) % (16 : Int)) % (16 : Int)).toNat (0 : BitVec (8 : Nat))].flatten)).length = (List.take [p, List.replicate (((16 : Int) - (↑p.length : Int) % (16 : Int)) % (16 : Int)).toNat (0 : BitVec (8 : Nat))].flatten.length (List.drop (0 : Nat) [p, List.replicate (((16 : Int) - (↑p.length : Int) % (16 : Int)) % (16 : Int)).toNat (0 : BitVec (8 : Nat))].flatten)).length ∧ (List.take [p, List.replicate (((16 : Int) - (↑p.length : Int) % (16 : Int)) % (16 : Int)).toNat (0 : BitVec (8 : Nat))].flatten.length (List.drop (0 : Nat) [p, List.replicate (((16 : Int) - (↑p.length : Int) % (16 : Int)) % (16 : Int)).toNat (0 : BitVec (8 : Nat))].flatten)).length = (List.take [p, List.replicate (((16 : Int) - (↑p.length : Int) % (16 : Int)) % (16 : Int)).toNat (0 : BitVec (8 : Nat))].flatten.length (List.drop (0 : Nat) [p, List.replicate (((16 : Int) - (↑p.length : Int) % (16 : Int)) % (16 : Int)).toNat (0 : BitVec (8 : Nat))].flatten)).length ∧ (List.take [p, List.replicate (((16 : Int) - (↑p.length : Int) % (16 : Int)) % (16 : Int)).toNat (0 : BitVec (8 : Nat))].flatten.length (List.drop (0 : Nat) [p, List.replicate (((16 : Int) - (↑p.length : Int) % (16 : Int)) % (16 : Int)).toNat (0 : BitVec (8 : Nat))].flatten)).length % (16 : Nat) = (0 : Nat) ∧ (List.take [p, List.replicate (((16 : Int) - (↑p.length : Int) % (16 : Int)) % (16 : Int)).toNat (0 : BitVec (8 : Nat))].flatten.length (List.drop (0 : Nat) [p, List.replicate (((16 : Int) - (↑p.length : Int) % (16 : Int)) % (16 : Int)).toNat (0 : BitVec (8 : Nat))].flatten)).length ≤ (200000 : Nat)) ∧ (List.take [p, List.replicate (((16 : Int) - (↑p.length : Int) % (16 : Int)) % (16 : Int)).toNat (0 : BitVec (8 : Nat))].flatten.length (List.drop (0 : Nat) [p, List.replicate (((16 : Int) - (↑p.length : Int) % (16 : Int)) % (16 : Int)).toNat (0 : BitVec (8 : Nat))].flatten)).length / (16 : Nat) = (List.take [p, List.replicate (((16 : Int) - (↑p.length : Int) % (16 : Int)) % (16 : Int)).toNat (0 : BitVec (8 : Nat))].flatten.length (List.drop (0 : Nat) [p, List.replicate (((16 : Int) - (↑p.length : Int) % (16 : Int)) % (16 : Int)).toNat (0 : BitVec (8 : Nat))].flatten)).length / (16 : Nat) ∧ ((chC ks iv (List.take [p, List.replicate (((16 : Int) - (↑p.length : Int) % (16 : Int)) % (16 : Int)).toNat (0 : BitVec (8 : Nat))].flatten.length (List.drop (0 : Nat) [p, List.replicate (((16 : Int) - (↑p.length : Int) % (16 : Int)) % (16 : Int)).toNat (0 : BitVec (8 : Nat))].flatten)) ((List.take [p, List.replicate (((16 : Int) - (↑p.length : Int) % (16 : Int)) % (16 : Int)).toNat (0 : BitVec (8 : Nat))].flatten.length (List.drop (0 : Nat) [p, List.replicate (((16 : Int) - (↑p.length : Int) % (16 : Int)) % (16 : Int)).toNat (0 : BitVec (8 : Nat))].flatten)).length / (16 : Nat))).flatten.length ≤ (4294967296 : Nat) ∧ (chC ks iv (List.take [p, List.replicate (((16 : Int) - (↑p.length : Int) % (16 : Int)) % (16 : Int)).toNat (0 : BitVec (8 : Nat))].flatten.length (List.drop (0 : Nat) [p, List.replicate (((16 : Int) - (↑p.length : Int) % (16 : Int)) % (16 : Int)).toNat (0 : BitVec (8 : Nat))].flatten)) ((List.take [p, List.replicate (((16 : Int) - (↑p.length : Int) % (16 : Int)) % (16 : Int)).toNat (0 : BitVec (8 : Nat))].flatten.length (List.drop (0 : Nat) [p, List.replicate (((16 : Int) - (↑p.length : Int) % (16 : Int)) % (16 : Int)).toNat (0 : BitVec (8 : Nat))].flatten)).length / (16 : Nat))).length ≤ (4294967296 : Nat)) ∧ bsplit (decide ((↑p.length : Int) = (16 : Int))) (((0 : Nat) = (0 : Nat) ∧ (chC ks iv (List.take [p, List.replicate (((16 : Int) - (↑p.length : Int) % (16 : Int)) % (16 : Int)).toNat (0 : BitVec (8 : Nat))].flatten.length (List.drop (0 : Nat) [p, List.replicate (((16 : Int) - (↑p.length : Int) % (16 : Int)) % (16 : Int)).toNat (0 : BitVec (8 : Nat))].flatten)) ((List.take [p, List.replicate (((16 : Int) - (↑p.length : Int) % (16 : Int)) % (16 : Int)).toNat (0 : BitVec (8 : Nat))].flatten.length (List.drop (0 : Nat) [p, List.replicate (((16 : Int) - (↑p.length : Int) % (16 : Int)) % (16 : Int)).toNat (0 : BitVec (8 : Nat))].flatten)).length / (16 : Nat))).flatten.length = p.length) ∧ ((chC ks iv (List.take [p, List.replicate (((16 : Int) - (↑p.length : Int) % (16 : Int)) % (16 : Int)).toNat (0 : BitVec (8 : Nat))].flatten.length (List.drop (0 : Nat) [p, List.replicate (((16 : Int) - (↑p.length : Int) % (16 : Int)) % (16 : Int)).toNat (0 : BitVec (8 : Nat))].flatten)) ((List.take [p, List.replicate (((16 : Int) - (↑p.length : Int) % (16 : Int)) % (16 : Int)).toNat (0 : BitVec (8 : Nat))].flatten.length (List.drop (0 : Nat) [p, List.replicate (((16 : Int) - (↑p.length : Int) % (16 : Int)) % (16 : Int)).toNat (0 : BitVec (8 : Nat))].flatten)).length / (16 : Nat))).flatten.length = padN p.length ∧ (chC ks iv (List.take [p, List.replicate (((16 : Int) - (↑p.length : Int) % (16 : Int)) % (16 : Int)).toNat (0 : BitVec (8 : Nat))].flatten.length (List.drop (0 : Nat) [p, List.replicate (((16 : Int) - (↑p.length : Int) % (16 : Int)) % (16 : Int)).toNat (0 : BitVec (8 : Nat))].flatten)) ((List.take [p, List.replicate (((16 : Int) - (↑p.length : Int) % (16 : Int)) % (16 : Int)).toNat (0 : BitVec (8 : Nat))].flatten.length (List.drop (0 : Nat) [p, List.replicate (((16 : Int) - (↑p.length : Int) % (16 : Int)) % (16 : Int)).toNat (0 : BitVec (8 : Nat))].flatten)).length / (16 : Nat))).flatten = encF ks iv p) ∧ True) (inI64 ((↑(chC ks iv (List.take [p, List.replicate (((16 : Int) - (↑p.length : Int) % (16 : Int)) % (16 : Int)).toNat (0 : BitVec (8 : Nat))].flatten.length (List.drop (0 : Nat) [p, List.replicate (((16 : Int) - (↑p.length : Int) % (16 : Int)) % (16 : Int)).toNat (0 : BitVec (8 : Nat))].flatten)) ((List.take [p, List.replicate (((16 : Int) - (↑p.length : Int) % (16 : Int)) % (16 : Int)).toNat (0 : BitVec (8 : Nat))].flatten.length (List.drop (0 : Nat) [p, List.replicate (((16 : Int) - (↑p.length : Int) % (16 : Int)) % (16 : Int)).toNat (0 : BitVec (8 : Nat))].flatten)).length / (16 : Nat))).flatten.length : Int) - (32 : Int)) ∧ (0 : Nat) + (chC ks iv (List.take [p, List.replicate (((16 : Int) - (↑p.length : Int) % (16 : Int)) % (16 : Int)).toNat (0 : BitVec (8 : Nat))].flatten.length (List.drop (0 : Nat) [p, List.replicate (((16 : Int) - (↑p.length : Int) % (16 : Int)) % (16 : Int)).toNat (0 : BitVec (8 : Nat))].flatten)) ((List.take [p, List.replicate (((16 : Int) - (↑p.length : Int) % (16 : Int)) % (16 : Int)).toNat (0 : BitVec (8 : Nat))].flatten.length (List.drop (0 : Nat) [p, List.replicate (((16 : Int) - (↑p.length : Int) % (16 : Int)) % (16 : Int)).toNat (0 : BitVec (8 : Nat))].flatten)).length / (16 : Nat))).flatten.length ≤ (chC ks iv (List.take [p, List.replicate (((16 : Int) - (↑p.length : Int) % (16 : Int)) % (16 : Int)).toNat (0 : BitVec (8 : Nat))].flatten.length (List.drop (0 : Nat) [p, List.replicate (((16 : Int) - (↑p.length : Int) % (16 : Int)) % (16 : Int)).toNat (0 : BitVec (8 : Nat))].flatten)) ((List.take [p, List.replicate (((16 : Int) - (↑p.length : Int) % (16 : Int)) % (16 : Int)).toNat (0 : BitVec (8 : Nat))].flatten.length (List.drop (0 : Nat) [p, List.replicate (((16 : Int) - (↑p.length : Int) % (16 : Int)) % (16 : Int)).toNat (0 : BitVec (8 : Nat))].flatten)).length / (16 : Nat))).flatten.length ∧ ((chC ks iv (List.take [p, List.replicate (((16 : Int) - (↑p.length : Int) % (16 : Int)) % (16 : Int)).toNat (0 : BitVec (8 : Nat))].flatten.length (List.drop (0 : Nat) [p, List.replicate (((16 : Int) - (↑p.length : Int) % (16 : Int)) % (16 : Int)).toNat (0 : BitVec (8 : Nat))].flatten)) ((List.take [p, List.replicate (((16 : Int) - (↑p.length : Int) % (16 : Int)) % (16 : Int)).toNat (0 : BitVec (8 : Nat))].flatten.length (List.drop (0 : Nat) [p, List.replicate (((16 : Int) - (↑p.length : Int) % (16 : Int)) % (16 : Int)).toNat (0 : BitVec (8 : Nat))].flatten)).length / (16 : Nat))).flatten.length = (List.take (chC ks iv (List.take [p, List.replicate (((16 : Int) - (↑p.length : Int) % (16 : Int)) % (16 : Int)).toNat (0 : BitVec (8 : Nat))].flatten.length (List.drop (0 : Nat) [p, List.replicate (((16 : Int) - (↑p.length : Int) % (16 : Int)) % (16 : Int)).toNat (0 : BitVec (8 : Nat))].flatten)) ((List.take [p, List.replicate (((16 : Int) - (↑p.length : Int) % (16 : Int)) % (16 : Int)).toNat (0 : BitVec (8 : Nat))].flatten.length (List.drop (0 : Nat) [p, List.replicate (((16 : Int) - (↑p.length : Int) % (16 : Int)) % (16 : Int)).toNat (0 : BitVec (8 : Nat))].flatten)).length / (16 : Nat))).flatten.length (List.drop (0 : Nat) (chC ks iv (List.take [p, List.replicate (((16 : Int) - (↑p.length : Int) % (16 : Int)) % (16 : Int)).toNat (0 : BitVec (8 : Nat))].flatten.length (List.drop (0 : Nat) [p, List.replicate (((16 : Int) - (↑p.length : Int) % (16 : Int)) % (16 : Int)).toNat (0 : BitVec (8 : Nat))].flatten)) ((List.take [p, List.replicate (((16 : Int) - (↑p.length : Int) % (16 : Int)) % (16 : Int)).toNat (0 : BitVec (8 : Nat))].flatten.length (List.drop (0 : Nat) [p, List.replicate (((16 : Int) - (↑p.length : Int) % (16 : Int)) % (16 : Int)).toNat (0 : BitVec (8 : Nat))].flatten)).length / (16 : Nat))).flatten)).length ∧ (chC ks iv (List.take [p, List.replicate (((16 : Int) - (↑p.length : Int) % (16 : Int)) % (16 : Int)).toNat (0 : BitVec (8 : Nat))].flatten.length (List.drop (0 : Nat) [p, List.replicate (((16 : Int) - (↑p.length : Int) % (16 : Int)) % (16 : Int)).toNat (0 : BitVec (8 : Nat))].flatten)) ((List.take [p, List.replicate (((16 : Int) - (↑p.length : Int) % (16 : Int)) % (16 : Int)).toNat (0 : BitVec (8 : Nat))].flatten.length (List.drop (0 : Nat) [p, List.replicate (((16 : Int) - (↑p.length : Int) % (16 : Int)) % (16 : Int)).toNat (0 : BitVec (8 : Nat))].flatten)).length / (16 : Nat))).flatten.length = (List.take (chC ks iv (List.take [p, List.replicate (((16 : Int) - (↑p.length : Int) % (16 : Int)) % (16 : Int)).toNat (0 : BitVec (8 : Nat))].flatten.length (List.drop (0 : Nat) [p, List.replicate (((16 : Int) - (↑p.length : Int) % (16 : Int)) % (16 : Int)).toNat (0 : BitVec (8 : Nat))].flatten)) ((List.take [p, List.replicate (((16 : Int) - (↑p.length : Int) % (16 : Int)) % (16 : Int)).toNat (0 : BitVec (8 : Nat))].flatten.length (List.drop (0 : Nat) [p, List.replicate (((16 : Int) - (↑p.length : Int) % (16 : Int)) % (16 : Int)).toNat (0 : BitVec (8 : Nat))].flatten)).length / (16 : Nat))).flatten.length (List.drop (0 : Nat) (chC ks iv (List.take [p, List.replicate (((16 : Int) - (↑p.length : Int) % (16 : Int)) % (16 : Int)).toNat (0 : BitVec (8 : Nat))].flatten.length (List.drop (0 : Nat) [p, List.replicate (((16 : Int) - (↑p.length : Int) % (16 : Int)) % (16 : Int)).toNat (0 : BitVec (8 : Nat))].flatten)) ((List.take [p, List.replicate (((16 : Int) - (↑p.length : Int) % (16 : Int)) % (16 : Int)).toNat (0 : BitVec (8 : Nat))].flatten.length (List.drop (0 : Nat) [p, List.replicate (((16 : Int) - (↑p.length : Int) % (16 : Int)) % (16 : Int)).toNat (0 : BitVec (8 : Nat))].flatten)).length / (16 : Nat))).flatten)).length ∧ (↑(chC ks iv (List.take [p, List.replicate (((16 : Int) - (↑p.length : Int) % (16 : Int)) % (16 : Int)).toNat (0 : BitVec (8 : Nat))].flatten.length (List.drop (0 : Nat) [p, List.replicate (((16 : Int) - (↑p.length : Int) % (16 : Int)) % (16 : Int)).toNat (0 : BitVec (8 : Nat))].flatten)) ((List.take [p, List.replicate (((16 : Int) - (↑p.length : Int) % (16 : Int)) % (16 : Int)).toNat (0 : BitVec (8 : Nat))].flatten.length (List.drop (0 : Nat) [p, List.replicate (((16 : Int) - (↑p.length : Int) % (16 : Int)) % (16 : Int)).toNat (0 : BitVec (8 : Nat))].flatten)).length / (16 : Nat))).flatten.length : Int) - (32 : Int) = (↑(List.take (chC ks iv (List.take [p, List.replicate (((16 : Int) - (↑p.length : Int) % (16 : Int)) % (16 : Int)).toNat (0 : BitVec (8 : Nat))].flatten.length (List.drop (0 : Nat) [p, List.replicate (((16 : Int) - (↑p.length : Int) % (16 : Int)) % (16 : Int)).toNat (0 : BitVec (8 : Nat))].flatten)) ((List.take [p, List.replicate (((16 : Int) - (↑p.length : Int) % (16 : Int)) % (16 : Int)).toNat (0 : BitVec (8 : Nat))].flatten.length (List.drop (0 : Nat) [p, List.replicate (((16 : Int) - (↑p.length : Int) % (16 : Int)) % (16 : Int)).toNat (0 : BitVec (8 : Nat))].flatten)).length / (16 : Nat))).flatten.length (List.drop (0 : Nat) (chC ks iv (List.take [p, List.replicate (((16 : Int) - (↑p.length : Int) % (16 : Int)) % (16 : Int)).toNat (0 : BitVec (8 : Nat))].flatten.length (List.drop (0 : Nat) [p, List.replicate (((16 : Int) - (↑p.length : Int) % (16 : Int)) % (16 : Int)).toNat (0 : BitVec (8 : Nat))].flatten)) ((List.take [p, List.replicate (((16 : Int) - (↑p.length : Int) % (16 : Int)) % (16 : Int)).toNat (0 : BitVec (8 : Nat))].flatten.length (List.drop (0 : Nat) [p, List.replicate (((16 : Int) - (↑p.length : Int) % (16 : Int)) % (16 : Int)).toNat (0 : BitVec (8 : Nat))].flatten)).length / (16 : Nat))).flatten)).length : Int) - (32 : Int) ∧ (32 : Nat) ≤ (List.take (chC ks iv (List.take [p, List.replicate (((16 : Int) - (↑p.length : Int) % (16 : Int)) % (16 : Int)).toNat (0 : BitVec (8 : Nat))].flatten.length (List.drop (0 : Nat) [p, List.replicate (((16 : Int) - (↑p.length : Int) % (16 : Int)) % (16 : Int)).toNat (0 : BitVec (8 : Nat))].flatten)) ((List.take [p, List.replicate (((16 : Int) - (↑p.length : Int) % (16 : Int)) % (16 : Int)).toNat (0 : BitVec (8 : Nat))].flatten.length (List.drop (0 : Nat) [p, List.replicate (((16 : Int) - (↑p.length : Int) % (16 : Int)) % (16 : Int)).toNat (0 : BitVec (8 : Nat))].flatten)).length / (16 : Nat))).flatten.length (List.drop (0 : Nat) (chC ks iv (List.take [p, List.replicate (((16 : Int) - (↑p.length : Int) % (16 : Int)) % (16 : Int)).toNat (0 : BitVec (8 : Nat))].flatten.length (List.drop (0 : Nat) [p, List.replicate (((16 : Int) - (↑p.length : Int) % (16 : Int)) % (16 : Int)).toNat (0 : BitVec (8 : Nat))].flatten)) ((List.take [p, List.replicate (((16 : Int) - (↑p.length : Int) % (16 : Int)) % (16 : Int)).toNat (0 : BitVec (8 : Nat))].flatten.length (List.drop (0 : Nat) [p, List.replicate (((16 : Int) - (↑p.length : Int) % (16 : Int)) % (16 : Int)).toNat (0 : BitVec (8 : Nat))].flatten)).length / (16 : Nat))).flatten)).length ∧ (List.take (chC ks iv (List.take [p, List.replicate (((16 : Int) - (↑p.length : Int) % (16 : Int)) % (16 : Int)).toNat (0 : BitVec (8 : Nat))].flatten.length (List.drop (0 : Nat) [p, List.replicate (((16 : Int) - (↑p.length : Int) % (16 : Int)) % (16 : Int)).toNat (0 : BitVec (8 : Nat))].flatten)) ((List.take [p, List.replicate (((16 : Int) - (↑p.length : Int) % (16 : Int)) % (16 : Int)).toNat (0 : BitVec (8 : Nat))].flatten.length (List.drop (0 : Nat) [p, List.replicate (((16 : Int) - (↑p.length : Int) % (16 : Int)) % (16 : Int)).toNat (0 : BitVec (8 : Nat))].flatten)).length / (16 : Nat))).flatten.length (List.drop (0 : Nat) (chC ks iv (List.take [p, List.replicate (((16 : Int) - (↑p.length : Int) % (16 : Int)) % (16 : Int)).toNat (0 : BitVec (8 : Nat))].flatten.length (List.drop (0 : Nat) [p, List.replicate (((16 : Int) - (↑p.length : Int) % (16 : Int)) % (16 : Int)).toNat (0 : BitVec (8 : Nat))].flatten)) ((List.take [p, List.replicate (((16 : Int) - (↑p.length : Int) % (16 : Int)) % (16 : Int)).toNat (0 : BitVec (8 : Nat))].flatten.length (List.drop (0 : Nat) [p, List.replicate (((16 : Int) - (↑p.length : Int) % (16 : Int)) % (16 : Int)).toNat (0 : BitVec (8 : Nat))].flatten)).length / (16 : Nat))).flatten)).length ≤ (200000 : Nat)) ∧ ((0 : Int) ≤ (↑p.length : Int) ∧ (↑p.length : Int) ≤ (↑(List.take (chC ks iv (List.take [p, List.replicate (((16 : Int) - (↑p.length : Int) % (16 : Int)) % (16 : Int)).toNat (0 : BitVec (8 : Nat))].flatten.length (List.drop (0 : Nat) [p, List.replicate (((16 : Int) - (↑p.length : Int) % (16 : Int)) % (16 : Int)).toNat (0 : BitVec (8 : Nat))].flatten)) ((List.take [p, List.replicate (((16 : Int) - (↑p.length : Int) % (16 : Int)) % (16 : Int)).toNat (0 : BitVec (8 : Nat))].flatten.length (List.drop (0 : Nat) [p, List.replicate (((16 : Int) - (↑p.length : Int) % (16 : Int)) % (16 : Int)).toNat (0 : BitVec (8 : Nat))].flatten)).length / (16 : Nat))).flatten.length (List.drop (0 : Nat) (chC ks iv (List.take [p, List.replicate (((16 : Int) - (↑p.length : Int) % (16 : Int)) % (16 : Int)).toNat (0 : BitVec (8 : Nat))].flatten.length (List.drop (0 : Nat) [p, List.replicate (((16 : Int) - (↑p.length : Int) % (16 : Int)) % (16 : Int)).toNat (0 : BitVec (8 : Nat))].flatten)) ((List.take [p, List.replicate (((16 : Int) - (↑p.length : Int) % (16 : Int)) % (16 : Int)).toNat (0 : BitVec (8 : Nat))].flatten.length (List.drop (0 : Nat) [p, List.replicate (((16 : Int) - (↑p.length : Int) % (16 : Int)) % (16 : Int)).toNat (0 : BitVec (8 : Nat))].flatten)).length / (16 : Nat))).flatten)).length : Int)) ∧ ((0 : Int) ≤ (↑p.length : Int) ∧ (↑p.length : Int) ≤ (↑(↑p.length : Int).toNat : Int)) ∧ ((0 : Nat) + (0 : Nat) = (0 : Nat) ∧ (↑p.length : Int).toNat = p.length) ∧ ((List.take (chC ks iv (List.take [p, List.replicate (((16 : Int) - (↑p.length : Int) % (16 : Int)) % (16 : Int)).toNat (0 : BitVec (8 : Nat))].flatten.length (List.drop (0 : Nat) [p, List.replicate (((16 : Int) - (↑p.length : Int) % (16 : Int)) % (16 : Int)).toNat (0 : BitVec (8 : Nat))].flatten)) ((List.take [p, List.replicate (((16 : Int) - (↑p.length : Int) % (16 : Int)) % (16 : Int)).toNat (0 : BitVec (8 : Nat))].flatten.length (List.drop (0 : Nat) [p, List.replicate (((16 : Int) - (↑p.length : Int) % (16 : Int)) % (16 : Int)).toNat (0 : BitVec (8 : Nat))].flatten)).length / (16 : Nat))).flatten.length (List.drop (0 : Nat) (chC ks iv (List.take [p, List.replicate (((16 : Int) - (↑p.length : Int) % (16 : Int)) % (16 : Int)).toNat (0 : BitVec (8 : Nat))].flatten.length (List.drop (0 : Nat) [p, List.replicate (((16 : Int) - (↑p.length : Int) % (16 : Int)) % (16 : Int)).toNat (0 : BitVec (8 : Nat))].flatten)) ((List.take [p, List.replicate (((16 : Int) - (↑p.length : Int) % (16 : Int)) % (16 : Int)).toNat (0 : BitVec (8 : Nat))].flatten.length (List.drop (0 : Nat) [p, List.replicate (((16 : Int) - (↑p.length : Int) % (16 : Int)) % (16 : Int)).toNat (0 : BitVec (8 : Nat))].flatten)).length / (16 : Nat))).flatten)).length = padN p.length ∧ exch (List.take (chC ks iv (List.take [p, List.replicate (((16 : Int) - (↑p.length : Int) % (16 : Int)) % (16 : Int)).toNat (0 : BitVec (8 : Nat))].flatten.length (List.drop (0 : Nat) [p, List.replicate (((16 : Int) - (↑p.length : Int) % (16 : Int)) % (16 : Int)).toNat (0 : BitVec (8 : Nat))].flatten)) ((List.take [p, List.replicate (((16 : Int) - (↑p.length : Int) % (16 : Int)) % (16 : Int)).toNat (0 : BitVec (8 : Nat))].flatten.length (List.drop (0 : Nat) [p, List.replicate (((16 : Int) - (↑p.length : Int) % (16 : Int)) % (16 : Int)).toNat (0 : BitVec (8 : Nat))].flatten)).length / (16 : Nat))).flatten.length (List.drop (0 : Nat) (chC ks iv (List.take [p, List.replicate (((16 : Int) - (↑p.length : Int) % (16 : Int)) % (16 : Int)).toNat (0 : BitVec (8 : Nat))].flatten.length (List.drop (0 : Nat) [p, List.replicate (((16 : Int) - (↑p.length : Int) % (16 : Int)) % (16 : Int)).toNat (0 : BitVec (8 : Nat))].flatten)) ((List.take [p, List.replicate (((16 : Int) - (↑p.length : Int) % (16 : Int)) % (16 : Int)).toNat (0 : BitVec (8 : Nat))].flatten.length (List.drop (0 : Nat) [p, List.replicate (((16 : Int) - (↑p.length : Int) % (16 : Int)) % (16 : Int)).toNat (0 : BitVec (8 : Nat))].flatten)).length / (16 : Nat))).flatten)) (List.take (chC ks iv (List.take [p, List.replicate (((16 : Int) - (↑p.length : Int) % (16 : Int)) % (16 : Int)).toNat (0 : BitVec (8 : Nat))].flatten.length (List.drop (0 : Nat) [p, List.replicate (((16 : Int) - (↑p.length : Int) % (16 : Int)) % (16 : Int)).toNat (0 : BitVec (8 : Nat))].flatten)) ((List.take [p, List.replicate (((16 : Int) - (↑p.length : Int) % (16 : Int)) % (16 : Int)).toNat (0 : BitVec (8 : Nat))].flatten.length (List.drop (0 : Nat) [p, List.replicate (((16 : Int) - (↑p.length : Int) % (16 : Int)) % (16 : Int)).toNat (0 : BitVec (8 : Nat))].flatten)).length / (16 : Nat))).flatten.length (List.drop (0 : Nat) (chC ks iv (List.take [p, List.replicate (((16 : Int) - (↑p.length : Int) % (16 : Int)) % (16 : Int)).toNat (0 : BitVec (8 : Nat))].flatten.length (List.drop (0 : Nat) [p, List.replicate (((16 : Int) - (↑p.length : Int) % (16 : Int)) % (16 : Int)).toNat (0 : BitVec (8 : Nat))].flatten)) ((List.take [p, List.replicate (((16 : Int) - (↑p.length : Int) % (16 : Int)) % (16 : Int)).toNat (0 : BitVec (8 : Nat))].flatten.length (List.drop (0 : Nat) [p, List.replicate (((16 : Int) - (↑p.length : Int) % (16 : Int)) % (16 : Int)).toNat (0 : BitVec (8 : Nat))].flatten)).length / (16 : Nat))).flatten)).length = encF ks iv p) ∧ True)) := by kernel_rfl
theorem vc_cts_mode_encrypt_0 (f g ks iv p : List (BitVec 8)) (n m vn vm : Nat) (hp : f = sbox ∧ g = ibox ∧ n = 11 ∧ m = 176 ∧ vn = 16 ∧ vm = 16 ∧ iv.length = 16 ∧ 16 ≤ p.length ∧ p.length ≤ 131072) : (wpFn E_cts_mode_encrypt 4000 (.mk [] []) (f34.body.getD .skip) f34.ntmps f34.results.toList [.agg [.one (.ip [.b8s 256 f, .b8s 256 g, .one (.sl 16 n (.b8s m ks))] 0), .one (.sl 1 vn (.b8s vm iv))], .sl 1 p.length (.b8s p.length p)] [] ⟨.osub 0 1 0 p.length, [], [[.b8s (padN p.length) (encF ks iv p), .spare]]⟩).Holds := by
  refine holdsI (ob_cts_mode_encrypt_0 f g ks iv p n m vn vm hp) ?_
  refine ⟨⟨(by omega), (by decide)⟩, ?a0, ⟨(by omega), (by decide)⟩, ⟨(by omega), rfl, (by omega)⟩, rfl, rfl, ⟨?_, ?_⟩, (by omega), (by decide), ⟨?_, ?_, (by omega), (by omega), (by omega), (by omega), (by omega), rfl, rfl, ?_, ?_⟩, rfl, ⟨?_, ?_⟩, bsplit_dec (fun h0 => ⟨⟨rfl, ?_⟩, ⟨?_, ?_⟩, trivial⟩) (fun h1 => ⟨?_, (by omega), ⟨?_, ?_, ?_, ?_, ?_⟩, ⟨(by omega), ?_⟩, ⟨(by omega), (by omega)⟩, ⟨(by decide), (by omega)⟩, ⟨?_, ?_⟩, trivial⟩)⟩
  case a0 => (simp only [inI64]; omega)
  · obtain ⟨rfl, rfl, rfl, rfl, rfl, rfl, hv, h16, hb⟩ := hp
    have hpl := padN_le p.length
    try simp only [tk_all, pad_flat]
    first
      | done
      | rfl
      | (show 2 ≤ 4294967296; decide)
      | (rw [ctsPad_len]; exact padN_mod _)
      | (rw [ctsPad_len]; omega)
      | (rw [chF_len _ _ _ hv]; omega)
      | (rw [chC_len, ctsPad_len]; omega)
      | (simp only [inI64, chF_len _ _ _ hv]; omega)
      | exact (encF_16 _ _ _ (by omega)).symm
      | exact (encF_n _ _ _ hv (by omega)).symm
      | (rw [chF_len _ _ _ hv, show p.length = 16 by omega, padN_16])
      | (rw [chF_len _ _ _ hv]; exact padN_big _ h16 (by omega))
      | (have h32 := padN_big _ h16 (show ¬ p.length = 16 by omega); rw [chF_len _ _ _ hv]; omega)
      | (rw [chF_len _ _ _ hv])
  · obtain ⟨rfl, rfl, rfl, rfl, rfl, rfl, hv, h16, hb⟩ := hp
    have hpl := padN_le p.length
    try simp only [tk_all, pad_flat]
    first
      | done
      | rfl
      | (show 2 ≤ 4294967296; decide)
      | (rw [ctsPad_len]; exact padN_mod _)
      | (rw [ctsPad_len]; omega)
      | (rw [chF_len _ _ _ hv]; omega)
      | (rw [chC_len, ctsPad_len]; omega)
      | (simp only [inI64, chF_len _ _ _ hv]; omega)
      | exact (encF_16 _ _ _ (by omega)).symm
      | exact (encF_n _ _ _ hv (by omega)).symm
      | (rw [chF_len _ _ _ hv, show p.length = 16 by omega, padN_16])
      | (rw [chF_len _ _ _ hv]; exact padN_big _ h16 (by omega))
      | (have h32 := padN_big _ h16 (show ¬ p.length = 16 by omega); rw [chF_len _ _ _ hv]; omega)
      | (rw [chF_len _ _ _ hv])
  · exact hp.1
  · exact hp.2.1
  · obtain ⟨rfl, rfl, rfl, rfl, rfl, rfl, hv, h16, hb⟩ := hp
    have hpl := padN_le p.length
    try simp only [tk_all, pad_flat]
    first
      | done
      | rfl
      | (show 2 ≤ 4294967296; decide)
      | (rw [ctsPad_len]; exact padN_mod _)
      | (rw [ctsPad_len]; omega)
      | (rw [chF_len _ _ _ hv]; omega)
      | (rw [chC_len, ctsPad_len]; omega)
      | (simp only [inI64, chF_len _ _ _ hv]; omega)
      | exact (encF_16 _ _ _ (by omega)).symm
      | exact (encF_n _ _ _ hv (by omega)).symm
      | (rw [chF_len _ _ _ hv, show p.length = 16 by omega, padN_16])
      | (rw [chF_len _ _ _ hv]; exact padN_big _ h16 (by omega))
      | (have h32 := padN_big _ h16 (show ¬ p.length = 16 by omega); rw [chF_len _ _ _ hv]; omega)
      | (rw [chF_len _ _ _ hv])
  · obtain ⟨rfl, rfl, rfl, rfl, rfl, rfl, hv, h16, hb⟩ := hp
    have hpl := padN_le p.length
    try simp only [tk_all, pad_flat]
    first
      | done
      | rfl
      | (show 2 ≤ 4294967296; decide)
      | (rw [ctsPad_len]; exact padN_mod _)
      | (rw [ctsPad_len]; omega)
      | (rw [chF_len _ _ _ hv]; omega)
      | (rw [chC_len, ctsPad_len]; omega)
      | (simp only [inI64, chF_len _ _ _ hv]; omega)
      | exact (encF_16 _ _ _ (by omega)).symm
      | exact (encF_n _ _ _ hv (by omega)).symm
      | (rw [chF_len _ _ _ hv, show p.length = 16 by omega, padN_16])
      | (rw [chF_len _ _ _ hv]; exact padN_big _ h16 (by omega))
      | (have h32 := padN_big _ h16 (show ¬ p.length = 16 by omega); rw [chF_len _ _ _ hv]; omega)
      | (rw [chF_len _ _ _ hv])
  · obtain ⟨rfl, rfl, rfl, rfl, rfl, rfl, hv, h16, hb⟩ := hp
    have hpl := padN_le p.length
    try simp only [tk_all, pad_flat]
    first
      | done
      | rfl
      | (show 2 ≤ 4294967296; decide)
      | (rw [ctsPad_len]; exact padN_mod _)
      | (rw [ctsPad_len]; omega)
      | (rw [chF_len _ _ _ hv]; omega)
      | (rw [chC_len, ctsPad_len]; omega)
      | (simp only [inI64, chF_len _ _ _ hv]; omega)
      | exact (encF_16 _ _ _ (by omega)).symm
      | exact (encF_n _ _ _ hv (by omega)).symm
      | (rw [chF_len _ _ _ hv, show p.length = 16 by omega, padN_16])
      | (rw [chF_len _ _ _ hv]; exact padN_big _ h16 (by omega))
      | (have h32 := padN_big _ h16 (show ¬ p.length = 16 by omega); rw [chF_len _ _ _ hv]; omega)
      | (rw [chF_len _ _ _ hv])
  · obtain ⟨rfl, rfl, rfl, rfl, rfl, rfl, hv, h16, hb⟩ := hp
    have hpl := padN_le p.length
    try simp only [tk_all, pad_flat]
    first
      | done
      | rfl
      | (show 2 ≤ 4294967296; decide)
      | (rw [ctsPad_len]; exact padN_mod _)
      | (rw [ctsPad_len]; omega)
      | (rw [chF_len _ _ _ hv]; omega)
      | (rw [chC_len, ctsPad_len]; omega)
      | (simp only [inI64, chF_len _ _ _ hv]; omega)
      | exact (encF_16 _ _ _ (by omega)).symm
      | exact (encF_n _ _ _ hv (by omega)).symm
      | (rw [chF_len _ _ _ hv, show p.length = 16 by omega, padN_16])
      | (rw [chF_len _ _ _ hv]; exact padN_big _ h16 (by omega))
      | (have h32 := padN_big _ h16 (show ¬ p.length = 16 by omega); rw [chF_len _ _ _ hv]; omega)
      | (rw [chF_len _ _ _ hv])
  · obtain ⟨rfl, rfl, rfl, rfl, rfl, rfl, hv, h16, hb⟩ := hp
    have hpl := padN_le p.length
    try simp only [tk_all, pad_flat]
    first
      | done
      | rfl
      | (show 2 ≤ 4294967296; decide)
      | (rw [ctsPad_len]; exact padN_mod _)
      | (rw [ctsPad_len]; omega)
      | (rw [chF_len _ _ _ hv]; omega)
      | (rw [chC_len, ctsPad_len]; omega)
      | (simp only [inI64, chF_len _ _ _ hv]; omega)
      | exact (encF_16 _ _ _ (by omega)).symm
      | exact (encF_n _ _ _ hv (by omega)).symm
      | (rw [chF_len _ _ _ hv, show p.length = 16 by omega, padN_16])
      | (rw [chF_len _ _ _ hv]; exact padN_big _ h16 (by omega))
      | (have h32 := padN_big _ h16 (show ¬ p.length = 16 by omega); rw [chF_len _ _ _ hv]; omega)
      | (rw [chF_len _ _ _ hv])
  · obtain ⟨rfl, rfl, rfl, rfl, rfl, rfl, hv, h16, hb⟩ := hp
    have hpl := padN_le p.length
    try simp only [tk_all, pad_flat]
    first
      | done
      | rfl
      | (show 2 ≤ 4294967296; decide)
      | (rw [ctsPad_len]; exact padN_mod _)
      | (rw [ctsPad_len]; omega)
      | (rw [chF_len _ _ _ hv]; omega)
      | (rw [chC_len, ctsPad_len]; omega)
      | (simp only [inI64, chF_len _ _ _ hv]; omega)
      | exact (encF_16 _ _ _ (by omega)).symm
      | exact (encF_n _ _ _ hv (by omega)).symm
      | (rw [chF_len _ _ _ hv, show p.length = 16 by omega, padN_16])
      | (rw [chF_len _ _ _ hv]; exact padN_big _ h16 (by omega))
      | (have h32 := padN_big _ h16 (show ¬ p.length = 16 by omega); rw [chF_len _ _ _ hv]; omega)
      | (rw [chF_len _ _ _ hv])
  · obtain ⟨rfl, rfl, rfl, rfl, rfl, rfl, hv, h16, hb⟩ := hp
    have hpl := padN_le p.length
    try simp only [tk_all, pad_flat]
    first
      | done
      | rfl
      | (show 2 ≤ 4294967296; decide)
      | (rw [ctsPad_len]; exact padN_mod _)
      | (rw [ctsPad_len]; omega)
      | (rw [chF_len _ _ _ hv]; omega)
      | (rw [chC_len, ctsPad_len]; omega)
      | (simp only [inI64, chF_len _ _ _ hv]; omega)
      | exact (encF_16 _ _ _ (by omega)).symm
      | exact (encF_n _ _ _ hv (by omega)).symm
      | (rw [chF_len _ _ _ hv, show p.length = 16 by omega, padN_16])
      | (rw [chF_len _ _ _ hv]; exact padN_big _ h16 (by omega))
      | (have h32 := padN_big _ h16 (show ¬ p.length = 16 by omega); rw [chF_len _ _ _ hv]; omega)
      | (rw [chF_len _ _ _ hv])
  · obtain ⟨rfl, rfl, rfl, rfl, rfl, rfl, hv, h16, hb⟩ := hp
    have hpl := padN_le p.length
    try simp only [tk_all, pad_flat]
    first
      | done
      | rfl
      | (show 2 ≤ 4294967296; decide)
      | (rw [ctsPad_len]; exact padN_mod _)
      | (rw [ctsPad_len]; omega)
      | (rw [chF_len _ _ _ hv]; omega)
      | (rw [chC_len, ctsPad_len]; omega)
      | (simp only [inI64, chF_len _ _ _ hv]; omega)
      | exact (encF_16 _ _ _ (by omega)).symm
      | exact (encF_n _ _ _ hv (by omega)).symm
      | (rw [chF_len _ _ _ hv, show p.length = 16 by omega, padN_16])
      | (rw [chF_len _ _ _ hv]; exact padN_big _ h16 (by omega))
      | (have h32 := padN_big _ h16 (show ¬ p.length = 16 by omega); rw [chF_len _ _ _ hv]; omega)
      | (rw [chF_len _ _ _ hv])
  · obtain ⟨rfl, rfl, rfl, rfl, rfl, rfl, hv, h16, hb⟩ := hp
    have hpl := padN_le p.length
    try simp only [tk_all, pad_flat]
    first
      | done
      | rfl
      | (show 2 ≤ 4294967296; decide)
      | (rw [ctsPad_len]; exact padN_mod _)
      | (rw [ctsPad_len]; omega)
      | (rw [chF_len _ _ _ hv]; omega)
      | (rw [chC_len, ctsPad_len]; omega)
      | (simp only [inI64, chF_len _ _ _ hv]; omega)
      | exact (encF_16 _ _ _ (by omega)).symm
      | exact (encF_n _ _ _ hv (by omega)).symm
      | (rw [chF_len _ _ _ hv, show p.length = 16 by omega, padN_16])
      | (rw [chF_len _ _ _ hv]; exact padN_big _ h16 (by omega))
      | (have h32 := padN_big _ h16 (show ¬ p.length = 16 by omega); rw [chF_len _ _ _ hv]; omega)
      | (rw [chF_len _ _ _ hv])
  · obtain ⟨rfl, rfl, rfl, rfl, rfl, rfl, hv, h16, hb⟩ := hp
    have hpl := padN_le p.length
    try simp only [tk_all, pad_flat]
    first
      | done
      | rfl
      | (show 2 ≤ 4294967296; decide)
      | (rw [ctsPad_len]; exact padN_mod _)
      | (rw [ctsPad_len]; omega)
      | (rw [chF_len _ _ _ hv]; omega)
      | (rw [chC_len, ctsPad_len]; omega)
      | (simp only [inI64, chF_len _ _ _ hv]; omega)
      | exact (encF_16 _ _ _ (by omega)).symm
      | exact (encF_n _ _ _ hv (by omega)).symm
      | (rw [chF_len _ _ _ hv, show p.length = 16 by omega, padN_16])
      | (rw [chF_len _ _ _ hv]; exact padN_big _ h16 (by omega))
      | (have h32 := padN_big _ h16 (show ¬ p.length = 16 by omega); rw [chF_len _ _ _ hv]; omega)
      | (rw [chF_len _ _ _ hv])
  · obtain ⟨rfl, rfl, rfl, rfl, rfl, rfl, hv, h16, hb⟩ := hp
    have hpl := padN_le p.length
    try simp only [tk_all, pad_flat]
    first
      | done
      | rfl
      | (show 2 ≤ 4294967296; decide)
      | (rw [ctsPad_len]; exact padN_mod _)
      | (rw [ctsPad_len]; omega)
      | (rw [chF_len _ _ _ hv]; omega)
      | (rw [chC_len, ctsPad_len]; omega)
      | (simp only [inI64, chF_len _ _ _ hv]; omega)
      | exact (encF_16 _ _ _ (by omega)).symm
      | exact (encF_n _ _ _ hv (by omega)).symm
      | (rw [chF_len _ _ _ hv, show p.length = 16 by omega, padN_16])
      | (rw [chF_len _ _ _ hv]; exact padN_big _ h16 (by omega))
      | (have h32 := padN_big _ h16 (show ¬ p.length = 16 by omega); rw [chF_len _ _ _ hv]; omega)
      | (rw [chF_len _ _ _ hv])
  · obtain ⟨rfl, rfl, rfl, rfl, rfl, rfl, hv, h16, hb⟩ := hp
    have hpl := padN_le p.length
    try simp only [tk_all, pad_flat]
    first
      | done
      | rfl
      | (show 2 ≤ 4294967296; decide)
      | (rw [ctsPad_len]; exact padN_mod _)
      | (rw [ctsPad_len]; omega)
      | (rw [chF_len _ _ _ hv]; omega)
      | (rw [chC_len, ctsPad_len]; omega)
      | (simp only [inI64, chF_len _ _ _ hv]; omega)
      | exact (encF_16 _ _ _ (by omega)).symm
      | exact (encF_n _ _ _ hv (by omega)).symm
      | (rw [chF_len _ _ _ hv, show p.length = 16 by omega, padN_16])
      | (rw [chF_len _ _ _ hv]; exact padN_big _ h16 (by omega))
      | (have h32 := padN_big _ h16 (show ¬ p.length = 16 by omega); rw [chF_len _ _ _ hv]; omega)
      | (rw [chF_len _ _ _ hv])
  · obtain ⟨rfl, rfl, rfl, rfl, rfl, rfl, hv, h16, hb⟩ := hp
    have hpl := padN_le p.length
    try simp only [tk_all, pad_flat]
    first
      | done
      | rfl
      | (show 2 ≤ 4294967296; decide)
      | (rw [ctsPad_len]; exact padN_mod _)
      | (rw [ctsPad_len]; omega)
      | (rw [chF_len _ _ _ hv]; omega)
      | (rw [chC_len, ctsPad_len]; omega)
      | (simp only [inI64, chF_len _ _ _ hv]; omega)
      | exact (encF_16 _ _ _ (by omega)).symm
      | exact (encF_n _ _ _ hv (by omega)).symm
      | (rw [chF_len _ _ _ hv, show p.length = 16 by omega, padN_16])
      | (rw [chF_len _ _ _ hv]; exact padN_big _ h16 (by omega))
      | (have h32 := padN_big _ h16 (show ¬ p.length = 16 by omega); rw [chF_len _ _ _ hv]; omega)
      | (rw [chF_len _ _ _ hv])
  · obtain ⟨rfl, rfl, rfl, rfl, rfl, rfl, hv, h16, hb⟩ := hp
    have hpl := padN_le p.length
    try simp only [tk_all, pad_flat]
    first
      | done
      | rfl
      | (show 2 ≤ 4294967296; decide)
      | (rw [ctsPad_len]; exact padN_mod _)
      | (rw [ctsPad_len]; omega)
      | (rw [chF_len _ _ _ hv]; omega)
      | (rw [chC_len, ctsPad_len]; omega)
      | (simp only [inI64, chF_len _ _ _ hv]; omega)
      | exact (encF_16 _ _ _ (by omega)).symm
      | exact (encF_n _ _ _ hv (by omega)).symm
      | (rw [chF_len _ _ _ hv, show p.length = 16 by omega, padN_16])
      | (rw [chF_len _ _ _ hv]; exact padN_big _ h16 (by omega))
      | (have h32 := padN_big _ h16 (show ¬ p.length = 16 by omega); rw [chF_len _ _ _ hv]; omega)
      | (rw [chF_len _ _ _ hv])
  · obtain ⟨rfl, rfl, rfl, rfl, rfl, rfl, hv, h16, hb⟩ := hp
    have hpl := padN_le p.length
    try simp only [tk_all, pad_flat]
    first
      | done
      | rfl
      | (show 2 ≤ 4294967296; decide)
      | (rw [ctsPad_len]; exact padN_mod _)
      | (rw [ctsPad_len]; omega)
      | (rw [chF_len _ _ _ hv]; omega)
      | (rw [chC_len, ctsPad_len]; omega)
      | (simp only [inI64, chF_len _ _ _ hv]; omega)
      | exact (encF_16 _ _ _ (by omega)).symm
      | exact (encF_n _ _ _ hv (by omega)).symm
      | (rw [chF_len _ _ _ hv, show p.length = 16 by omega, padN_16])
      | (rw [chF_len _ _ _ hv]; exact padN_big _ h16 (by omega))
      | (have h32 := padN_big _ h16 (show ¬ p.length = 16 by omega); rw [chF_len _ _ _ hv]; omega)
      | (rw [chF_len _ _ _ hv])
  · obtain ⟨rfl, rfl, rfl, rfl, rfl, rfl, hv, h16, hb⟩ := hp
    have hpl := padN_le p.length
    try simp only [tk_all, pad_flat]
    first
      | done
      | rfl
      | (show 2 ≤ 4294967296; decide)
      | (rw [ctsPad_len]; exact padN_mod _)
      | (rw [ctsPad_len]; omega)
      | (rw [chF_len _ _ _ hv]; omega)
      | (rw [chC_len, ctsPad_len]; omega)
      | (simp only [inI64, chF_len _ _ _ hv]; omega)
      | exact (encF_16 _ _ _ (by omega)).symm
      | exact (encF_n _ _ _ hv (by omega)).symm
      | (rw [chF_len _ _ _ hv, show p.length = 16 by omega, padN_16])
      | (rw [chF_len _ _ _ hv]; exact padN_big _ h16 (by omega))
      | (have h32 := padN_big _ h16 (show ¬ p.length = 16 by omega); rw [chF_len _ _ _ hv]; omega)
      | (rw [chF_len _ _ _ hv])
noncomputable def post_cts_mode_encrypt : List SV → List (List Seg) → FPost := fun L H => match L, H with
  | [.agg [.one (.ip [.b8s 256 f, .b8s 256 g, .one (.sl 16 n (.b8s m ks))] 0), .one (.sl 1 vn (.b8s vm iv))], .sl 1 p_n (.b8s p_m p)], [] => .vc (f = sbox ∧ g = ibox ∧ n = 11 ∧ m = 176 ∧ vn = 16 ∧ vm = 16 ∧ iv.length = 16 ∧ 16 ≤ p.length ∧ p.length ≤ 131072) (.ret ⟨.osub 0 1 0 p.length, [], [[.b8s (padN p.length) (encF ks iv p), .spare]]⟩)
  | _, _ => .fail
noncomputable def S_cts_mode_encrypt : SE.Spec := specOf false [.gen, .bytes] post_cts_mode_encrypt
theorem cok_cts_mode_encrypt : CallOK prog Gl_cts_mode_encrypt 34 S_cts_mode_encrypt := by
  refine callOK_ofI (E := E_cts_mode_encrypt) (code := f34.body.getD .skip) E_cts_mode_encrypt_ok func34 (by kernel_rfl) (by kernel_rfl) fun L H out ht hp => ?_
  have hl := ht.lens
  clear ht
  unfold post_cts_mode_encrypt at hp
  split at hp
  · rename_i f g n m ks vn vm iv p_n p_m p
    have hm_p := hl.1.2.1.1
    have hn_p := hl.1.2.1.2
    obtain rfl : p_m = p.length := hm_p.symm
    obtain rfl : p_n = p.length := hn_p
    obtain ⟨hpre, hp⟩ := hp
    obtain rfl := hp
    exact ⟨_, _, vc_cts_mode_encrypt_0 f g ks iv p n m vn vm hpre⟩
  · exact hp.elim
end Go.Proofs.Try
/-! cts_checked__enc -/
namespace Go.Proofs.Try
open Go Go.SE
set_option maxRecDepth 100000
set_option maxHeartbeats 400000
set_option linter.unusedVariables false
attribute [local irreducible] mvI subI addIt mxC mxR mxK encI decI ksI nextK nk1 nk2 tm rl8 sbox ibox addB keyAt rsC rsR ruC ruR ivI encB decB shB subB unshB mixB unmixB rnd unrnd wI wK wJ lastJ lastW incB blkC lastC chC catC16 lastD unC ctsPad exch encF decC decF padN
noncomputable def Gl_cts_checked__enc : List (Nat × SV) := []
noncomputable def E_cts_checked__enc : Env := ⟨T, [(29, S_cts_open), (34, S_cts_mode_encrypt)], Gl_cts_checked__enc, []⟩
theorem E_cts_checked__enc_ok : EnvOK prog E_cts_checked__enc := ⟨T_ok, (.cons cok_cts_open (.cons cok_cts_mode_encrypt .nil)), mix_ok, FBOK.nil⟩
theorem ob_cts_checked__enc_0t (key iv p : List (BitVec 8)) (hp : iv.length ≤ 200) (hs0 : (!decide (key.length = 16 ∧ iv.length = 16)) = true) : (wpFn E_cts_checked__enc 4000 (.mk [] []) (f33.body.getD .skip) f33.ntmps f33.results.toList [.sl 1 key.length (.b8s key.length key), .sl 1 iv.length (.b8s iv.length iv), .sl 1 p.length (.b8s p.length p), .fn 34 [] []] [] ⟨.tup [.nils, .int 2], [], []⟩).holds = (iv.length ≤ (200 : Nat) ∧ bsplit (decide (key.length = (16 : Nat))) (bsplit (!decide ((if iv.length = (16 : Nat) then (0 : Int) else (2 : Int)) = (0 : Int))) ((if iv.length = (16 : Nat) then (0 : Int) else (2 : Int)) = (2 : Int) ∧ True) (bsplit (decide ((↑p.length : Int) < (16 : Int))) ((4 : Int) = (2 : Int) ∧ True) (bsplit (decide ((131072 : Int) < (↑p.length : Int))) ((5 : Int) = (2 : Int) ∧ True) ((176 : Nat) = (11 : Nat) * (16 : Nat) ∧ (sbox = sbox ∧ ibox = ibox ∧ (11 : Nat) = (11 : Nat) ∧ (176 : Nat) = (176 : Nat) ∧ iv.length = (16 : Nat) ∧ iv.length = (16 : Nat) ∧ iv.length = (16 : Nat) ∧ (16 : Nat) ≤ p.length ∧ p.length ≤ (131072 : Nat)) ∧ False)))) ((2 : Int) = (2 : Int) ∧ True)) := by kernel_rfl
theorem vc_cts_checked__enc_0t (key iv p : List (BitVec 8)) (hp : iv.length ≤ 200) (hs0 : (!decide (key.length = 16 ∧ iv.length = 16)) = true) : (wpFn E_cts_checked__enc 4000 (.mk [] []) (f33.body.getD .skip) f33.ntmps f33.results.toList [.sl 1 key.length (.b8s key.length key), .sl 1 iv.length (.b8s iv.length iv), .sl 1 p.length (.b8s p.length p), .fn 34 [] []] [] ⟨.tup [.nils, .int 2], [], []⟩).Holds := by
  refine holdsI (ob_cts_checked__enc_0t key iv p hp hs0) ?_
  refine ⟨(by omega), bsplit_dec (fun h0 => bsplit_not (fun h1 => ⟨(by omega), trivial⟩) (fun h2 => (by exfalso; (simp at *; omega)))) (fun h3 => ⟨rfl, trivial⟩)⟩
theorem ob_cts_checked__enc_0f (key iv p : List (BitVec 8)) (hp : iv.length ≤ 200) (hs0 : (!decide (key.length = 16 ∧ iv.length = 16)) = false) (hs1 : (decide (p.length < 16)) = true) : (wpFn E_cts_checked__enc 4000 (.mk [] []) (f33.body.getD .skip) f33.ntmps f33.results.toList [.sl 1 key.length (.b8s key.length key), .sl 1 iv.length (.b8s iv.length iv), .sl 1 p.length (.b8s p.length p), .fn 34 [] []] [] ⟨.tup [.nils, .int 4], [], []⟩).holds = (iv.length ≤ (200 : Nat) ∧ bsplit (decide (key.length = (16 : Nat))) (bsplit (!decide ((if iv.length = (16 : Nat) then (0 : Int) else (2 : Int)) = (0 : Int))) ((if iv.length = (16 : Nat) then (0 : Int) else (2 : Int)) = (4 : Int) ∧ True) (bsplit (decide ((↑p.length : Int) < (16 : Int))) ((4 : Int) = (4 : Int) ∧ True) (bsplit (decide ((131072 : Int) < (↑p.length : Int))) ((5 : Int) = (4 : Int) ∧ True) ((176 : Nat) = (11 : Nat) * (16 : Nat) ∧ (sbox = sbox ∧ ibox = ibox ∧ (11 : Nat) = (11 : Nat) ∧ (176 : Nat) = (176 : Nat) ∧ iv.length = (16 : Nat) ∧ iv.length = (16 : Nat) ∧ iv.length = (16 : Nat) ∧ (16 : Nat) ≤ p.length ∧ p.length ≤ (131072 : Nat)) ∧ False)))) ((2 : Int) = (4 : Int) ∧ True)) := by kernel_rfl
theorem vc_cts_checked__enc_0f (key iv p : List (BitVec 8)) (hp : iv.length ≤ 200) (hs0 : (!decide (key.length = 16 ∧ iv.length = 16)) = false) (hs1 : (decide (p.length < 16)) = true) : (wpFn E_cts_checked__enc 4000 (.mk [] []) (f33.body.getD .skip) f33.ntmps f33.results.toList [.sl 1 key.length (.b8s key.length key), .sl 1 iv.length (.b8s iv.length iv), .sl 1 p.length (.b8s p.length p), .fn 34 [] []] [] ⟨.tup [.nils, .int 4], [], []⟩).Holds := by
  refine holdsI (ob_cts_checked__enc_0f key iv p hp hs0 hs1) ?_
  refine ⟨(by omega), bsplit_dec (fun h0 => bsplit_not (fun h1 => ⟨?a0, trivial⟩) (fun h2 => bsplit_dec (fun h3 => ⟨rfl, trivial⟩) (fun h4 => (by exfalso; (simp at *; omega))))) (fun h5 => ⟨?a1, trivial⟩)⟩
  case a0 | a1 => (simp at *; omega)
theorem ob_cts_checked__enc_0g (key iv p : List (BitVec 8)) (hp : iv.length ≤ 200) (hs0 : (!decide (key.length = 16 ∧ iv.length = 16)) = false) (hs1 : (decide (p.length < 16)) = false) (hs2 : (decide (131072 < p.length)) = true) : (wpFn E_cts_checked__enc 4000 (.mk [] []) (f33.body.getD .skip) f33.ntmps f33.results.toList [.sl 1 key.length (.b8s key.length key), .sl 1 iv.length (.b8s iv.length iv), .sl 1 p.length (.b8s p.length p), .fn 34 [] []] [] ⟨.tup [.nils, .int 5], [], []⟩).holds = (iv.length ≤ (200 : Nat) ∧ bsplit (decide (key.length = (16 : Nat))) (bsplit (!decide ((if iv.length = (16 : Nat) then (0 : Int) else (2 : Int)) = (0 : Int))) ((if iv.length = (16 : Nat) then (0 : Int) else (2 : Int)) = (5 : Int) ∧ True) (bsplit (decide ((↑p.length : Int) < (16 : Int))) ((4 : Int) = (5 : Int) ∧ True) (bsplit (decide ((131072 : Int) < (↑p.length : Int))) ((5 : Int) = (5 : Int) ∧ True) ((176 : Nat) = (11 : Nat) * (16 : Nat) ∧ (sbox = sbox ∧ ibox = ibox ∧ (11 : Nat) = (11 : Nat) ∧ (176 : Nat) = (176 : Nat) ∧ iv.length = (16 : Nat) ∧ iv.length = (16 : Nat) ∧ iv.length = (16 : Nat) ∧ (16 : Nat) ≤ p.length ∧ p.length ≤ (131072 : Nat)) ∧ False)))) ((2 : Int) = (5 : Int) ∧ True)) := by kernel_rfl
theorem vc_cts_checked__enc_0g (key iv p : List (BitVec 8)) (hp : iv.length ≤ 200) (hs0 : (!decide (key.length = 16 ∧ iv.length = 16)) = false) (hs1 : (decide (p.length < 16)) = false) (hs2 : (decide (131072 < p.length)) = true) : (wpFn E_cts_checked__enc 4000 (.mk [] []) (f33.body.getD .skip) f33.ntmps f33.results.toList [.sl 1 key.length (.b8s key.length key), .sl 1 iv.length (.b8s iv.length iv), .sl 1 p.length (.b8s p.length p), .fn 34 [] []] [] ⟨.tup [.nils, .int 5], [], []⟩).Holds := by
  refine holdsI (ob_cts_checked__enc_0g key iv p hp hs0 hs1 hs2) ?_
  refine ⟨(by omega), bsplit_dec (fun h0 => bsplit_not (fun h1 => ⟨?a0, trivial⟩) (fun h2 => bsplit_dec (fun h3 => ⟨?a1, trivial⟩) (fun h4 => bsplit_dec (fun h5 => ⟨rfl, trivial⟩) (fun h6 => (by exfalso; (simp at *; omega)))))) (fun h7 => ⟨?a2, trivial⟩)⟩
  case a0 | a1 | a2 => (simp at *; omega)
theorem ob_cts_checked__enc_0h (key iv p : List (BitVec 8)) (hp : iv.length ≤ 200) (hs0 : (!decide (key.length = 16 ∧ iv.length = 16)) = false) (hs1 : (decide (p.length < 16)) = false) (hs2 : (decide (131072 < p.length)) = false) : (wpFn E_cts_checked__enc 4000 (.mk [] []) (f33.body.getD .skip) f33.ntmps f33.results.toList [.sl 1 key.length (.b8s key.length key), .sl 1 iv.length (.b8s iv.length iv), .sl 1 p.length (.b8s p.length p), .fn 34 [] []] [] ⟨.tup [.osub 0 1 0 p.length, .int 0], [], [[.b8s (padN p.length) (encF (ksI sbox key 10) iv p), .spare]]⟩).holds = (iv.length ≤ (200 : Nat) ∧ bsplit (decide (key.length = (16 : Nat))) (bsplit (!decide ((if iv.length = (16 : Nat) then (0 : Int) else (2 : Int)) = (0 : Int))) (p.length = (0 : Nat) ∧ (if iv.length = (16 : Nat) then (0 : Int) else (2 : Int)) = (0 : Int) ∧ (padN p.length = (0 : Nat) ∧ encF (ksI sbox key (10 : Nat)) iv p = nil8) ∧ True) (bsplit (decide ((↑p.length : Int) < (16 : Int))) (p.length = (0 : Nat) ∧ (4 : Int) = (0 : Int) ∧ (padN p.length = (0 : Nat) ∧ encF (ksI sbox key (10 : Nat)) iv p = nil8) ∧ True) (bsplit (decide ((131072 : Int) < (↑p.length : Int))) (p.length = (0 : Nat) ∧ (5 : Int) = (0 : Int) ∧ (padN p.length = (0 : Nat) ∧ encF (ksI sbox key (10 : Nat)) iv p = nil8) ∧ True) ((176 : Nat) = (11 : Nat) * (16 : Nat) ∧ (sbox = sbox ∧ ibox = ibox ∧ (11 : Nat) = (11 : Nat) ∧ (176 : Nat) = (176 : Nat) ∧ iv.length = (16 : Nat) ∧ iv.length = (16 : Nat) ∧ iv.length = (16 : Nat) ∧ (16 : Nat) ≤ p.length ∧ p.length ≤ (131072 : Nat)) ∧ ((0 : Nat) = (0 : Nat) ∧ p.length = p.length) ∧ (0 : Int) = (0 : Int) ∧ (padN p.length = padN p.length ∧ encF (ksI sbox key (10 : Nat)) iv p = encF (ksI sbox key (10 : Nat)) iv p) ∧ True)))) (p.length = (0 : Nat) ∧ (2 : Int) = (0 : Int) ∧ (padN p.length = (0 : Nat) ∧ encF (ksI sbox key (10 : Nat)) iv p = nil8) ∧ True)) := by kernel_rfl
theorem vc_cts_checked__enc_0h (key iv p : List (BitVec 8)) (hp : iv.length ≤ 200) (hs0 : (!decide (key.length = 16 ∧ iv.length = 16)) = false) (hs1 : (decide (p.length < 16)) = false) (hs2 : (decide (131072 < p.length)) = false) : (wpFn E_cts_checked__enc 4000 (.mk [] []) (f33.body.getD .skip) f33.ntmps f33.results.toList [.sl 1 key.length (.b8s key.length key), .sl 1 iv.length (.b8s iv.length iv), .sl 1 p.length (.b8s p.length p), .fn 34 [] []] [] ⟨.tup [.osub 0 1 0 p.length, .int 0], [], [[.b8s (padN p.length) (encF (ksI sbox key 10) iv p), .spare]]⟩).Holds := by
  refine holdsI (ob_cts_checked__enc_0h key iv p hp hs0 hs1 hs2) ?_
  refine ⟨(by omega), bsplit_dec (fun h0 => bsplit_not (fun h1 => ⟨?a0, ?a1, ⟨?a2, ?a3⟩, trivial⟩) (fun h2 => bsplit_dec (fun h3 => ⟨?a4, ?a5, ⟨?a6, ?a7⟩, trivial⟩) (fun h4 => bsplit_dec (fun h5 => ⟨?a8, ?a9, ⟨?a10, ?a11⟩, trivial⟩) (fun h6 => ⟨(by decide), ⟨rfl, rfl, rfl, rfl, (by omega), (by omega), (by omega), (by omega), (by omega)⟩, ⟨rfl, rfl⟩, rfl, ⟨rfl, rfl⟩, trivial⟩)))) (fun h7 => ⟨?a12, ?a13, ⟨?a14, ?a15⟩, trivial⟩)⟩
  case a0 | a1 | a2 | a3 | a4 | a5 | a6 | a7 | a8 | a9 | a10 | a11 | a12 | a13 | a14 | a15 => (simp at *; omega)
noncomputable def post_cts_checked__enc : List SV → List (List Seg) → FPost := fun L H => match L, H with
  | [.sl 1 key_n (.b8s key_m key), .sl 1 iv_n (.b8s iv_m iv), .sl 1 p_n (.b8s p_m p), .fn 34 [] []], [] => .vc (iv.length ≤ 200) (.split (!decide (key.length = 16 ∧ iv.length = 16)) (.ret ⟨.tup [.nils, .int 2], [], []⟩) (.split (decide (p.length < 16)) (.ret ⟨.tup [.nils, .int 4], [], []⟩) (.split (decide (131072 < p.length)) (.ret ⟨.tup [.nils, .int 5], [], []⟩) (.ret ⟨.tup [.osub 0 1 0 p.length, .int 0], [], [[.b8s (padN p.length) (encF (ksI sbox key 10) iv p), .spare]]⟩))))
  | _, _ => .fail
noncomputable def S_cts_checked__enc : SE.Spec := specOf false [.bytes, .bytes, .bytes, .gen] post_cts_checked__enc
theorem cok_cts_checked__enc : CallOK prog Gl_cts_checked__enc 33 S_cts_checked__enc := by
  refine callOK_ofI (E := E_cts_checked__enc) (code := f33.body.getD .skip) E_cts_checked__enc_ok func33 (by kernel_rfl) (by kernel_rfl) fun L H out ht hp => ?_
  have hl := ht.lens
  clear ht
  unfold post_cts_checked__enc at hp
  split at hp
  · rename_i key_n key_m key iv_n iv_m iv p_n p_m p
    have hm_key := hl.1.1.1
    have hn_key := hl.1.1.2
    have hm_iv := hl.1.2.1.1
    have hn_iv := hl.1.2.1.2
    have hm_p := hl.1.2.2.1.1
    have hn_p := hl.1.2.2.1.2
    obtain rfl : key_m = key.length := hm_key.symm
    obtain rfl : key_n = key.length := hn_key
    obtain rfl : iv_m = iv.length := hm_iv.symm
    obtain rfl : iv_n = iv.length := hn_iv
    obtain rfl : p_m = p.length := hm_p.symm
    obtain rfl : p_n = p.length := hn_p
    obtain ⟨hpre, hp⟩ := hp
    rcases FPost.ok_split hp with ⟨hs0, rfl⟩ | ⟨hs0, hp⟩
    · exact ⟨_, _, vc_cts_checked__enc_0t key iv p hpre hs0⟩
    rcases FPost.ok_split hp with ⟨hs1, rfl⟩ | ⟨hs1, hp⟩
    · exact ⟨_, _, vc_cts_checked__enc_0f key iv p hpre hs0 hs1⟩
    rcases FPost.ok_split hp with ⟨hs2, rfl⟩ | ⟨hs2, hp⟩
    · exact ⟨_, _, vc_cts_checked__enc_0g key iv p hpre hs0 hs1 hs2⟩
    obtain rfl := hp
    exact ⟨_, _, vc_cts_checked__enc_0h key iv p hpre hs0 hs1 hs2⟩
  · exact hp.elim
end Go.Proofs.Try
/-! cts_Encrypt -/
namespace Go.Proofs.Try
open Go Go.SE
set_option maxRecDepth 100000
set_option maxHeartbeats 400000
set_option linter.unusedVariables false
attribute [local irreducible] mvI subI addIt mxC mxR mxK encI decI ksI nextK nk1 nk2 tm rl8 sbox ibox addB keyAt rsC rsR ruC ruR ivI encB decB shB subB unshB mixB unmixB rnd unrnd wI wK wJ lastJ lastW incB blkC lastC chC catC16 lastD unC ctsPad exch encF decC decF padN
noncomputable def Gl_cts_Encrypt : List (Nat × SV) := []
noncomputable def E_cts_Encrypt : Env := ⟨T, [(33, S_cts_checked__enc)], Gl_cts_Encrypt, []⟩
theorem E_cts_Encrypt_ok : EnvOK prog E_cts_Encrypt := ⟨T_ok, (.cons cok_cts_checked__enc .nil), mix_ok, FBOK.nil⟩
theorem ob_cts_Encrypt_0t (key iv p : List (BitVec 8)) (hp : iv.length ≤ 200) (hs0 : (!decide (key.length = 16 ∧ iv.length = 16)) = true) : (wpFn E_cts_Encrypt 4000 (.mk [] []) (f16.body.getD .skip) f16.ntmps f16.results.toList [.sl 1 key.length (.b8s key.length key), .sl 1 iv.length (.b8s iv.length iv), .sl 1 p.length (.b8s p.length p)] [] ⟨.tup [.nils, .int 2], [], []⟩).holds = (iv.length ≤ (200 : Nat) ∧ bsplit (!decide (key.length = (16 : Nat) ∧ iv.length = (16 : Nat))) ((2 : Int) = (2 : Int) ∧ True) (bsplit (decide (p.length < (16 : Nat))) ((4 : Int) = (2 : Int) ∧ True) (bsplit (decide ((131072 : Nat) < p.length)) ((5 : Int) = (2 : Int) ∧ True) False))) := by kernel_rfl
theorem vc_cts_Encrypt_0t (key iv p : List (BitVec 8)) (hp : iv.length ≤ 200) (hs0 : (!decide (key.length = 16 ∧ iv.length = 16)) = true) : (wpFn E_cts_Encrypt 4000 (.mk [] []) (f16.body.getD .skip) f16.ntmps f16.results.toList [.sl 1 key.length (.b8s key.length key), .sl 1 iv.length (.b8s iv.length iv), .sl 1 p.length (.b8s p.length p)] [] ⟨.tup [.nils, .int 2], [], []⟩).Holds := by
  refine holdsI (ob_cts_Encrypt_0t key iv p hp hs0) ?_
  refine ⟨(by omega), bsplit_not (fun h0 => ⟨rfl, trivial⟩) (fun h1 => (by exfalso; (simp at *; omega)))⟩
theorem ob_cts_Encrypt_0f (key iv p : List (BitVec 8)) (hp : iv.length ≤ 200) (hs0 : (!decide (key.length = 16 ∧ iv.length = 16)) = false) (hs1 : (decide (p.length < 16)) = true) : (wpFn E_cts_Encrypt 4000 (.mk [] []) (f16.body.getD .skip) f16.ntmps f16.results.toList [.sl 1 key.length (.b8s key.length key), .sl 1 iv.length (.b8s iv.length iv), .sl 1 p.length (.b8s p.length p)] [] ⟨.tup [.nils, .int 4], [], []⟩).holds = (iv.length ≤ (200 : Nat) ∧ bsplit (!decide (key.length = (16 : Nat) ∧ iv.length = (16 : Nat))) ((2 : Int) = (4 : Int) ∧ True) (bsplit (decide (p.length < (16 : Nat))) ((4 : Int) = (4 : Int) ∧ True) (bsplit (decide ((131072 : Nat) < p.length)) ((5 : Int) = (4 : Int) ∧ True) False))) := by kernel_rfl
theorem vc_cts_Encrypt_0f (key iv p : List (BitVec 8)) (hp : iv.length ≤ 200) (hs0 : (!decide (key.length = 16 ∧ iv.length = 16)) = false) (hs1 : (decide (p.length < 16)) = true) : (wpFn E_cts_Encrypt 4000 (.mk [] []) (f16.body.getD .skip) f16.ntmps f16.results.toList [.sl 1 key.length (.b8s key.length key), .sl 1 iv.length (.b8s iv.length iv), .sl 1 p.length (.b8s p.length p)] [] ⟨.tup [.nils, .int 4], [], []⟩).Holds := by
  refine holdsI (ob_cts_Encrypt_0f key iv p hp hs0 hs1) ?_
  refine ⟨(by omega), bsplit_not (fun h0 => ⟨?a0, trivial⟩) (fun h1 => bsplit_dec (fun h2 => ⟨rfl, trivial⟩) (fun h3 => (by exfalso; (simp at *; omega))))⟩
  case a0 => (simp at *; omega)
theorem ob_cts_Encrypt_0g (key iv p : List (BitVec 8)) (hp : iv.length ≤ 200) (hs0 : (!decide (key.length = 16 ∧ iv.length = 16)) = false) (hs1 : (decide (p.length < 16)) = false) (hs2 : (decide (131072 < p.length)) = true) : (wpFn E_cts_Encrypt 4000 (.mk [] []) (f16.body.getD .skip) f16.ntmps f16.results.toList [.sl 1 key.length (.b8s key.length key), .sl 1 iv.length (.b8s iv.length iv), .sl 1 p.length (.b8s p.length p)] [] ⟨.tup [.nils, .int 5], [], []⟩).holds = (iv.length ≤ (200 : Nat) ∧ bsplit (!decide (key.length = (16 : Nat) ∧ iv.length = (16 : Nat))) ((2 : Int) = (5 : Int) ∧ True) (bsplit (decide (p.length < (16 : Nat))) ((4 : Int) = (5 : Int) ∧ True) (bsplit (decide ((131072 : Nat) < p.length)) ((5 : Int) = (5 : Int) ∧ True) False))) := by kernel_rfl
theorem vc_cts_Encrypt_0g (key iv p : List (BitVec 8)) (hp : iv.length ≤ 200) (hs0 : (!decide (key.length = 16 ∧ iv.length = 16)) = false) (hs1 : (decide (p.length < 16)) = false) (hs2 : (decide (131072 < p.length)) = true) : (wpFn E_cts_Encrypt 4000 (.mk [] []) (f16.body.getD .skip) f16.ntmps f16.results.toList [.sl 1 key.length (.b8s key.length key), .sl 1 iv.length (.b8s iv.length iv), .sl 1 p.length (.b8s p.length p)] [] ⟨.tup [.nils, .int 5], [], []⟩).Holds := by
  refine holdsI (ob_cts_Encrypt_0g key iv p hp hs0 hs1 hs2) ?_
  refine ⟨(by omega), bsplit_not (fun h0 => ⟨?a0, trivial⟩) (fun h1 => bsplit_dec (fun h2 => ⟨?a1, trivial⟩) (fun h3 => bsplit_dec (fun h4 => ⟨rfl, trivial⟩) (fun h5 => (by exfalso; (simp at *; omega)))))⟩
  case a0 | a1 => (simp at *; omega)
theorem ob_cts_Encrypt_0h (key iv p : List (BitVec 8)) (hp : iv.length ≤ 200) (hs0 : (!decide (key.length = 16 ∧ iv.length = 16)) = false) (hs1 : (decide (p.length < 16)) = false) (hs2 : (decide (131072 < p.length)) = false) : (wpFn E_cts_Encrypt 4000 (.mk [] []) (f16.body.getD .skip) f16.ntmps f16.results.toList [.sl 1 key.length (.b8s key.length key), .sl 1 iv.length (.b8s iv.length iv), .sl 1 p.length (.b8s p.length p)] [] ⟨.tup [.osub 0 1 0 p.length, .int 0], [], [[.b8s (padN p.length) (encF (ksI sbox key 10) iv p), .spare]]⟩).holds = (iv.length ≤ (200 : Nat) ∧ bsplit (!decide (key.length = (16 : Nat) ∧ iv.length = (16 : Nat))) (p.length = (0 : Nat) ∧ (2 : Int) = (0 : Int) ∧ (padN p.length = (0 : Nat) ∧ encF (ksI sbox key (10 : Nat)) iv p = nil8) ∧ True) (bsplit (decide (p.length < (16 : Nat))) (p.length = (0 : Nat) ∧ (4 : Int) = (0 : Int) ∧ (padN p.length = (0 : Nat) ∧ encF (ksI sbox key (10 : Nat)) iv p = nil8) ∧ True) (bsplit (decide ((131072 : Nat) < p.length)) (p.length = (0 : Nat) ∧ (5 : Int) = (0 : Int) ∧ (padN p.length = (0 : Nat) ∧ encF (ksI sbox key (10 : Nat)) iv p = nil8) ∧ True) (((0 : Nat) = (0 : Nat) ∧ p.length = p.length) ∧ (0 : Int) = (0 : Int) ∧ (padN p.length = padN p.length ∧ encF (ksI sbox key (10 : Nat)) iv p = encF (ksI sbox key (10 : Nat)) iv p) ∧ True)))) := by kernel_rfl
theorem vc_cts_Encrypt_0h (key iv p : List (BitVec 8)) (hp : iv.length ≤ 200) (hs0 : (!decide (key.length = 16 ∧ iv.length = 16)) = false) (hs1 : (decide (p.length < 16)) = false) (hs2 : (decide (131072 < p.length)) = false) : (wpFn E_cts_Encrypt 4000 (.mk [] []) (f16.body.getD .skip) f16.ntmps f16.results.toList [.sl 1 key.length (.b8s key.length key), .sl 1 iv.length (.b8s iv.length iv), .sl 1 p.length (.b8s p.length p)] [] ⟨.tup [.osub 0 1 0 p.length, .int 0], [], [[.b8s (padN p.length) (encF (ksI sbox key 10) iv p), .spare]]⟩).Holds := by
  refine holdsI (ob_cts_Encrypt_0h key iv p hp hs0 hs1 hs2) ?_
  refine ⟨(by omega), bsplit_not (fun h0 => ⟨?a0, ?a1, ⟨?a2, ?a3⟩, trivial⟩) (fun h1 => bsplit_dec (fun h2 => ⟨?a4, ?a5, ⟨?a6, ?a7⟩, trivial⟩) (fun h3 => bsplit_dec (fun h4 => ⟨?a8, ?a9, ⟨?a10, ?a11⟩, trivial⟩) (fun h5 => ⟨⟨rfl, rfl⟩, rfl, ⟨rfl, rfl⟩, trivial⟩)))⟩
  case a0 | a1 | a2 | a3 | a4 | a5 | a6 | a7 | a8 | a9 | a10 | a11 => (simp at *; omega)
noncomputable def post_cts_Encrypt : List SV → List (List Seg) → FPost := fun L H => match L, H with
  | [.sl 1 key_n (.b8s key_m key), .sl 1 iv_n (.b8s iv_m iv), .sl 1 p_n (.b8s p_m p)], [] => .vc (iv.length ≤ 200) (.split (!decide (key.length = 16 ∧ iv.length = 16)) (.ret ⟨.tup [.nils, .int 2], [], []⟩) (.split (decide (p.length < 16)) (.ret ⟨.tup [.nils, .int 4], [], []⟩) (.split (decide (131072 < p.length)) (.ret ⟨.tup [.nils, .int 5], [], []⟩) (.ret ⟨.tup [.osub 0 1 0 p.length, .int 0], [], [[.b8s (padN p.length) (encF (ksI sbox key 10) iv p), .spare]]⟩))))
  | _, _ => .fail
noncomputable def S_cts_Encrypt : SE.Spec := specOf false [.bytes, .bytes, .bytes] post_cts_Encrypt
theorem cok_cts_Encrypt : CallOK prog Gl_cts_Encrypt 16 S_cts_Encrypt := by
  refine callOK_ofI (E := E_cts_Encrypt) (code := f16.body.getD .skip) E_cts_Encrypt_ok func16 (by kernel_rfl) (by kernel_rfl) fun L H out ht hp => ?_
  have hl := ht.lens
  clear ht
  unfold post_cts_Encrypt at hp
  split at hp
  · rename_i key_n key_m key iv_n iv_m iv p_n p_m p
    have hm_key := hl.1.1.1
    have hn_key := hl.1.1.2
    have hm_iv := hl.1.2.1.1
    have hn_iv := hl.1.2.1.2
    have hm_p := hl.1.2.2.1.1
    have hn_p := hl.1.2.2.1.2
    obtain rfl : key_m = key.length := hm_key.symm
    obtain rfl : key_n = key.length := hn_key
    obtain rfl : iv_m = iv.length := hm_iv.symm
    obtain rfl : iv_n = iv.length := hn_iv
    obtain rfl : p_m = p.length := hm_p.symm
    obtain rfl : p_n = p.length := hn_p
    obtain ⟨hpre, hp⟩ := hp
    rcases FPost.ok_split hp with ⟨hs0, rfl⟩ | ⟨hs0, hp⟩
    · exact ⟨_, _, vc_cts_Encrypt_0t key iv p hpre hs0⟩
    rcases FPost.ok_split hp with ⟨hs1, rfl⟩ | ⟨hs1, hp⟩
    · exact ⟨_, _, vc_cts_Encrypt_0f key iv p hpre hs0 hs1⟩
    rcases FPost.ok_split hp with ⟨hs2, rfl⟩ | ⟨hs2, hp⟩
    · exact ⟨_, _, vc_cts_Encrypt_0g key iv p hpre hs0 hs1 hs2⟩
    obtain rfl := hp
    exact ⟨_, _, vc_cts_Encrypt_0h key iv p hpre hs0 hs1 hs2⟩
  · exact hp.elim
end Go.Proofs.Try
/-! law07_known -/
namespace Go.Proofs.Try
open Go Go.SE
set_option maxRecDepth 100000
set_option maxHeartbeats 400000
set_option linter.unusedVariables false
noncomputable def Gl_law07_known : List (Nat × SV) := []
noncomputable def E_law07_known : Env := ⟨T, [(16, S_cts_Encrypt)], Gl_law07_known, []⟩
theorem E_law07_known_ok : EnvOK prog E_law07_known := ⟨T_ok, (.cons cok_cts_Encrypt .nil), mix_ok, FBOK.nil⟩
theorem ob_law07_known_0  : (wpFn E_law07_known 4000 (.mk [] []) (f13.body.getD .skip) f13.ntmps f13.results.toList [] [] ⟨.bool true, [], []⟩).holds = (((16 : Nat) = (16 : Nat) ∧ (0 : Nat) < (16 : Nat)) ∧ ((0 : Int) ≤ (16 : Int) ∧ (16 : Int) = (16 : Int) ∧ (16 : Int) ≤ (1099511627776 : Int)) ∧ ((17 : Nat) = (17 : Nat) ∧ (0 : Nat) < (17 : Nat)) ∧ (16 : Nat) = (16 : Nat) ∧ (List.replicate (16 : Nat) (0 : BitVec (8 : Nat))).length ≤ (200 : Nat) ∧ ((0 : Int) ≤ (15 : Int) ∧ (15 : Int) = (15 : Int) ∧ (15 : Int) ≤ (1099511627776 : Int)) ∧ (16 : Nat) = (16 : Nat) ∧ (15 : Nat) = (15 : Nat) ∧ (List.replicate (16 : Nat) (0 : BitVec (8 : Nat))).length ≤ (200 : Nat) ∧ ((0 : Int) ≤ (15 : Int) ∧ (15 : Int) ≤ (↑(16 : Nat) : Int)) ∧ ((0 : Int) ≤ (16 : Int) ∧ (16 : Int) = (16 : Int) ∧ (16 : Int) ≤ (1099511627776 : Int)) ∧ (0 : Nat) + (15 : Nat) ≤ (16 : Nat) ∧ (16 : Nat) = (16 : Nat) ∧ (List.take (15 : Nat) (List.drop (0 : Nat) (List.replicate (16 : Nat) (0 : BitVec (8 : Nat))))).length ≤ (200 : Nat) ∧ (0 : Nat) + [BitVec.ofNat (8 : Nat) (73 : Nat), BitVec.ofNat (8 : Nat) (32 : Nat), BitVec.ofNat (8 : Nat) (119 : Nat), BitVec.ofNat (8 : Nat) (111 : Nat), BitVec.ofNat (8 : Nat) (117 : Nat), BitVec.ofNat (8 : Nat) (108 : Nat), BitVec.ofNat (8 : Nat) (100 : Nat), BitVec.ofNat (8 : Nat) (32 : Nat), BitVec.ofNat (8 : Nat) (108 : Nat), BitVec.ofNat (8 : Nat) (105 : Nat), BitVec.ofNat (8 : Nat) (107 : Nat), BitVec.ofNat (8 : Nat) (101 : Nat), BitVec.ofNat (8 : Nat) (32 : Nat), BitVec.ofNat (8 : Nat) (116 : Nat), BitVec.ofNat (8 : Nat) (104 : Nat), BitVec.ofNat (8 : Nat) (101 : Nat), BitVec.ofNat (8 : Nat) (32 : Nat)].length ≤ padN [BitVec.ofNat (8 : Nat) (73 : Nat), BitVec.ofNat (8 : Nat) (32 : Nat), BitVec.ofNat (8 : Nat) (119 : Nat), BitVec.ofNat (8 : Nat) (111 : Nat), BitVec.ofNat (8 : Nat) (117 : Nat), BitVec.ofNat (8 : Nat) (108 : Nat), BitVec.ofNat (8 : Nat) (100 : Nat), BitVec.ofNat (8 : Nat) (32 : Nat), BitVec.ofNat (8 : Nat) (108 : Nat), BitVec.ofNat (8 : Nat) (105 : Nat), BitVec.ofNat (8 : Nat) (107 : Nat), BitVec.ofNat (8 : Nat) (101 : Nat), BitVec.ofNat (8 : Nat) (32 : Nat), BitVec.ofNat (8 : Nat) (116 : Nat), BitVec.ofNat (8 : Nat) (104 : Nat), BitVec.ofNat (8 : Nat) (101 : Nat), BitVec.ofNat (8 : Nat) (32 : Nat)].length ∧ decide ((2 : Int) = (2 : Int)) = true ∧ True) := by kernel_rfl
theorem vc_law07_known_0  : (wpFn E_law07_known 4000 (.mk [] []) (f13.body.getD .skip) f13.ntmps f13.results.toList [] [] ⟨.bool true, [], []⟩).Holds := by
  refine holdsI (ob_law07_known_0 ) ?_
  refine ⟨⟨rfl, (by decide)⟩, ⟨(by decide), rfl, (by decide)⟩, ⟨rfl, (by decide)⟩, rfl, (by decide), ⟨(by decide), rfl, (by decide)⟩, rfl, rfl, (by decide), ⟨(by decide), (by decide)⟩, ⟨(by decide), rfl, (by decide)⟩, (by decide), rfl, (by decide), (by decide), (by decide), trivial⟩
noncomputable def post_law07_known : List SV → List (List Seg) → FPost := fun L H => match L, H with
  | [], [] => .ret ⟨.bool true, [], []⟩
  | _, _ => .fail
noncomputable def S_law07_known : SE.Spec := specOf false [] post_law07_known
theorem cok_law07_known : CallOK prog Gl_law07_known 13 S_law07_known := by
  refine callOK_ofI (E := E_law07_known) (code := f13.body.getD .skip) E_law07_known_ok func13 (by kernel_rfl) (by kernel_rfl) fun L H out ht hp => ?_
  have hl := ht.lens
  clear ht
  unfold post_law07_known at hp
  split at hp
  · skip
    obtain rfl := hp
    exact ⟨_, _, vc_law07_known_0 ⟩
  · exact hp.elim
end Go.Proofs.Try
/-! law07_blocks -/
namespace Go.Proofs.Try
open Go Go.SE
set_option maxRecDepth 100000
set_option maxHeartbeats 400000
set_option linter.unusedVariables false
noncomputable def Gl_law07_blocks : List (Nat × SV) := []
noncomputable def E_law07_blocks : Env := ⟨T, [], Gl_law07_blocks, []⟩
theorem E_law07_blocks_ok : EnvOK prog E_law07_blocks := ⟨T_ok, .nil, mix_ok, FBOK.nil⟩
theorem ob_law07_blocks_0 (l : List (List (BitVec 8))) : (wpFn E_law07_blocks 2000 (.mk [] []) (f15.body.getD .skip) f15.ntmps f15.results.toList [.sl 1 l.length (.rows l.length l)] [] ⟨.fn 32 [] [.ptr 0 0], [], [[.one (.sl 1 l.length (.rows l.length l))]]⟩).holds = (((1 : Nat) = (1 : Nat) ∧ l.length = l.length ∧ Seg.rows l.length l = Seg.rows l.length l) ∧ True) := by kernel_rfl
theorem vc_law07_blocks_0 (l : List (List (BitVec 8))) : (wpFn E_law07_blocks 2000 (.mk [] []) (f15.body.getD .skip) f15.ntmps f15.results.toList [.sl 1 l.length (.rows l.length l)] [] ⟨.fn 32 [] [.ptr 0 0], [], [[.one (.sl 1 l.length (.rows l.length l))]]⟩).Holds := by
  refine holdsI (ob_law07_blocks_0 l) ?_
  refine ⟨⟨rfl, rfl, rfl⟩, trivial⟩
noncomputable def post_law07_blocks : List SV → List (List Seg) → FPost := fun L H => match L, H with
  | [.sl 1 l_n (.rows l_m l)], [] => .ret ⟨.fn 32 [] [.ptr 0 0], [], [[.one (.sl 1 l.length (.rows l.length l))]]⟩
  | _, _ => .fail
noncomputable def S_law07_blocks : SE.Spec := specOf true [.rows] post_law07_blocks
theorem cok_law07_blocks : CallOK prog Gl_law07_blocks 15 S_law07_blocks := by
  refine callOK_ofI (E := E_law07_blocks) (code := f15.body.getD .skip) E_law07_blocks_ok func15 (by kernel_rfl) (by kernel_rfl) fun L H out ht hp => ?_
  have hl := ht.lens
  clear ht
  unfold post_law07_blocks at hp
  split at hp
  · rename_i l_n l_m l
    have hm_l := hl.1.1.1
    have hn_l := hl.1.1.2
    obtain rfl : l_m = l.length := hm_l.symm
    obtain rfl : l_n = l.length := hn_l
    obtain rfl := hp
    exact ⟨_, _, vc_law07_blocks_0 l⟩
  · exact hp.elim
end Go.Proofs.Try
/-! cts_mode_chain__blocks -/
namespace Go.Proofs.Try
open Go Go.SE
set_option maxRecDepth 100000
set_option maxHeartbeats 400000
set_option linter.unusedVariables false
noncomputable def Gl_cts_mode_chain__blocks : List (Nat × SV) := []
noncomputable def E_cts_mode_chain__blocks : Env := ⟨T, [], Gl_cts_mode_chain__blocks, []⟩
theorem E_cts_mode_chain__blocks_ok : EnvOK prog E_cts_mode_chain__blocks := ⟨T_ok, .nil, mix_ok, FBOK.nil⟩
theorem ob_cts_mode_chain__blocks_0 (f g ks iv : List (BitVec 8)) (n m vn vm ln lm : Nat) (l : List (List (BitVec 8))) : (wpFn E_cts_mode_chain__blocks 2000 (.mk [] []) (f31.body.getD .skip) f31.ntmps f31.results.toList [.agg [.one (.ip [.b8s 256 f, .b8s 256 g, .one (.sl 16 n (.b8s m ks))] 0), .one (.sl 1 vn (.b8s vm iv))], .fn 32 [] [.ip [.one (.sl 1 ln (.rows lm l))] 0]] [] ⟨.fn 48 [] [.ptr 0 0, .ptr 1 0], [], [[.one (.ip [.b8s 256 f, .b8s 256 g, .one (.sl 16 n (.b8s m ks))] 0), .one (.sl 1 vn (.b8s vm iv))], [.one (.fn 32 [] [.ip [.one (.sl 1 ln (.rows lm l))] 0])]]⟩).holds = (([Seg.b8s (256 : Nat) f, Seg.b8s (256 : Nat) g, Seg.one (SV.sl (16 : Nat) n (Seg.b8s m ks))] = [Seg.b8s (256 : Nat) f, Seg.b8s (256 : Nat) g, Seg.one (SV.sl (16 : Nat) n (Seg.b8s m ks))] ∧ (0 : Nat) = (0 : Nat)) ∧ ((1 : Nat) = (1 : Nat) ∧ vn = vn ∧ Seg.b8s vm iv = Seg.b8s vm iv) ∧ ([Seg.one (SV.sl (1 : Nat) ln (Seg.rows lm l))] = [Seg.one (SV.sl (1 : Nat) ln (Seg.rows lm l))] ∧ (0 : Nat) = (0 : Nat)) ∧ True) := by kernel_rfl
theorem vc_cts_mode_chain__blocks_0 (f g ks iv : List (BitVec 8)) (n m vn vm ln lm : Nat) (l : List (List (BitVec 8))) : (wpFn E_cts_mode_chain__blocks 2000 (.mk [] []) (f31.body.getD .skip) f31.ntmps f31.results.toList [.agg [.one (.ip [.b8s 256 f, .b8s 256 g, .one (.sl 16 n (.b8s m ks))] 0), .one (.sl 1 vn (.b8s vm iv))], .fn 32 [] [.ip [.one (.sl 1 ln (.rows lm l))] 0]] [] ⟨.fn 48 [] [.ptr 0 0, .ptr 1 0], [], [[.one (.ip [.b8s 256 f, .b8s 256 g, .one (.sl 16 n (.b8s m ks))] 0), .one (.sl 1 vn (.b8s vm iv))], [.one (.fn 32 [] [.ip [.one (.sl 1 ln (.rows lm l))] 0])]]⟩).Holds := by
  refine holdsI (ob_cts_mode_chain__blocks_0 f g ks iv n m vn vm ln lm l) ?_
  refine ⟨⟨rfl, rfl⟩, ⟨rfl, rfl, rfl⟩, ⟨rfl, rfl⟩, trivial⟩
noncomputable def post_cts_mode_chain__blocks : List SV → List (List Seg) → FPost := fun L H => match L, H with
  | [.agg [.one (.ip [.b8s 256 f, .b8s 256 g, .one (.sl 16 n (.b8s m ks))] 0), .one (.sl 1 vn (.b8s vm iv))], .fn 32 [] [.ip [.one (.sl 1 ln (.rows lm l))] 0]], [] => .ret ⟨.fn 48 [] [.ptr 0 0, .ptr 1 0], [], [[.one (.ip [.b8s 256 f, .b8s 256 g, .one (.sl 16 n (.b8s m ks))] 0), .one (.sl 1 vn (.b8s vm iv))], [.one (.fn 32 [] [.ip [.one (.sl 1 ln (.rows lm l))] 0])]]⟩
  | _, _ => .fail
noncomputable def S_cts_mode_chain__blocks : SE.Spec := specOf true [.gen, .gen] post_cts_mode_chain__blocks
theorem cok_cts_mode_chain__blocks : CallOK prog Gl_cts_mode_chain__blocks 31 S_cts_mode_chain__blocks := by
  refine callOK_ofI (E := E_cts_mode_chain__blocks) (code := f31.body.getD .skip) E_cts_mode_chain__blocks_ok func31 (by kernel_rfl) (by kernel_rfl) fun L H out ht hp => ?_
  have hl := ht.lens
  clear ht
  unfold post_cts_mode_chain__blocks at hp
  split at hp
  · rename_i f g n m ks vn vm iv ln lm l
    obtain rfl := hp
    exact ⟨_, _, vc_cts_mode_chain__blocks_0 f g ks iv n m vn vm ln lm l⟩
  · exact hp.elim
end Go.Proofs.Try
/-! cts_Chain -/
namespace Go.Proofs.Try
open Go Go.SE
set_option maxRecDepth 100000
set_option maxHeartbeats 400000
set_option linter.unusedVariables false
attribute [local irreducible] mvI subI addIt mxC mxR mxK encI decI ksI nextK nk1 nk2 tm rl8 sbox ibox addB keyAt rsC rsR ruC ruR ivI encB decB shB subB unshB mixB unmixB rnd unrnd wI wK wJ lastJ lastW incB blkC lastC chC catC16 lastD unC ctsPad exch encF decC decF padN addX
noncomputable def Gl_cts_Chain : List (Nat × SV) := []
noncomputable def E_cts_Chain : Env := ⟨T, [(29, S_cts_open), (31, S_cts_mode_chain__blocks)], Gl_cts_Chain, []⟩
theorem E_cts_Chain_ok : EnvOK prog E_cts_Chain := ⟨T_ok, (.cons cok_cts_open (.cons cok_cts_mode_chain__blocks .nil)), mix_ok, FBOK.nil⟩
theorem ob_cts_Chain_0 (key iv : List (BitVec 8)) (ln lm : Nat) (l : List (List (BitVec 8))) (hp : key.length = 16 ∧ iv.length = 16) : (wpFn E_cts_Chain 2000 (.mk [] []) (f14.body.getD .skip) f14.ntmps f14.results.toList [.sl 1 key.length (.b8s key.length key), .sl 1 iv.length (.b8s iv.length iv), .fn 32 [] [.ip [.one (.sl 1 ln (.rows lm l))] 0]] [] ⟨.fn 48 [] [.ptr 0 0, .ptr 1 0], [], [[.one (.ip [.b8s 256 sbox, .b8s 256 ibox, .one (.sl 16 11 (.b8s 176 (ksI sbox key 10)))] 0), .one (.sl 1 iv.length (.b8s iv.length iv))], [.one (.fn 32 [] [.ip [.one (.sl 1 ln (.rows lm l))] 0])]]⟩).holds = (iv.length ≤ (200 : Nat) ∧ bsplit (decide (key.length = (16 : Nat))) (bsplit (!decide ((if iv.length = (16 : Nat) then (0 : Int) else (2 : Int)) = (0 : Int))) False ((176 : Nat) = (11 : Nat) * (16 : Nat) ∧ ([Seg.b8s (256 : Nat) sbox, Seg.b8s (256 : Nat) ibox, Seg.one (SV.sl (16 : Nat) (11 : Nat) (Seg.b8s (176 : Nat) (ksI sbox key (10 : Nat))))] = [Seg.b8s (256 : Nat) sbox, Seg.b8s (256 : Nat) ibox, Seg.one (SV.sl (16 : Nat) (11 : Nat) (Seg.b8s (176 : Nat) (ksI sbox key (10 : Nat))))] ∧ (0 : Nat) = (0 : Nat)) ∧ ((1 : Nat) = (1 : Nat) ∧ iv.length = iv.length ∧ Seg.b8s iv.length iv = Seg.b8s iv.length iv) ∧ ([Seg.one (SV.sl (1 : Nat) ln (Seg.rows lm l))] = [Seg.one (SV.sl (1 : Nat) ln (Seg.rows lm l))] ∧ (0 : Nat) = (0 : Nat)) ∧ True)) False) := by kernel_rfl
theorem vc_cts_Chain_0 (key iv : List (BitVec 8)) (ln lm : Nat) (l : List (List (BitVec 8))) (hp : key.length = 16 ∧ iv.length = 16) : (wpFn E_cts_Chain 2000 (.mk [] []) (f14.body.getD .skip) f14.ntmps f14.results.toList [.sl 1 key.length (.b8s key.length key), .sl 1 iv.length (.b8s iv.length iv), .fn 32 [] [.ip [.one (.sl 1 ln (.rows lm l))] 0]] [] ⟨.fn 48 [] [.ptr 0 0, .ptr 1 0], [], [[.one (.ip [.b8s 256 sbox, .b8s 256 ibox, .one (.sl 16 11 (.b8s 176 (ksI sbox key 10)))] 0), .one (.sl 1 iv.length (.b8s iv.length iv))], [.one (.fn 32 [] [.ip [.one (.sl 1 ln (.rows lm l))] 0])]]⟩).Holds := by
  refine holdsI (ob_cts_Chain_0 key iv ln lm l hp) ?_
  refine ⟨(by omega), bsplit_dec (fun h0 => bsplit_not (fun h1 => (by exfalso; omega)) (fun h2 => ⟨(by decide), ⟨rfl, rfl⟩, ⟨rfl, rfl, rfl⟩, ⟨rfl, rfl⟩, trivial⟩)) (fun h3 => (by exfalso; omega))⟩
noncomputable def post_cts_Chain : List SV → List (List Seg) → FPost := fun L H => match L, H with
  | [.sl 1 key_n (.b8s key_m key), .sl 1 iv_n (.b8s iv_m iv), .fn 32 [] [.ip [.one (.sl 1 ln (.rows lm l))] 0]], [] => .vc (key.length = 16 ∧ iv.length = 16) (.ret ⟨.fn 48 [] [.ptr 0 0, .ptr 1 0], [], [[.one (.ip [.b8s 256 sbox, .b8s 256 ibox, .one (.sl 16 11 (.b8s 176 (ksI sbox key 10)))] 0), .one (.sl 1 iv.length (.b8s iv.length iv))], [.one (.fn 32 [] [.ip [.one (.sl 1 ln (.rows lm l))] 0])]]⟩)
  | _, _ => .fail
noncomputable def S_cts_Chain : SE.Spec := specOf true [.bytes, .bytes, .gen] post_cts_Chain
theorem cok_cts_Chain : CallOK prog Gl_cts_Chain 14 S_cts_Chain := by
  refine callOK_ofI (E := E_cts_Chain) (code := f14.body.getD .skip) E_cts_Chain_ok func14 (by kernel_rfl) (by kernel_rfl) fun L H out ht hp => ?_
  have hl := ht.lens
  clear ht
  unfold post_cts_Chain at hp
  split at hp
  · rename_i key_n key_m key iv_n iv_m iv ln lm l
    have hm_key := hl.1.1.1
    have hn_key := hl.1.1.2
    have hm_iv := hl.1.2.1.1
    have hn_iv := hl.1.2.1.2
    obtain rfl : key_m = key.length := hm_key.symm
    obtain rfl : key_n = key.length := hn_key
    obtain rfl : iv_m = iv.length := hm_iv.symm
    obtain rfl : iv_n = iv.length := hn_iv
    obtain ⟨hpre, hp⟩ := hp
    obtain rfl := hp
    exact ⟨_, _, vc_cts_Chain_0 key iv ln lm l hpre⟩
  · exact hp.elim
end Go.Proofs.Try
/-! cts_Encrypt__ok -/
namespace Go.Proofs.Try
open Go Go.SE
set_option maxRecDepth 100000
set_option maxHeartbeats 400000
set_option linter.unusedVariables false
attribute [local irreducible] mvI subI addIt mxC mxR mxK encI decI ksI nextK nk1 nk2 tm rl8 sbox ibox addB keyAt rsC rsR ruC ruR ivI encB decB shB subB unshB mixB unmixB rnd unrnd wI wK wJ lastJ lastW incB blkC lastC chC catC16 lastD unC ctsPad exch encF decC decF padN
noncomputable def Gl_cts_Encrypt__ok : List (Nat × SV) := []
noncomputable def E_cts_Encrypt__ok : Env := ⟨T, [(33, S_cts_checked__enc)], Gl_cts_Encrypt__ok, []⟩
theorem E_cts_Encrypt__ok_ok : EnvOK prog E_cts_Encrypt__ok := ⟨T_ok, (.cons cok_cts_checked__enc .nil), mix_ok, FBOK.nil⟩
theorem ob_cts_Encrypt__ok_0 (key iv p : List (BitVec 8)) (hp : key.length = 16 ∧ iv.length = 16 ∧ 16 ≤ p.length ∧ p.length ≤ 131072) : (wpFn E_cts_Encrypt__ok 2000 (.mk [] []) (f16.body.getD .skip) f16.ntmps f16.results.toList [.sl 1 key.length (.b8s key.length key), .sl 1 iv.length (.b8s iv.length iv), .sl 1 p.length (.b8s p.length p)] [] ⟨.tup [.osub 0 1 0 p.length, .int 0], [], [[.b8s (padN p.length) (encF (ksI sbox key 10) iv p), .spare]]⟩).holds = (iv.length ≤ (200 : Nat) ∧ bsplit (!decide (key.length = (16 : Nat) ∧ iv.length = (16 : Nat))) (p.length = (0 : Nat) ∧ (2 : Int) = (0 : Int) ∧ (padN p.length = (0 : Nat) ∧ encF (ksI sbox key (10 : Nat)) iv p = nil8) ∧ True) (bsplit (decide (p.length < (16 : Nat))) (p.length = (0 : Nat) ∧ (4 : Int) = (0 : Int) ∧ (padN p.length = (0 : Nat) ∧ encF (ksI sbox key (10 : Nat)) iv p = nil8) ∧ True) (bsplit (decide ((131072 : Nat) < p.length)) (p.length = (0 : Nat) ∧ (5 : Int) = (0 : Int) ∧ (padN p.length = (0 : Nat) ∧ encF (ksI sbox key (10 : Nat)) iv p = nil8) ∧ True) (((0 : Nat) = (0 : Nat) ∧ p.length = p.length) ∧ (0 : Int) = (0 : Int) ∧ (padN p.length = padN p.length ∧ encF (ksI sbox key (10 : Nat)) iv p = encF (ksI sbox key (10 : Nat)) iv p) ∧ True)))) := by kernel_rfl
theorem vc_cts_Encrypt__ok_0 (key iv p : List (BitVec 8)) (hp : key.length = 16 ∧ iv.length = 16 ∧ 16 ≤ p.length ∧ p.length ≤ 131072) : (wpFn E_cts_Encrypt__ok 2000 (.mk [] []) (f16.body.getD .skip) f16.ntmps f16.results.toList [.sl 1 key.length (.b8s key.length key), .sl 1 iv.length (.b8s iv.length iv), .sl 1 p.length (.b8s p.length p)] [] ⟨.tup [.osub 0 1 0 p.length, .int 0], [], [[.b8s (padN p.length) (encF (ksI sbox key 10) iv p), .spare]]⟩).Holds := by
  refine holdsI (ob_cts_Encrypt__ok_0 key iv p hp) ?_
  refine ⟨(by omega), bsplit_not (fun h0 => (by exfalso; omega)) (fun h1 => bsplit_dec (fun h2 => (by exfalso; omega)) (fun h3 => bsplit_dec (fun h4 => (by exfalso; omega)) (fun h5 => ⟨⟨rfl, rfl⟩, rfl, ⟨rfl, rfl⟩, trivial⟩)))⟩
noncomputable def post_cts_Encrypt__ok : List SV → List (List Seg) → FPost := fun L H => match L, H with
  | [.sl 1 key_n (.b8s key_m key), .sl 1 iv_n (.b8s iv_m iv), .sl 1 p_n (.b8s p_m p)], [] => .vc (key.length = 16 ∧ iv.length = 16 ∧ 16 ≤ p.length ∧ p.length ≤ 131072) (.ret ⟨.tup [.osub 0 1 0 p.length, .int 0], [], [[.b8s (padN p.length) (encF (ksI sbox key 10) iv p), .spare]]⟩)
  | _, _ => .fail
noncomputable def S_cts_Encrypt__ok : SE.Spec := specOf false [.bytes, .bytes, .bytes] post_cts_Encrypt__ok
theorem cok_cts_Encrypt__ok : CallOK prog Gl_cts_Encrypt__ok 16 S_cts_Encrypt__ok := by
  refine callOK_ofI (E := E_cts_Encrypt__ok) (code := f16.body.getD .skip) E_cts_Encrypt__ok_ok func16 (by kernel_rfl) (by kernel_rfl) fun L H out ht hp => ?_
  have hl := ht.lens
  clear ht
  unfold post_cts_Encrypt__ok at hp
  split at hp
  · rename_i key_n key_m key iv_n iv_m iv p_n p_m p
    have hm_key := hl.1.1.1
    have hn_key := hl.1.1.2
    have hm_iv := hl.1.2.1.1
    have hn_iv := hl.1.2.1.2
    have hm_p := hl.1.2.2.1.1
    have hn_p := hl.1.2.2.1.2
    obtain rfl : key_m = key.length := hm_key.symm
    obtain rfl : key_n = key.length := hn_key
    obtain rfl : iv_m = iv.length := hm_iv.symm
    obtain rfl : iv_n = iv.length := hn_iv
    obtain rfl : p_m = p.length := hm_p.symm
    obtain rfl : p_n = p.length := hn_p
    obtain ⟨hpre, hp⟩ := hp
    obtain rfl := hp
    exact ⟨_, _, vc_cts_Encrypt__ok_0 key iv p hpre⟩
  · exact hp.elim
end Go.Proofs.Try
/-! law07_CtsExchanges -/
namespace Go.Proofs.Try
open Go Go.SE
set_option maxRecDepth 100000
set_option maxHeartbeats 400000
set_option linter.unusedVariables false
attribute [local irreducible] mvI subI addIt mxC mxR mxK encI decI ksI nextK nk1 nk2 tm rl8 sbox ibox addB keyAt rsC rsR ruC ruR ivI encB decB shB subB unshB mixB unmixB rnd unrnd wI wK wJ lastJ lastW incB blkC lastC chC catC16 lastD unC ctsPad exch encF decC decF padN addX rB
noncomputable def Gl_law07_CtsExchanges : List (Nat × SV) := []
noncomputable def E_law07_CtsExchanges : Env := ⟨T, [(13, S_law07_known), (15, S_law07_blocks), (14, S_cts_Chain), (10, S_aes_Cipher_Encrypt__frz), (49, S_cts_xor__frz), (28, S_slices_Clone__frz), (16, S_cts_Encrypt__ok)], Gl_law07_CtsExchanges, [(48, ⟨f48.ntmps, f48.body.getD .skip⟩), (32, ⟨f32.ntmps, f32.body.getD .skip⟩)]⟩
theorem E_law07_CtsExchanges_ok : EnvOK prog E_law07_CtsExchanges := ⟨T_ok, (.cons cok_law07_known (.cons cok_law07_blocks (.cons cok_cts_Chain (.cons cok_aes_Cipher_Encrypt__frz (.cons cok_cts_xor__frz (.cons cok_slices_Clone__frz (.cons cok_cts_Encrypt__ok .nil))))))), mix_ok, (FBOK.cons func48 (by kernel_rfl) (by kernel_rfl) (by kernel_rfl) (FBOK.cons func32 (by kernel_rfl) (by kernel_rfl) (by kernel_rfl) FBOK.nil))⟩
theorem ob_law07_CtsExchanges_0 (key iv b : List (BitVec 8)) : (wpFn E_law07_CtsExchanges 4000 (.mk [(0, cntInv (b.length / 16) fun i s => tplF 8 s [(9, .int i), (8, .os s.next 1 i)] [(s.next, [.rows i (rB b i), .spare])])] [(2, .mk [] [(0, .mk [(0, cntInv (b.length / 16) fun k s => tplF 8 s [(3, .int k)] [(idU s 1 11, [.one (.os s.next 1 (16 * k))]), (idU s 0 4, [.one (.sl 1 (lastC (ksI sbox key 10) iv b k).length (.b8s (lastC (ksI sbox key 10) iv b k).length (lastC (ksI sbox key 10) iv b k)))]), (s.next, [.b8s (16 * k) (catC16 (ksI sbox key 10) iv b k), .spare])])] [])])]) (f5.body.getD .skip) f5.ntmps f5.results.toList [.sl 1 key.length (.b8s key.length key), .sl 1 iv.length (.b8s iv.length iv), .sl 1 b.length (.b8s b.length b)] [] ⟨.bool true, [], []⟩).holds = (bsplit (!decide ((↑key.length : Int) = (16 : Int))) (true = true ∧ True) (bsplit (!decide ((↑iv.length : Int) = (16 : Int))) (true = true ∧ True) (bsplit (decide ((↑b.length : Int) < (16 : Int))) (true = true ∧ True) (bsplit (decide ((160 : Int) < (↑b.length : Int))) (true = true ∧ True) (((0 : Int) ≤ (↑b.length : Int) ∧ (↑b.length : Int) ≤ (9223372036854775807 : Int) ∧ (0 : Int) < (16 : Int)) ∧ ((0 : Nat) ≤ b.length / (16 : Nat) ∧ ((1 : Nat) = (1 : Nat) ∧ key.length = key.length ∧ Seg.b8s key.length key = Seg.b8s key.length key) ∧ ((1 : Nat) = (1 : Nat) ∧ iv.length = iv.length ∧ Seg.b8s iv.length iv = Seg.b8s iv.length iv) ∧ ((1 : Nat) = (1 : Nat) ∧ b.length = b.length ∧ Seg.b8s b.length b = Seg.b8s b.length b) ∧ false = false ∧ (↑b.length : Int) / (16 : Int) = (↑b.length : Int) / (16 : Int) ∧ (0 : Nat) = (0 : Nat) ∧ (0 : Int) = (↑(0 : Nat) : Int) ∧ ((1 : Nat) = (1 : Nat) ∧ key.length = key.length ∧ Seg.b8s key.length key = Seg.b8s key.length key) ∧ (↑key.length : Int) = (↑key.length : Int) ∧ (!decide ((↑key.length : Int) = (16 : Int))) = !decide ((↑key.length : Int) = (16 : Int)) ∧ false = false ∧ ((1 : Nat) = (1 : Nat) ∧ iv.length = iv.length ∧ Seg.b8s iv.length iv = Seg.b8s iv.length iv) ∧ (↑iv.length : Int) = (↑iv.length : Int) ∧ (!decide ((↑iv.length : Int) = (16 : Int))) = !decide ((↑iv.length : Int) = (16 : Int)) ∧ (!decide ((↑iv.length : Int) = (16 : Int))) = !decide ((↑iv.length : Int) = (16 : Int)) ∧ false = false ∧ ((1 : Nat) = (1 : Nat) ∧ b.length = b.length ∧ Seg.b8s b.length b = Seg.b8s b.length b) ∧ (↑b.length : Int) = (↑b.length : Int) ∧ decide ((↑b.length : Int) < (16 : Int)) = decide ((↑b.length : Int) < (16 : Int)) ∧ decide ((↑b.length : Int) < (16 : Int)) = decide ((↑b.length : Int) < (16 : Int)) ∧ false = false ∧ ((1 : Nat) = (1 : Nat) ∧ b.length = b.length ∧ Seg.b8s b.length b = Seg.b8s b.length b) ∧ (↑b.length : Int) = (↑b.length : Int) ∧ decide ((160 : Int) < (↑b.length : Int)) = decide ((160 : Int) < (↑b.length : Int)) ∧ decide ((160 : Int) < (↑b.length : Int)) = decide ((160 : Int) < (↑b.length : Int)) ∧ ((1 : Nat) = (1 : Nat) ∧ b.length = b.length ∧ Seg.b8s b.length b = Seg.b8s b.length b) ∧ (↑b.length : Int) = (↑b.length : Int) ∧ (↑b.length : Int) / (16 : Int) = (↑b.length : Int) / (16 : Int) ∧ ((0 : Nat) = (0 : Nat) ∧ rB b (0 : Nat) = []) ∧ True) ∧ ∀ (i : Nat), i ≤ b.length / (16 : Nat) → bsplit (decide ((↑i : Int) < (↑b.length : Int) / (16 : Int))) (inI64 ((16 : Int) * (↑i : Int)) ∧ inI64 ((16 : Int) * (↑i : Int)) ∧ inI64 ((16 : Int) * (↑i : Int) + (16 : Int)) ∧ ((0 : Int) ≤ (16 : Int) * (↑i : Int) + (16 : Int) ∧ (16 : Int) * (↑i : Int) + (16 : Int) ≤ (↑b.length : Int)) ∧ ((0 : Int) ≤ (16 : Int) * (↑i : Int) ∧ (16 : Int) * (↑i : Int) ≤ (↑((16 : Int) * (↑i : Int) + (16 : Int)).toNat : Int)) ∧ i = i ∧ (1 : Nat) = (1 : Nat) ∧ i + (1 : Nat) ≤ (4294967296 : Nat) ∧ inI64 ((↑i : Int) + (1 : Int)) ∧ (i + (1 : Nat) ≤ b.length / (16 : Nat) ∧ b.length / (16 : Nat) - (i + (1 : Nat)) < b.length / (16 : Nat) - i) ∧ ((1 : Nat) = (1 : Nat) ∧ key.length = key.length ∧ Seg.b8s key.length key = Seg.b8s key.length key) ∧ ((1 : Nat) = (1 : Nat) ∧ iv.length = iv.length ∧ Seg.b8s iv.length iv = Seg.b8s iv.length iv) ∧ ((1 : Nat) = (1 : Nat) ∧ b.length = b.length ∧ Seg.b8s b.length b = Seg.b8s b.length b) ∧ false = false ∧ (↑b.length : Int) / (16 : Int) = (↑b.length : Int) / (16 : Int) ∧ i + (1 : Nat) = i + (1 : Nat) ∧ (↑i : Int) + (1 : Int) = (↑(i + (1 : Nat)) : Int) ∧ ((1 : Nat) = (1 : Nat) ∧ key.length = key.length ∧ Seg.b8s key.length key = Seg.b8s key.length key) ∧ (↑key.length : Int) = (↑key.length : Int) ∧ (!decide ((↑key.length : Int) = (16 : Int))) = !decide ((↑key.length : Int) = (16 : Int)) ∧ false = false ∧ ((1 : Nat) = (1 : Nat) ∧ iv.length = iv.length ∧ Seg.b8s iv.length iv = Seg.b8s iv.length iv) ∧ (↑iv.length : Int) = (↑iv.length : Int) ∧ (!decide ((↑iv.length : Int) = (16 : Int))) = !decide ((↑iv.length : Int) = (16 : Int)) ∧ (!decide ((↑iv.length : Int) = (16 : Int))) = !decide ((↑iv.length : Int) = (16 : Int)) ∧ false = false ∧ ((1 : Nat) = (1 : Nat) ∧ b.length = b.length ∧ Seg.b8s b.length b = Seg.b8s b.length b) ∧ (↑b.length : Int) = (↑b.length : Int) ∧ decide ((↑b.length : Int) < (16 : Int)) = decide ((↑b.length : Int) < (16 : Int)) ∧ decide ((↑b.length : Int) < (16 : Int)) = decide ((↑b.length : Int) < (16 : Int)) ∧ false = false ∧ ((1 : Nat) = (1 : Nat) ∧ b.length = b.length ∧ Seg.b8s b.length b = Seg.b8s b.length b) ∧ (↑b.length : Int) = (↑b.length : Int) ∧ decide ((160 : Int) < (↑b.length : Int)) = decide ((160 : Int) < (↑b.length : Int)) ∧ decide ((160 : Int) < (↑b.length : Int)) = decide ((160 : Int) < (↑b.length : Int)) ∧ ((1 : Nat) = (1 : Nat) ∧ b.length = b.length ∧ Seg.b8s b.length b = Seg.b8s b.length b) ∧ (↑b.length : Int) = (↑b.length : Int) ∧ (↑b.length : Int) / (16 : Int) = (↑b.length : Int) / (16 : Int) ∧ (i + (1 : Nat) = i + (1 : Nat) ∧ rB b i ++ [List.take (((16 : Int) * (↑i : Int) + (16 : Int)).toNat - ((16 : Int) * (↑i : Int)).toNat) (List.drop ((16 : Int) * (↑i : Int)).toNat b)] = rB b (i + (1 : Nat))) ∧ True) (i = i ∧ (key.length = (16 : Nat) ∧ iv.length = (16 : Nat)) ∧ ((0 : Nat) ≤ b.length / (16 : Nat) ∧ ([Seg.one (SV.sl (1 : Nat) (rB b i).length (Seg.rows (rB b i).length (rB b i)))] = [Seg.one (SV.sl (1 : Nat) (rB b i).length (Seg.rows (rB b i).length (rB b i)))] ∧ (0 : Nat) = (0 : Nat)) ∧ (0 : Int) = (↑(0 : Nat) : Int) ∧ ((1 : Nat) = (1 : Nat) ∧ iv.length = (lastC (ksI sbox key (10 : Nat)) iv b (0 : Nat)).length ∧ Seg.b8s iv.length iv = Seg.b8s (lastC (ksI sbox key (10 : Nat)) iv b (0 : Nat)).length (lastC (ksI sbox key (10 : Nat)) iv b (0 : Nat))) ∧ (16 : Nat) * (0 : Nat) = (0 : Nat) ∧ ([Seg.one (SV.sl (1 : Nat) (rB b i).length (Seg.rows (rB b i).length (rB b i)))] = [Seg.one (SV.sl (1 : Nat) (rB b i).length (Seg.rows (rB b i).length (rB b i)))] ∧ (0 : Nat) = (0 : Nat)) ∧ ([Seg.b8s (256 : Nat) sbox, Seg.b8s (256 : Nat) ibox, Seg.one (SV.sl (16 : Nat) (11 : Nat) (Seg.b8s (176 : Nat) (ksI sbox key (10 : Nat))))] = [Seg.b8s (256 : Nat) sbox, Seg.b8s (256 : Nat) ibox, Seg.one (SV.sl (16 : Nat) (11 : Nat) (Seg.b8s (176 : Nat) (ksI sbox key (10 : Nat))))] ∧ (0 : Nat) = (0 : Nat)) ∧ ((1 : Nat) = (1 : Nat) ∧ iv.length = iv.length ∧ Seg.b8s iv.length iv = Seg.b8s iv.length iv) ∧ ((16 : Nat) * (0 : Nat) = (0 : Nat) ∧ catC16 (ksI sbox key (10 : Nat)) iv b (0 : Nat) = nil8) ∧ True) ∧ ∀ (i_1 : Nat), i_1 ≤ b.length / (16 : Nat) → bsplit (decide ((↑i_1 : Int) < (↑(rB b i).length : Int))) (((0 : Int) ≤ (↑i_1 : Int) ∧ (↑i_1 : Int) < (↑(rB b i).length : Int)) ∧ (↑i_1 : Int).toNat < (rB b i).length ∧ bsplit (!decide ((↑((rB b i).getD (↑i_1 : Int).toNat nil8).length : Int) = (16 : Int))) (inI64 ((16 : Int) * ((↑b.length : Int) / (16 : Int))) ∧ ((0 : Int) ≤ (16 : Int) * ((↑b.length : Int) / (16 : Int)) ∧ (16 : Int) * ((↑b.length : Int) / (16 : Int)) ≤ (↑b.length : Int)) ∧ (key.length = (16 : Nat) ∧ iv.length = (16 : Nat) ∧ (16 : Nat) ≤ (List.take ((16 : Int) * ((↑b.length : Int) / (16 : Int))).toNat b).length ∧ (List.take ((16 : Int) * ((↑b.length : Int) / (16 : Int))).toNat b).length ≤ (131072 : Nat)) ∧ inI64 ((16 : Int) * ((↑b.length : Int) / (16 : Int))) ∧ bsplit (!decide ((↑((16 : Nat) * i_1) : Int) = (16 : Int) * ((↑b.length : Int) / (16 : Int)))) (false = true ∧ True) (bsplit (decide ((1 : Int) < (↑b.length : Int) / (16 : Int))) (inI64 ((↑b.length : Int) / (16 : Int) - (2 : Int)) ∧ inI64 ((16 : Int) * ((↑b.length : Int) / (16 : Int) - (2 : Int))) ∧ ((0 : Int) ≤ (16 : Int) * ((↑b.length : Int) / (16 : Int) - (2 : Int)) ∧ (16 : Int) * ((↑b.length : Int) / (16 : Int) - (2 : Int)) ≤ (↑((16 : Nat) * i_1) : Int)) ∧ (0 : Nat) = (0 : Nat) ∧ (0 : Nat) + ((16 : Int) * ((↑b.length : Int) / (16 : Int) - (2 : Int))).toNat ≤ (16 : Nat) * i_1 ∧ (0 : Nat) + ((16 : Int) * ((↑b.length : Int) / (16 : Int) - (2 : Int))).toNat ≤ (4294967296 : Nat) ∧ inI64 ((16 : Int) * ((↑b.length : Int) / (16 : Int) - (2 : Int)) + (16 : Int)) ∧ ((0 : Int) ≤ (16 : Int) * ((↑b.length : Int) / (16 : Int) - (2 : Int)) + (16 : Int) ∧ (16 : Int) * ((↑b.length : Int) / (16 : Int) - (2 : Int)) + (16 : Int) ≤ (↑((16 : Nat) * i_1) : Int)) ∧ (0 : Nat) + ((16 : Int) * ((↑b.length : Int) / (16 : Int) - (2 : Int))).toNat = (0 : Nat) + ((16 : Int) * ((↑b.length : Int) / (16 : Int) - (2 : Int))).toNat ∧ ((16 : Int) * ((↑b.length : Int) / (16 : Int) - (2 : Int)) + (16 : Int)).toNat + ((16 : Nat) * i_1 - ((16 : Int) * ((↑b.length : Int) / (16 : Int) - (2 : Int)) + (16 : Int)).toNat) ≤ (16 : Nat) * i_1 ∧ (0 : Nat) + ((16 : Int) * ((↑b.length : Int) / (16 : Int) - (2 : Int))).toNat + ((16 : Nat) * i_1 - ((16 : Int) * ((↑b.length : Int) / (16 : Int) - (2 : Int)) + (16 : Int)).toNat) ≤ (4294967296 : Nat) ∧ inI64 ((16 : Int) * ((↑b.length : Int) / (16 : Int) - (2 : Int)) + (16 : Int)) ∧ ((0 : Int) ≤ (16 : Int) * ((↑b.length : Int) / (16 : Int) - (2 : Int)) + (16 : Int) ∧ (16 : Int) * ((↑b.length : Int) / (16 : Int) - (2 : Int)) + (16 : Int) ≤ (↑((16 : Nat) * i_1) : Int)) ∧ ((0 : Int) ≤ (16 : Int) * ((↑b.length : Int) / (16 : Int) - (2 : Int)) ∧ (16 : Int) * ((↑b.length : Int) / (16 : Int) - (2 : Int)) ≤ (↑((16 : Int) * ((↑b.length : Int) / (16 : Int) - (2 : Int)) + (16 : Int)).toNat : Int)) ∧ (0 : Nat) + ((16 : Int) * ((↑b.length : Int) / (16 : Int) - (2 : Int))).toNat + ((16 : Nat) * i_1 - ((16 : Int) * ((↑b.length : Int) / (16 : Int) - (2 : Int)) + (16 : Int)).toNat) = (0 : Nat) + ((16 : Int) * ((↑b.length : Int) / (16 : Int) - (2 : Int))).toNat + ((16 : Nat) * i_1 - ((16 : Int) * ((↑b.length : Int) / (16 : Int) - (2 : Int)) + (16 : Int)).toNat) ∧ ((16 : Int) * ((↑b.length : Int) / (16 : Int) - (2 : Int))).toNat + (((16 : Int) * ((↑b.length : Int) / (16 : Int) - (2 : Int)) + (16 : Int)).toNat - ((16 : Int) * ((↑b.length : Int) / (16 : Int) - (2 : Int))).toNat) ≤ (16 : Nat) * i_1 ∧ (0 : Nat) + ((16 : Int) * ((↑b.length : Int) / (16 : Int) - (2 : Int))).toNat + ((16 : Nat) * i_1 - ((16 : Int) * ((↑b.length : Int) / (16 : Int) - (2 : Int)) + (16 : Int)).toNat) + (((16 : Int) * ((↑b.length : Int) / (16 : Int) - (2 : Int)) + (16 : Int)).toNat - ((16 : Int) * ((↑b.length : Int) / (16 : Int) - (2 : Int))).toNat) ≤ (4294967296 : Nat) ∧ (0 : Nat) + (List.take ((16 : Int) * ((↑b.length : Int) / (16 : Int))).toNat b).length ≤ padN (List.take ((16 : Int) * ((↑b.length : Int) / (16 : Int))).toNat b).length ∧ (0 : Nat) + ((16 : Int) * ((↑b.length : Int) / (16 : Int) - (2 : Int))).toNat + ((16 : Nat) * i_1 - ((16 : Int) * ((↑b.length : Int) / (16 : Int) - (2 : Int)) + (16 : Int)).toNat) + (((16 : Int) * ((↑b.length : Int) / (16 : Int) - (2 : Int)) + (16 : Int)).toNat - ((16 : Int) * ((↑b.length : Int) / (16 : Int) - (2 : Int))).toNat) = (0 : Nat) + ((16 : Int) * ((↑b.length : Int) / (16 : Int) - (2 : Int))).toNat + ((16 : Nat) * i_1 - ((16 : Int) * ((↑b.length : Int) / (16 : Int) - (2 : Int)) + (16 : Int)).toNat) + (((16 : Int) * ((↑b.length : Int) / (16 : Int) - (2 : Int)) + (16 : Int)).toNat - ((16 : Int) * ((↑b.length : Int) / (16 : Int) - (2 : Int))).toNat) ∧ bsplit (decide (List.take (List.take ((16 : Int) * ((↑b.length : Int) / (16 : Int))).toNat b).length (List.drop (0 : Nat) (encF (ksI sbox key (10 : Nat)) iv (List.take ((16 : Int) * ((↑b.length : Int) / (16 : Int))).toNat b))) = nil8 ++ List.take ((16 : Int) * ((↑b.length : Int) / (16 : Int) - (2 : Int))).toNat (List.drop (0 : Nat) (catC16 (ksI sbox key (10 : Nat)) iv b i_1)) ++ List.take ((16 : Nat) * i_1 - ((16 : Int) * ((↑b.length : Int) / (16 : Int) - (2 : Int)) + (16 : Int)).toNat) (List.drop ((16 : Int) * ((↑b.length : Int) / (16 : Int) - (2 : Int)) + (16 : Int)).toNat (catC16 (ksI sbox key (10 : Nat)) iv b i_1)) ++ List.take (((16 : Int) * ((↑b.length : Int) / (16 : Int) - (2 : Int)) + (16 : Int)).toNat - ((16 : Int) * ((↑b.length : Int) / (16 : Int) - (2 : Int))).toNat) (List.drop ((16 : Int) * ((↑b.length : Int) / (16 : Int) - (2 : Int))).toNat (catC16 (ksI sbox key (10 : Nat)) iv b i_1)))) (true = true ∧ True) (false = true ∧ True)) ((0 : Nat) + (List.take ((16 : Int) * ((↑b.length : Int) / (16 : Int))).toNat b).length ≤ padN (List.take ((16 : Int) * ((↑b.length : Int) / (16 : Int))).toNat b).length ∧ (16 : Nat) * i_1 = (16 : Nat) * i_1 ∧ bsplit (decide (List.take (List.take ((16 : Int) * ((↑b.length : Int) / (16 : Int))).toNat b).length (List.drop (0 : Nat) (encF (ksI sbox key (10 : Nat)) iv (List.take ((16 : Int) * ((↑b.length : Int) / (16 : Int))).toNat b))) = catC16 (ksI sbox key (10 : Nat)) iv b i_1)) (true = true ∧ True) (false = true ∧ True)))) ((((rB b i).getD (↑i_1 : Int).toNat nil8).length = (16 : Nat) ∧ (lastC (ksI sbox key (10 : Nat)) iv b i_1).length = (16 : Nat)) ∧ ((16 : Nat) = (16 : Nat) ∧ (addB ((rB b i).getD (↑i_1 : Int).toNat nil8) (lastC (ksI sbox key (10 : Nat)) iv b i_1)).length = (16 : Nat)) ∧ ((11 : Nat) = (11 : Nat) ∧ (176 : Nat) = (176 : Nat)) ∧ bsplit (decide ((addB ((rB b i).getD (↑i_1 : Int).toNat nil8) (lastC (ksI sbox key (10 : Nat)) iv b i_1)).length = (16 : Nat))) (((16 : Nat) = (16 : Nat) ∧ (encI sbox (ksI sbox key (10 : Nat)) (addB ((rB b i).getD (↑i_1 : Int).toNat nil8) (lastC (ksI sbox key (10 : Nat)) iv b i_1)) (11 : Nat)).length = (16 : Nat)) ∧ (encI sbox (ksI sbox key (10 : Nat)) (addB ((rB b i).getD (↑i_1 : Int).toNat nil8) (lastC (ksI sbox key (10 : Nat)) iv b i_1)) (11 : Nat)).length ≤ (4294967296 : Nat) ∧ ((encI sbox (ksI sbox key (10 : Nat)) (addB ((rB b i).getD (↑i_1 : Int).toNat nil8) (lastC (ksI sbox key (10 : Nat)) iv b i_1)) (11 : Nat)).length = (encI sbox (ksI sbox key (10 : Nat)) (addB ((rB b i).getD (↑i_1 : Int).toNat nil8) (lastC (ksI sbox key (10 : Nat)) iv b i_1)) (11 : Nat)).length ∧ (encI sbox (ksI sbox key (10 : Nat)) (addB ((rB b i).getD (↑i_1 : Int).toNat nil8) (lastC (ksI sbox key (10 : Nat)) iv b i_1)) (11 : Nat)).length = (encI sbox (ksI sbox key (10 : Nat)) (addB ((rB b i).getD (↑i_1 : Int).toNat nil8) (lastC (ksI sbox key (10 : Nat)) iv b i_1)) (11 : Nat)).length) ∧ (16 : Nat) * i_1 = (16 : Nat) * i_1 ∧ (16 : Nat) * i_1 + (encI sbox (ksI sbox key (10 : Nat)) (addB ((rB b i).getD (↑i_1 : Int).toNat nil8) (lastC (ksI sbox key (10 : Nat)) iv b i_1)) (11 : Nat)).length ≤ (4294967296 : Nat) ∧ inI64 ((↑i_1 : Int) + (1 : Int)) ∧ (i_1 + (1 : Nat) ≤ b.length / (16 : Nat) ∧ b.length / (16 : Nat) - (i_1 + (1 : Nat)) < b.length / (16 : Nat) - i_1) ∧ ([Seg.one (SV.sl (1 : Nat) (rB b i).length (Seg.rows (rB b i).length (rB b i)))] = [Seg.one (SV.sl (1 : Nat) (rB b i).length (Seg.rows (rB b i).length (rB b i)))] ∧ (0 : Nat) = (0 : Nat)) ∧ (↑i_1 : Int) + (1 : Int) = (↑(i_1 + (1 : Nat)) : Int) ∧ ((1 : Nat) = (1 : Nat) ∧ (encI sbox (ksI sbox key (10 : Nat)) (addB ((rB b i).getD (↑i_1 : Int).toNat nil8) (lastC (ksI sbox key (10 : Nat)) iv b i_1)) (11 : Nat)).length = (lastC (ksI sbox key (10 : Nat)) iv b (i_1 + (1 : Nat))).length ∧ Seg.b8s (encI sbox (ksI sbox key (10 : Nat)) (addB ((rB b i).getD (↑i_1 : Int).toNat nil8) (lastC (ksI sbox key (10 : Nat)) iv b i_1)) (11 : Nat)).length (encI sbox (ksI sbox key (10 : Nat)) (addB ((rB b i).getD (↑i_1 : Int).toNat nil8) (lastC (ksI sbox key (10 : Nat)) iv b i_1)) (11 : Nat)) = Seg.b8s (lastC (ksI sbox key (10 : Nat)) iv b (i_1 + (1 : Nat))).length (lastC (ksI sbox key (10 : Nat)) iv b (i_1 + (1 : Nat)))) ∧ (16 : Nat) * i_1 + (encI sbox (ksI sbox key (10 : Nat)) (addB ((rB b i).getD (↑i_1 : Int).toNat nil8) (lastC (ksI sbox key (10 : Nat)) iv b i_1)) (11 : Nat)).length = (16 : Nat) * (i_1 + (1 : Nat)) ∧ ([Seg.one (SV.sl (1 : Nat) (rB b i).length (Seg.rows (rB b i).length (rB b i)))] = [Seg.one (SV.sl (1 : Nat) (rB b i).length (Seg.rows (rB b i).length (rB b i)))] ∧ (0 : Nat) = (0 : Nat)) ∧ ([Seg.b8s (256 : Nat) sbox, Seg.b8s (256 : Nat) ibox, Seg.one (SV.sl (16 : Nat) (11 : Nat) (Seg.b8s (176 : Nat) (ksI sbox key (10 : Nat))))] = [Seg.b8s (256 : Nat) sbox, Seg.b8s (256 : Nat) ibox, Seg.one (SV.sl (16 : Nat) (11 : Nat) (Seg.b8s (176 : Nat) (ksI sbox key (10 : Nat))))] ∧ (0 : Nat) = (0 : Nat)) ∧ ((1 : Nat) = (1 : Nat) ∧ iv.length = iv.length ∧ Seg.b8s iv.length iv = Seg.b8s iv.length iv) ∧ ((16 : Nat) * i_1 + (encI sbox (ksI sbox key (10 : Nat)) (addB ((rB b i).getD (↑i_1 : Int).toNat nil8) (lastC (ksI sbox key (10 : Nat)) iv b i_1)) (11 : Nat)).length = (16 : Nat) * (i_1 + (1 : Nat)) ∧ catC16 (ksI sbox key (10 : Nat)) iv b i_1 ++ encI sbox (ksI sbox key (10 : Nat)) (addB ((rB b i).getD (↑i_1 : Int).toNat nil8) (lastC (ksI sbox key (10 : Nat)) iv b i_1)) (11 : Nat) = catC16 (ksI sbox key (10 : Nat)) iv b (i_1 + (1 : Nat))) ∧ True) (nil8.length ≤ (4294967296 : Nat) ∧ (nil8.length = nil8.length ∧ nil8.length = nil8.length) ∧ (16 : Nat) * i_1 = (16 : Nat) * i_1 ∧ (16 : Nat) * i_1 + nil8.length ≤ (4294967296 : Nat) ∧ inI64 ((↑i_1 : Int) + (1 : Int)) ∧ (i_1 + (1 : Nat) ≤ b.length / (16 : Nat) ∧ b.length / (16 : Nat) - (i_1 + (1 : Nat)) < b.length / (16 : Nat) - i_1) ∧ ([Seg.one (SV.sl (1 : Nat) (rB b i).length (Seg.rows (rB b i).length (rB b i)))] = [Seg.one (SV.sl (1 : Nat) (rB b i).length (Seg.rows (rB b i).length (rB b i)))] ∧ (0 : Nat) = (0 : Nat)) ∧ (↑i_1 : Int) + (1 : Int) = (↑(i_1 + (1 : Nat)) : Int) ∧ ((lastC (ksI sbox key (10 : Nat)) iv b (i_1 + (1 : Nat))).length = (0 : Nat) ∧ Seg.b8s (lastC (ksI sbox key (10 : Nat)) iv b (i_1 + (1 : Nat))).length (lastC (ksI sbox key (10 : Nat)) iv b (i_1 + (1 : Nat))) = Seg.b8s (0 : Nat) nil8) ∧ (16 : Nat) * i_1 + nil8.length = (16 : Nat) * (i_1 + (1 : Nat)) ∧ ([Seg.one (SV.sl (1 : Nat) (rB b i).length (Seg.rows (rB b i).length (rB b i)))] = [Seg.one (SV.sl (1 : Nat) (rB b i).length (Seg.rows (rB b i).length (rB b i)))] ∧ (0 : Nat) = (0 : Nat)) ∧ ([Seg.b8s (256 : Nat) sbox, Seg.b8s (256 : Nat) ibox, Seg.one (SV.sl (16 : Nat) (11 : Nat) (Seg.b8s (176 : Nat) (ksI sbox key (10 : Nat))))] = [Seg.b8s (256 : Nat) sbox, Seg.b8s (256 : Nat) ibox, Seg.one (SV.sl (16 : Nat) (11 : Nat) (Seg.b8s (176 : Nat) (ksI sbox key (10 : Nat))))] ∧ (0 : Nat) = (0 : Nat)) ∧ ((1 : Nat) = (1 : Nat) ∧ iv.length = iv.length ∧ Seg.b8s iv.length iv = Seg.b8s iv.length iv) ∧ ((16 : Nat) * i_1 + nil8.length = (16 : Nat) * (i_1 + (1 : Nat)) ∧ catC16 (ksI sbox key (10 : Nat)) iv b i_1 ++ nil8 = catC16 (ksI sbox key (10 : Nat)) iv b (i_1 + (1 : Nat))) ∧ True))) (inI64 ((16 : Int) * ((↑b.length : Int) / (16 : Int))) ∧ ((0 : Int) ≤ (16 : Int) * ((↑b.length : Int) / (16 : Int)) ∧ (16 : Int) * ((↑b.length : Int) / (16 : Int)) ≤ (↑b.length : Int)) ∧ (key.length = (16 : Nat) ∧ iv.length = (16 : Nat) ∧ (16 : Nat) ≤ (List.take ((16 : Int) * ((↑b.length : Int) / (16 : Int))).toNat b).length ∧ (List.take ((16 : Int) * ((↑b.length : Int) / (16 : Int))).toNat b).length ≤ (131072 : Nat)) ∧ inI64 ((16 : Int) * ((↑b.length : Int) / (16 : Int))) ∧ bsplit (!decide ((↑((16 : Nat) * i_1) : Int) = (16 : Int) * ((↑b.length : Int) / (16 : Int)))) (false = true ∧ True) (bsplit (decide ((1 : Int) < (↑b.length : Int) / (16 : Int))) (inI64 ((↑b.length : Int) / (16 : Int) - (2 : Int)) ∧ inI64 ((16 : Int) * ((↑b.length : Int) / (16 : Int) - (2 : Int))) ∧ ((0 : Int) ≤ (16 : Int) * ((↑b.length : Int) / (16 : Int) - (2 : Int)) ∧ (16 : Int) * ((↑b.length : Int) / (16 : Int) - (2 : Int)) ≤ (↑((16 : Nat) * i_1) : Int)) ∧ (0 : Nat) = (0 : Nat) ∧ (0 : Nat) + ((16 : Int) * ((↑b.length : Int) / (16 : Int) - (2 : Int))).toNat ≤ (16 : Nat) * i_1 ∧ (0 : Nat) + ((16 : Int) * ((↑b.length : Int) / (16 : Int) - (2 : Int))).toNat ≤ (4294967296 : Nat) ∧ inI64 ((16 : Int) * ((↑b.length : Int) / (16 : Int) - (2 : Int)) + (16 : Int)) ∧ ((0 : Int) ≤ (16 : Int) * ((↑b.length : Int) / (16 : Int) - (2 : Int)) + (16 : Int) ∧ (16 : Int) * ((↑b.length : Int) / (16 : Int) - (2 : Int)) + (16 : Int) ≤ (↑((16 : Nat) * i_1) : Int)) ∧ (0 : Nat) + ((16 : Int) * ((↑b.length : Int) / (16 : Int) - (2 : Int))).toNat = (0 : Nat) + ((16 : Int) * ((↑b.length : Int) / (16 : Int) - (2 : Int))).toNat ∧ ((16 : Int) * ((↑b.length : Int) / (16 : Int) - (2 : Int)) + (16 : Int)).toNat + ((16 : Nat) * i_1 - ((16 : Int) * ((↑b.length : Int) / (16 : Int) - (2 : Int)) + (16 : Int)).toNat) ≤ (16 : Nat) * i_1 ∧ (0 : Nat) + ((16 : Int) * ((↑b.length : Int) / (16 : Int) - (2 : Int))).toNat + ((16 : Nat) * i_1 - ((16 : Int) * ((↑b.length : Int) / (16 : Int) - (2 : Int)) + (16 : Int)).toNat) ≤ (4294967296 : Nat) ∧ inI64 ((16 : Int) * ((↑b.length : Int) / (16 : Int) - (2 : Int)) + (16 : Int)) ∧ ((0 : Int) ≤ (16 : Int) * ((↑b.length : Int) / (16 : Int) - (2 : Int)) + (16 : Int) ∧ (16 : Int) * ((↑b.length : Int) / (16 : Int) - (2 : Int)) + (16 : Int) ≤ (↑((16 : Nat) * i_1) : Int)) ∧ ((0 : Int) ≤ (16 : Int) * ((↑b.length : Int) / (16 : Int) - (2 : Int)) ∧ (16 : Int) * ((↑b.length : Int) / (16 : Int) - (2 : Int)) ≤ (↑((16 : Int) * ((↑b.length : Int) / (16 : Int) - (2 : Int)) + (16 : Int)).toNat : Int)) ∧ (0 : Nat) + ((16 : Int) * ((↑b.length : Int) / (16 : Int) - (2 : Int))).toNat + ((16 : Nat) * i_1 - ((16 : Int) * ((↑b.length : Int) / (16 : Int) - (2 : Int)) + (16 : Int)).toNat) = (0 : Nat) + ((16 : Int) * ((↑b.length : Int) / (16 : Int) - (2 : Int))).toNat + ((16 : Nat) * i_1 - ((16 : Int) * ((↑b.length : Int) / (16 : Int) - (2 : Int)) + (16 : Int)).toNat) ∧ ((16 : Int) * ((↑b.length : Int) / (16 : Int) - (2 : Int))).toNat + (((16 : Int) * ((↑b.length : Int) / (16 : Int) - (2 : Int)) + (16 : Int)).toNat - ((16 : Int) * ((↑b.length : Int) / (16 : Int) - (2 : Int))).toNat) ≤ (16 : Nat) * i_1 ∧ (0 : Nat) + ((16 : Int) * ((↑b.length : Int) / (16 : Int) - (2 : Int))).toNat + ((16 : Nat) * i_1 - ((16 : Int) * ((↑b.length : Int) / (16 : Int) - (2 : Int)) + (16 : Int)).toNat) + (((16 : Int) * ((↑b.length : Int) / (16 : Int) - (2 : Int)) + (16 : Int)).toNat - ((16 : Int) * ((↑b.length : Int) / (16 : Int) - (2 : Int))).toNat) ≤ (4294967296 : Nat) ∧ (0 : Nat) + (List.take ((16 : Int) * ((↑b.length : Int) / (16 : Int))).toNat b).length ≤ padN (List.take ((16 : Int) * ((↑b.length : Int) / (16 : Int))).toNat b).length ∧ (0 : Nat) + ((16 : Int) * ((↑b.length : Int) / (16 : Int) - (2 : Int))).toNat + ((16 : Nat) * i_1 - ((16 : Int) * ((↑b.length : Int) / (16 : Int) - (2 : Int)) + (16 : Int)).toNat) + (((16 : Int) * ((↑b.length : Int) / (16 : Int) - (2 : Int)) + (16 : Int)).toNat - ((16 : Int) * ((↑b.length : Int) / (16 : Int) - (2 : Int))).toNat) = (0 : Nat) + ((16 : Int) * ((↑b.length : Int) / (16 : Int) - (2 : Int))).toNat + ((16 : Nat) * i_1 - ((16 : Int) * ((↑b.length : Int) / (16 : Int) - (2 : Int)) + (16 : Int)).toNat) + (((16 : Int) * ((↑b.length : Int) / (16 : Int) - (2 : Int)) + (16 : Int)).toNat - ((16 : Int) * ((↑b.length : Int) / (16 : Int) - (2 : Int))).toNat) ∧ bsplit (decide (List.take (List.take ((16 : Int) * ((↑b.length : Int) / (16 : Int))).toNat b).length (List.drop (0 : Nat) (encF (ksI sbox key (10 : Nat)) iv (List.take ((16 : Int) * ((↑b.length : Int) / (16 : Int))).toNat b))) = nil8 ++ List.take ((16 : Int) * ((↑b.length : Int) / (16 : Int) - (2 : Int))).toNat (List.drop (0 : Nat) (catC16 (ksI sbox key (10 : Nat)) iv b i_1)) ++ List.take ((16 : Nat) * i_1 - ((16 : Int) * ((↑b.length : Int) / (16 : Int) - (2 : Int)) + (16 : Int)).toNat) (List.drop ((16 : Int) * ((↑b.length : Int) / (16 : Int) - (2 : Int)) + (16 : Int)).toNat (catC16 (ksI sbox key (10 : Nat)) iv b i_1)) ++ List.take (((16 : Int) * ((↑b.length : Int) / (16 : Int) - (2 : Int)) + (16 : Int)).toNat - ((16 : Int) * ((↑b.length : Int) / (16 : Int) - (2 : Int))).toNat) (List.drop ((16 : Int) * ((↑b.length : Int) / (16 : Int) - (2 : Int))).toNat (catC16 (ksI sbox key (10 : Nat)) iv b i_1)))) (true = true ∧ True) (false = true ∧ True)) ((0 : Nat) + (List.take ((16 : Int) * ((↑b.length : Int) / (16 : Int))).toNat b).length ≤ padN (List.take ((16 : Int) * ((↑b.length : Int) / (16 : Int))).toNat b).length ∧ (16 : Nat) * i_1 = (16 : Nat) * i_1 ∧ bsplit (decide (List.take (List.take ((16 : Int) * ((↑b.length : Int) / (16 : Int))).toNat b).length (List.drop (0 : Nat) (encF (ksI sbox key (10 : Nat)) iv (List.take ((16 : Int) * ((↑b.length : Int) / (16 : Int))).toNat b))) = catC16 (ksI sbox key (10 : Nat)) iv b i_1)) (true = true ∧ True) (false = true ∧ True)))))))))) := by kernel_rfl
theorem vc_law07_CtsExchanges_0 (key iv b : List (BitVec 8)) : (wpFn E_law07_CtsExchanges 4000 (.mk [(0, cntInv (b.length / 16) fun i s => tplF 8 s [(9, .int i), (8, .os s.next 1 i)] [(s.next, [.rows i (rB b i), .spare])])] [(2, .mk [] [(0, .mk [(0, cntInv (b.length / 16) fun k s => tplF 8 s [(3, .int k)] [(idU s 1 11, [.one (.os s.next 1 (16 * k))]), (idU s 0 4, [.one (.sl 1 (lastC (ksI sbox key 10) iv b k).length (.b8s (lastC (ksI sbox key 10) iv b k).length (lastC (ksI sbox key 10) iv b k)))]), (s.next, [.b8s (16 * k) (catC16 (ksI sbox key 10) iv b k), .spare])])] [])])]) (f5.body.getD .skip) f5.ntmps f5.results.toList [.sl 1 key.length (.b8s key.length key), .sl 1 iv.length (.b8s iv.length iv), .sl 1 b.length (.b8s b.length b)] [] ⟨.bool true, [], []⟩).Holds := by
  refine holdsI (ob_law07_CtsExchanges_0 key iv b) ?_
  refine bsplit_not (fun h0 => ⟨rfl, trivial⟩) (fun h1 => bsplit_not (fun h2 => ⟨rfl, trivial⟩) (fun h3 => bsplit_dec (fun h4 => ⟨rfl, trivial⟩) (fun h5 => bsplit_dec (fun h6 => ⟨rfl, trivial⟩) (fun h7 => ⟨⟨(by omega), (by omega), (by decide)⟩, ⟨(by omega), ⟨rfl, rfl, rfl⟩, ⟨rfl, rfl, rfl⟩, ⟨rfl, rfl, rfl⟩, rfl, rfl, rfl, (by decide), ⟨rfl, rfl, rfl⟩, rfl, rfl, rfl, ⟨rfl, rfl, rfl⟩, rfl, rfl, rfl, rfl, ⟨rfl, rfl, rfl⟩, rfl, rfl, rfl, rfl, ⟨rfl, rfl, rfl⟩, rfl, rfl, rfl, ⟨rfl, rfl, rfl⟩, rfl, rfl, ⟨rfl, ?_⟩, trivial⟩, fun i8 => fun h9 => bsplit_dec (fun h10 => ⟨?a0, ?a1, ?a2, ⟨(by omega), (by omega)⟩, ⟨(by omega), (by omega)⟩, rfl, rfl, (by omega), ?a3, ⟨(by omega), (by omega)⟩, ⟨rfl, rfl, rfl⟩, ⟨rfl, rfl, rfl⟩, ⟨rfl, rfl, rfl⟩, rfl, rfl, rfl, (by omega), ⟨rfl, rfl, rfl⟩, rfl, rfl, rfl, ⟨rfl, rfl, rfl⟩, rfl, rfl, rfl, rfl, ⟨rfl, rfl, rfl⟩, rfl, rfl, rfl, rfl, ⟨rfl, rfl, rfl⟩, rfl, rfl, rfl, ⟨rfl, rfl, rfl⟩, rfl, rfl, ⟨rfl, ?_⟩, trivial⟩) (fun h11 => ⟨rfl, ⟨(by omega), (by omega)⟩, ⟨(by omega), ⟨rfl, rfl⟩, (by decide), ⟨rfl, ?_, ?_⟩, (by decide), ⟨rfl, rfl⟩, ⟨rfl, rfl⟩, ⟨rfl, rfl, rfl⟩, ⟨(by decide), ?_⟩, trivial⟩, fun i12 => fun h13 => bsplit_dec (fun h14 => ⟨⟨(by omega), (by omega)⟩, (by omega), bsplit_not (fun h15 => ⟨?a4, ⟨(by omega), (by omega)⟩, ⟨(by omega), (by omega), ?_, ?_⟩, ?a5, bsplit_not (fun h16 => ⟨?_, trivial⟩) (fun h17 => bsplit_dec (fun h18 => ⟨?a6, ?a7, ⟨(by omega), (by omega)⟩, rfl, (by omega), (by omega), ?a8, ⟨(by omega), (by omega)⟩, rfl, (by omega), (by omega), ?a9, ⟨(by omega), (by omega)⟩, ⟨(by omega), (by omega)⟩, rfl, (by omega), (by omega), ?_, rfl, bsplit_dec (fun h19 => ⟨rfl, trivial⟩) (fun h20 => ⟨?_, trivial⟩)⟩) (fun h21 => ⟨?_, rfl, bsplit_dec (fun h22 => ⟨rfl, trivial⟩) (fun h23 => ⟨?_, trivial⟩)⟩))⟩) (fun h24 => ⟨⟨(by omega), ?_⟩, ⟨rfl, ?_⟩, ⟨rfl, rfl⟩, bsplit_dec (fun h25 => ⟨⟨rfl, ?_⟩, ?_, ⟨rfl, rfl⟩, rfl, ?_, ?a10, ⟨?_, ?_⟩, ⟨rfl, rfl⟩, (by omega), ⟨rfl, ?_, ?_⟩, ?_, ⟨rfl, rfl⟩, ⟨rfl, rfl⟩, ⟨rfl, rfl, rfl⟩, ⟨?_, ?_⟩, trivial⟩) (fun h26 => ⟨(by decide), ⟨rfl, rfl⟩, rfl, ?_, ?a11, ⟨?_, ?_⟩, ⟨rfl, rfl⟩, (by omega), ⟨?_, ?_⟩, ?_, ⟨rfl, rfl⟩, ⟨rfl, rfl⟩, ⟨rfl, rfl, rfl⟩, ⟨?_, ?_⟩, trivial⟩)⟩)⟩) (fun h27 => ⟨?a12, ⟨(by omega), (by omega)⟩, ⟨(by omega), (by omega), ?_, ?_⟩, ?a13, bsplit_not (fun h28 => ⟨?_, trivial⟩) (fun h29 => bsplit_dec (fun h30 => ⟨?a14, ?a15, ⟨(by omega), (by omega)⟩, rfl, (by omega), (by omega), ?a16, ⟨(by omega), (by omega)⟩, rfl, (by omega), (by omega), ?a17, ⟨(by omega), (by omega)⟩, ⟨(by omega), (by omega)⟩, rfl, (by omega), (by omega), ?_, rfl, bsplit_dec (fun h31 => ⟨rfl, trivial⟩) (fun h32 => ⟨?_, trivial⟩)⟩) (fun h33 => ⟨?_, rfl, bsplit_dec (fun h34 => ⟨rfl, trivial⟩) (fun h35 => ⟨?_, trivial⟩)⟩))⟩)⟩)⟩))))
  case a0 | a1 | a2 | a3 | a4 | a5 | a6 | a7 | a8 | a9 | a10 | a11 | a12 | a13 | a14 | a15 | a16 | a17 => (simp only [inI64]; omega)
  iterate 39
    · have hk : key.length = 16 := by omega
      have hv : iv.length = 16 := by omega
      first
        | (rw [rB_zero]; done)
        | (rw [CK7, rB_succ]; done)
        | (rw [lastC_zero]; done)
        | (rw [cat16_zero]; done)
        | (have h14x := h14
           rw [rB_len] at h14x
           have hj : i12 < i8 := by omega
           have hg : (rB b i8).getD (i12 : Int).toNat nil8 = blkC b i12 := by rw [Int.toNat_natCast]; exact rB_get b i12 i8 hj
           have hb9 : (blkC b i12).length = 16 := blkC_len _ _ (by omega)
           first
             | omega
             | (exfalso; rw [hg] at h15; omega)
             | (exfalso; rw [hg, addB_len] at h26; exact h26 hb9)
             | exact lastC_len _ _ _ hv _ (by omega)
             | (rw [hg, addB_len]; exact hb9)
             | (rw [hg, lastC_enc2, lastC_len _ _ _ hv _ (by omega)]; omega)
             | (rw [hg, lastC_enc2, lastC_len _ _ _ hv _ (by omega)]; done)
             | (rw [hg, lastC_enc2]; done)
             | (rw [hg, lastC_enc2, cat16_succ]; done))
        | (have h27x := h27
           rw [rB_len] at h27x
           have hi : i12 = b.length / 16 := by omega
           have hN : ((16 : Int) * ((b.length : Int) / 16)).toNat = 16 * (b.length / 16) := by omega
           subst hi
           have hcl := cat16_len (ksI sbox key 10) iv b hv (b.length / 16) (by omega)
           first
             | (rw [hN, List.length_take]; omega)
             | (exfalso; omega)
             | (have := (padN_le (List.take ((16 : Int) * ((b.length : Int) / 16)).toNat b).length).1; omega)
             | (refine absurd ?_ h35
                rw [hN, encF_whole _ iv b _ rfl (by omega) hv, if_pos (by omega)])
             | (refine absurd ?_ h32
                have e1 : ((16 : Int) * ((b.length : Int) / 16 - 2)).toNat = 16 * (b.length / 16) - 32 := by omega
                have e2 : ((16 : Int) * ((b.length : Int) / 16 - 2) + 16).toNat = 16 * (b.length / 16) - 16 := by omega
                have e3 : 16 * (b.length / 16) - 16 - (16 * (b.length / 16) - 32) = 16 := by omega
                rw [hN, encF_whole _ iv b _ rfl (by omega) hv, if_neg (by omega), e1, e2, e3, List.drop_zero, List.nil_append, List.take_of_length_le (l := List.drop (16 * (b.length / 16) - 16) _) (by rw [List.length_drop, hcl]; exact Nat.le_refl _)]
                rw [exch_def]))
noncomputable def post_law07_CtsExchanges : List SV → List (List Seg) → FPost := fun L H => match L, H with
  | [.sl 1 key_n (.b8s key_m key), .sl 1 iv_n (.b8s iv_m iv), .sl 1 b_n (.b8s b_m b)], [] => .ret ⟨.bool true, [], []⟩
  | _, _ => .fail
noncomputable def S_law07_CtsExchanges : SE.Spec := specOf false [.bytes, .bytes, .bytes] post_law07_CtsExchanges
theorem cok_law07_CtsExchanges : CallOK prog Gl_law07_CtsExchanges 5 S_law07_CtsExchanges := by
  refine callOK_ofI (E := E_law07_CtsExchanges) (code := f5.body.getD .skip) E_law07_CtsExchanges_ok func5 (by kernel_rfl) (by kernel_rfl) fun L H out ht hp => ?_
  have hl := ht.lens
  clear ht
  unfold post_law07_CtsExchanges at hp
  split at hp
  · rename_i key_n key_m key iv_n iv_m iv b_n b_m b
    have hm_key := hl.1.1.1
    have hn_key := hl.1.1.2
    have hm_iv := hl.1.2.1.1
    have hn_iv := hl.1.2.1.2
    have hm_b := hl.1.2.2.1.1
    have hn_b := hl.1.2.2.1.2
    obtain rfl : key_m = key.length := hm_key.symm
    obtain rfl : key_n = key.length := hn_key
    obtain rfl : iv_m = iv.length := hm_iv.symm
    obtain rfl : iv_n = iv.length := hn_iv
    obtain rfl : b_m = b.length := hm_b.symm
    obtain rfl : b_n = b.length := hn_b
    obtain rfl := hp
    exact ⟨_, _, vc_law07_CtsExchanges_0 key iv b⟩
  · exact hp.elim
end Go.Proofs.Try
