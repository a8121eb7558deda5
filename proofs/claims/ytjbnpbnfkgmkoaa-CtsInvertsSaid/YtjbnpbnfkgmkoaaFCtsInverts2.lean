/- slices_Collect -/
import Derived.Test.YtjbnpbnfkgmkoaaFCtsInverts1
set_option linter.all false
namespace Go.Proofs.Try
open Go Go.SE
set_option maxRecDepth 100000
set_option maxHeartbeats 400000
set_option linter.unusedVariables false
attribute [local irreducible] mvI subI addIt mxC mxR mxK encI decI ksI nextK nk1 nk2 tm rl8 sbox ibox addB keyAt rsC rsR ruC ruR ivI encB decB shB subB unshB mixB unmixB rnd unrnd wI wK wJ lastJ lastW incB blkC lastC chC catC16 lastD unC ctsPad exch encF decC decF padN
noncomputable def Gl_slices_Collect : List (Nat × SV) := []
noncomputable def E_slices_Collect : Env := ⟨T, [(59, S_slices_AppendSeq)], Gl_slices_Collect, []⟩
theorem E_slices_Collect_ok : EnvOK prog E_slices_Collect := ⟨T_ok, (.cons cok_slices_AppendSeq .nil), mix_ok, FBOK.nil⟩
theorem ob_slices_Collect_0 (f g ks iv p : List (BitVec 8)) (n m vn vm pn pm : Nat) (hp : f = sbox ∧ g = ibox ∧ n = 11 ∧ m = 176 ∧ vn = 16 ∧ vm = 16 ∧ iv.length = 16 ∧ pn = p.length ∧ pm = p.length ∧ p.length % 16 = 0 ∧ p.length ≤ 200000) : (wpFn E_slices_Collect 2000 (.mk [] []) (f51.body.getD .skip) f51.ntmps f51.results.toList [.fn 48 [] [.ip [.one (.ip [.b8s 256 f, .b8s 256 g, .one (.sl 16 n (.b8s m ks))] 0), .one (.sl 1 vn (.b8s vm iv))] 0, .ip [.one (.fn 60 [] [.ip [.one (.sl 1 pn (.b8s pm p))] 0, .ip [.one (.int 16)] 0])] 0]] [] ⟨.os 0 1 (p.length / 16), [], [[.rows (p.length / 16) (chC ks iv p (p.length / 16)), .spare]]⟩).holds = ((f = sbox ∧ g = ibox ∧ n = (11 : Nat) ∧ m = (176 : Nat) ∧ vn = (16 : Nat) ∧ vm = (16 : Nat) ∧ iv.length = (16 : Nat) ∧ pn = p.length ∧ pm = p.length ∧ p.length % (16 : Nat) = (0 : Nat) ∧ p.length ≤ (200000 : Nat)) ∧ p.length / (16 : Nat) = p.length / (16 : Nat) ∧ (p.length / (16 : Nat) = p.length / (16 : Nat) ∧ chC ks iv p (p.length / (16 : Nat)) = chC ks iv p (p.length / (16 : Nat))) ∧ True) := by kernel_rfl
theorem vc_slices_Collect_0 (f g ks iv p : List (BitVec 8)) (n m vn vm pn pm : Nat) (hp : f = sbox ∧ g = ibox ∧ n = 11 ∧ m = 176 ∧ vn = 16 ∧ vm = 16 ∧ iv.length = 16 ∧ pn = p.length ∧ pm = p.length ∧ p.length % 16 = 0 ∧ p.length ≤ 200000) : (wpFn E_slices_Collect 2000 (.mk [] []) (f51.body.getD .skip) f51.ntmps f51.results.toList [.fn 48 [] [.ip [.one (.ip [.b8s 256 f, .b8s 256 g, .one (.sl 16 n (.b8s m ks))] 0), .one (.sl 1 vn (.b8s vm iv))] 0, .ip [.one (.fn 60 [] [.ip [.one (.sl 1 pn (.b8s pm p))] 0, .ip [.one (.int 16)] 0])] 0]] [] ⟨.os 0 1 (p.length / 16), [], [[.rows (p.length / 16) (chC ks iv p (p.length / 16)), .spare]]⟩).Holds := by
  refine holdsI (ob_slices_Collect_0 f g ks iv p n m vn vm pn pm hp) ?_
  refine ⟨⟨(by (exact hp.1)), (by (exact hp.2.1)), (by omega), (by omega), (by omega), (by omega), (by omega), (by omega), (by omega), (by omega), (by omega)⟩, rfl, ⟨rfl, rfl⟩, trivial⟩
noncomputable def post_slices_Collect : List SV → List (List Seg) → FPost := fun L H => match L, H with
  | [.fn 48 [] [.ip [.one (.ip [.b8s 256 f, .b8s 256 g, .one (.sl 16 n (.b8s m ks))] 0), .one (.sl 1 vn (.b8s vm iv))] 0, .ip [.one (.fn 60 [] [.ip [.one (.sl 1 pn (.b8s pm p))] 0, .ip [.one (.int 16)] 0])] 0]], [] => .vc (f = sbox ∧ g = ibox ∧ n = 11 ∧ m = 176 ∧ vn = 16 ∧ vm = 16 ∧ iv.length = 16 ∧ pn = p.length ∧ pm = p.length ∧ p.length % 16 = 0 ∧ p.length ≤ 200000) (.ret ⟨.os 0 1 (p.length / 16), [], [[.rows (p.length / 16) (chC ks iv p (p.length / 16)), .spare]]⟩)
  | _, _ => .fail
noncomputable def S_slices_Collect : SE.Spec := specOf true [.gen] post_slices_Collect
theorem cok_slices_Collect : CallOK prog Gl_slices_Collect 51 S_slices_Collect := by
  refine callOK_ofI (E := E_slices_Collect) (code := f51.body.getD .skip) E_slices_Collect_ok func51 (by kernel_rfl) (by kernel_rfl) fun L H out ht hp => ?_
  have hl := ht.lens
  clear ht
  unfold post_slices_Collect at hp
  split at hp
  · rename_i f g n m ks vn vm iv pn pm p
    obtain ⟨hpre, hp⟩ := hp
    obtain rfl := hp
    exact ⟨_, _, vc_slices_Collect_0 f g ks iv p n m vn vm pn pm hpre⟩
  · exact hp.elim
end Go.Proofs.Try
/-! cts_mode_encrypt_1 -/
namespace Go.Proofs.Try
open Go Go.SE
set_option maxRecDepth 100000
set_option maxHeartbeats 400000
set_option linter.unusedVariables false
attribute [local irreducible] mvI subI addIt mxC mxR mxK encI decI ksI nextK nk1 nk2 tm rl8 sbox ibox addB keyAt rsC rsR ruC ruR ivI encB decB shB subB unshB mixB unmixB rnd unrnd wI wK wJ lastJ lastW incB blkC lastC chC catC16 lastD unC ctsPad exch encF decC decF padN
noncomputable def Gl_cts_mode_encrypt_1 : List (Nat × SV) := []
noncomputable def E_cts_mode_encrypt_1 : Env := ⟨T, [(50, S_slices_Concat)], Gl_cts_mode_encrypt_1, []⟩
theorem E_cts_mode_encrypt_1_ok : EnvOK prog E_cts_mode_encrypt_1 := ⟨T_ok, (.cons cok_slices_Concat .nil), mix_ok, FBOK.nil⟩
theorem ob_cts_mode_encrypt_1_0 (a : Int) (c : List (BitVec 8)) (cn cm : Nat) (hp : cn = c.length ∧ cm = c.length ∧ a = (c.length : Int) - 32 ∧ 32 ≤ c.length ∧ c.length ≤ 200000) : (wpFn E_cts_mode_encrypt_1 2000 (.mk [] []) (f53.body.getD .skip) f53.ntmps f53.results.toList [.int a, .ip [.one (.sl 1 cn (.b8s cm c))] 0] [] ⟨.osub 0 1 0 c.length, [], [[.b8s c.length (exch c c.length), .spare]]⟩).holds = (((0 : Int) ≤ a ∧ a ≤ (↑cn : Int)) ∧ ((0 : Int) ≤ a ∧ a ≤ (↑a.toNat : Int)) ∧ inI64 (a + (16 : Int)) ∧ ((0 : Int) ≤ a + (16 : Int) ∧ a + (16 : Int) ≤ (↑cn : Int)) ∧ inI64 (a + (16 : Int)) ∧ ((0 : Int) ≤ a + (16 : Int) ∧ a + (16 : Int) ≤ (↑cn : Int)) ∧ ((0 : Int) ≤ a ∧ a ≤ (↑(a + (16 : Int)).toNat : Int)) ∧ [List.take a.toNat c, List.drop (a + (16 : Int)).toNat c, List.take ((a + (16 : Int)).toNat - a.toNat) (List.drop a.toNat c)].length = (3 : Nat) ∧ ([List.take a.toNat c, List.drop (a + (16 : Int)).toNat c, List.take ((a + (16 : Int)).toNat - a.toNat) (List.drop a.toNat c)].flatten.length ≤ (4294967296 : Nat) ∧ [List.take a.toNat c, List.drop (a + (16 : Int)).toNat c, List.take ((a + (16 : Int)).toNat - a.toNat) (List.drop a.toNat c)].length ≤ (4294967296 : Nat)) ∧ ((0 : Nat) = (0 : Nat) ∧ [List.take a.toNat c, List.drop (a + (16 : Int)).toNat c, List.take ((a + (16 : Int)).toNat - a.toNat) (List.drop a.toNat c)].flatten.length = c.length) ∧ ([List.take a.toNat c, List.drop (a + (16 : Int)).toNat c, List.take ((a + (16 : Int)).toNat - a.toNat) (List.drop a.toNat c)].flatten.length = c.length ∧ [List.take a.toNat c, List.drop (a + (16 : Int)).toNat c, List.take ((a + (16 : Int)).toNat - a.toNat) (List.drop a.toNat c)].flatten = exch c c.length) ∧ True) := by kernel_rfl
theorem vc_cts_mode_encrypt_1_0 (a : Int) (c : List (BitVec 8)) (cn cm : Nat) (hp : cn = c.length ∧ cm = c.length ∧ a = (c.length : Int) - 32 ∧ 32 ≤ c.length ∧ c.length ≤ 200000) : (wpFn E_cts_mode_encrypt_1 2000 (.mk [] []) (f53.body.getD .skip) f53.ntmps f53.results.toList [.int a, .ip [.one (.sl 1 cn (.b8s cm c))] 0] [] ⟨.osub 0 1 0 c.length, [], [[.b8s c.length (exch c c.length), .spare]]⟩).Holds := by
  refine holdsI (ob_cts_mode_encrypt_1_0 a c cn cm hp) ?_
  refine ⟨⟨(by omega), (by omega)⟩, ⟨(by omega), (by omega)⟩, ?a0, ⟨(by omega), (by omega)⟩, ?a1, ⟨(by omega), (by omega)⟩, ⟨(by omega), (by omega)⟩, rfl, ⟨?_, ?_⟩, ⟨rfl, ?_⟩, ⟨?_, ?_⟩, trivial⟩
  case a0 | a1 => (simp only [inI64]; omega)
  · have e := exch_eq a c hp.2.2.1 hp.2.2.2.1
    rw [e, exch_len _ hp.2.2.2.1]; omega
  · show 3 ≤ 4294967296
    decide
  · have e := exch_eq a c hp.2.2.1 hp.2.2.2.1
    rw [e, exch_len _ hp.2.2.2.1]
  · have e := exch_eq a c hp.2.2.1 hp.2.2.2.1
    rw [e, exch_len _ hp.2.2.2.1]
  · exact exch_eq a c hp.2.2.1 hp.2.2.2.1
noncomputable def post_cts_mode_encrypt_1 : List SV → List (List Seg) → FPost := fun L H => match L, H with
  | [.int a, .ip [.one (.sl 1 cn (.b8s cm c))] 0], [] => .vc (cn = c.length ∧ cm = c.length ∧ a = (c.length : Int) - 32 ∧ 32 ≤ c.length ∧ c.length ≤ 200000) (.ret ⟨.osub 0 1 0 c.length, [], [[.b8s c.length (exch c c.length), .spare]]⟩)
  | _, _ => .fail
noncomputable def S_cts_mode_encrypt_1 : SE.Spec := specOf false [.gen, .gen] post_cts_mode_encrypt_1
theorem cok_cts_mode_encrypt_1 : CallOK prog Gl_cts_mode_encrypt_1 53 S_cts_mode_encrypt_1 := by
  refine callOK_ofI (E := E_cts_mode_encrypt_1) (code := f53.body.getD .skip) E_cts_mode_encrypt_1_ok func53 (by kernel_rfl) (by kernel_rfl) fun L H out ht hp => ?_
  have hl := ht.lens
  clear ht
  unfold post_cts_mode_encrypt_1 at hp
  split at hp
  · rename_i a cn cm c
    obtain ⟨hpre, hp⟩ := hp
    obtain rfl := hp
    exact ⟨_, _, vc_cts_mode_encrypt_1_0 a c cn cm hpre⟩
  · exact hp.elim
end Go.Proofs.Try
/-! cts_mode_encrypt -/
namespace Go.Proofs.Try
open Go Go.SE
set_option maxRecDepth 100000
set_option maxHeartbeats 400000
set_option linter.unusedVariables false
attribute [local irreducible] mvI subI addIt mxC mxR mxK encI decI ksI nextK nk1 nk2 tm rl8 sbox ibox addB keyAt rsC rsR ruC ruR ivI encB decB shB subB unshB mixB unmixB rnd unrnd wI wK wJ lastJ lastW incB blkC lastC chC catC16 lastD unC ctsPad exch encF decC decF padN
noncomputable def Gl_cts_mode_encrypt : List (Nat × SV) := []
noncomputable def E_cts_mode_encrypt : Env := ⟨T, [(50, S_slices_Concat), (52, S_slices_Chunk), (31, S_cts_mode_chain), (51, S_slices_Collect), (53, S_cts_mode_encrypt_1)], Gl_cts_mode_encrypt, []⟩
theorem E_cts_mode_encrypt_ok : EnvOK prog E_cts_mode_encrypt := ⟨T_ok, (.cons cok_slices_Concat (.cons cok_slices_Chunk (.cons cok_cts_mode_chain (.cons cok_slices_Collect (.cons cok_cts_mode_encrypt_1 .nil))))), mix_ok, FBOK.nil⟩
theorem ob_cts_mode_encrypt_0 (f g ks iv p : List (BitVec 8)) (n m vn vm : Nat) (hp : f = sbox ∧ g = ibox ∧ n = 11 ∧ m = 176 ∧ vn = 16 ∧ vm = 16 ∧ iv.length = 16 ∧ 16 ≤ p.length ∧ p.length ≤ 131072) : (wpFn E_cts_mode_encrypt 4000 (.mk [] []) (f34.body.getD .skip) f34.ntmps f34.results.toList [.agg [.one (.ip [.b8s 256 f, .b8s 256 g, .one (.sl 16 n (.b8s m ks))] 0), .one (.sl 1 vn (.b8s vm iv))], .sl 1 p.length (.b8s p.length p)] [] ⟨.osub 0 1 0 p.length, [], [[.b8s (padN p.length) (encF ks iv p), .spare]]⟩).holds = (((0 : Int) ≤ (↑p.length : Int) ∧ (0 : Int) < (16 : Int)) ∧ inI64 ((16 : Int) - (↑p.length : Int) % (16 : Int)) ∧ ((0 : Int) ≤ (16 : Int) - (↑p.length : Int) % (16 : Int) ∧ (0 : Int) < (16 : Int)) ∧ ((0 : Int) ≤ ((16 : Int) - (↑p.length : Int) % (16 : Int)) % (16 : Int) ∧ ((16 : Int) - (↑p.length : Int) % (16 : Int)) % (16 : Int) = ((16 : Int) - (↑p.length : Int) % (16 : Int)) % (16 : Int) ∧ ((16 : Int) - (↑p.length : Int) % (16 : Int)) % (16 : Int) ≤ (1099511627776 : Int)) ∧ (((16 : Int) - (↑p.length : Int) % (16 : Int)) % (16 : Int)).toNat = (((16 : Int) - (↑p.length : Int) % (16 : Int)) % (16 : Int)).toNat ∧ [p, List.replicate (((16 : Int) - (↑p.length : Int) % (16 : Int)) % (16 : Int)).toNat (0 : BitVec (8 : Nat))].length = (2 : Nat) ∧ ([p, List.replicate (((16 : Int) - (↑p.length : Int) % (16 : Int)) % (16 : Int)).toNat (0 : BitVec (8 : Nat))].flatten.length ≤ (4294967296 : Nat) ∧ [p, List.replicate (((16 : Int) - (↑p.length : Int) % (16 : Int)) % (16 : Int)).toNat (0 : BitVec (8 : Nat))].length ≤ (4294967296 : Nat)) ∧ (0 : Nat) + [p, List.replicate (((16 : Int) - (↑p.length : Int) % (16 : Int)) % (16 : Int)).toNat (0 : BitVec (8 : Nat))].flatten.length ≤ [p, List.replicate (((16 : Int) - (↑p.length : Int) % (16 : Int)) % (16 : Int)).toNat (0 : BitVec (8 : Nat))].flatten.length ∧ (1 : Int) ≤ (16 : Int) ∧ (f = sbox ∧ g = ibox ∧ n = (11 : Nat) ∧ m = (176 : Nat) ∧ vn = (16 : Nat) ∧ vm = (16 : Nat) ∧ iv.length = (16 : Nat) ∧ (List.take [p, List.replicate (((16 : Int) - (↑p.length : Int) % (16 : Int)) % (16 : Int)).toNat (0 : BitVec (8 : Nat))].flatten.length (List.drop (0 : Nat) [p, List.replicate (((16 : Int) - (↑p.length : Int) % (16 : Int)) % (16 : Int)).toNat (0 : BitVec (8 : Nat))].flatten)).length = (List.take [p, List.replicate (((16 : Int) - (↑p.length : Int) % (16 : Int)) % (16 : Int)).toNat (0 : BitVec (8 : Nat))].flatten.length (List.drop (0 : Nat) [p, List.replicate (((16 : Int) - (↑p.length : Int) % (16 : Int)) % (16 : Int)).toNat (0 : BitVec (8 : Nat))].flatten)).length ∧ (List.take [p, List.replicate (((16 : Int) - (↑p.length : Int) % (16 : Int)) % (16 : Int)).toNat (0 : BitVec (8 : Nat))].flatten.length (List.drop (0 : Nat) [p, List.replicate (((16 : Int) - (↑p.length : Int) % (16 : Int)) % (16 : Int)).toNat (0 : BitVec (8 : Nat))].flatten)).length = (List.take [p, List.replicate (((16 : Int) - (↑p.length : Int) % (16 : Int)) % (16 : Int)).toNat (0 : BitVec (8 : Nat))].flatten.length (List.drop (0 : Nat) [p, List.replicate (((16 : Int) - (↑p.length : Int) % (16 : Int)) % (16 : Int)).toNat (0 : BitVec (8 : Nat))].flatten)).length ∧ (List.take [p, List.replicate (((16 : Int) - (↑p.length : Int) % (16 : Int)) % (16 : Int)).toNat (0 : BitVec (8 : Nat))].flatten.length (List.drop (0 : Nat) [p, List.replicate (((16 : Int) - (↑p.length : Int) % (16 : Int)) % (16 : Int)).toNat (0 : BitVec (8 : Nat))].flatten)).length % (16 : Nat) = (0 : Nat) ∧ (List.take [p, List.replicate (((16 : Int) - (↑p.length : Int) % (16 : Int)) % (16 : Int)).toNat (0 : BitVec (8 : Nat))].flatten.length (List.drop (0 : Nat) [p, List.replicate (((16 : Int) - (↑p.length : Int) % (16 : Int)) % (16 : Int)).toNat (0 : BitVec (8 : Nat))].flatten)).length ≤ (200000 : Nat)) ∧ (List.take [p, List.replicate (((16 : Int) - (↑p.length : Int) % (16 : Int)) % (16 : Int)).toNat (0 : BitVec (8 : Nat))].flatten.length (List.drop (0 : Nat) [p, List.replicate (((16 : Int) - (↑p.length : Int) % (16 : Int)) % (16 : Int)).toNat (0 : BitVec (8 : Nat))].flatten)).length / (16 : Nat) = (List.take [p, List.replicate (((16 : Int) - (↑p.length : Int) % (16 : Int)) % (16 : Int)).toNat (0 : BitVec (8 : Nat))].flatten.length (List.drop (0 : Nat) [p, List.replicate (((16 : Int) - (↑p.length : Int) % (16 : Int)) % (16 : Int)).toNat (0 : BitVec (8 : Nat))].flatten)).length / (16 : Nat) ∧ ((chC ks iv (List.take [p, List.replicate (((16 : Int) - (↑p.length : Int) % (16 : Int)) % (16 : Int)).toNat (0 : BitVec (8 : Nat))].flatten.length (List.drop (0 : Nat) [p, List.replicate (((16 : Int) - (↑p.length : Int) % (16 : Int)) % (16 : Int)).toNat (0 : BitVec (8 : Nat))].flatten)) ((List.take [p, List.replicate (((16 : Int) - (↑p.length : Int) % (16 : Int)) % (16 : Int)).toNat (0 : BitVec (8 : Nat))].flatten.length (List.drop (0 : Nat) [p, List.replicate (((16 : Int) - (↑p.length : Int) % (16 : Int)) % (16 : Int)).toNat (0 : BitVec (8 : Nat))].flatten)).length / (16 : Nat))).flatten.length ≤ (4294967296 : Nat) ∧ (chC ks iv (List.take [p, List.replicate (((16 : Int) - (↑p.length : Int) % (16 : Int)) % (16 : Int)).toNat (0 : BitVec (8 : Nat))].flatten.length (List.drop (0 : Nat) [p, List.replicate (((16 : Int) - (↑p.length : Int) % (16 : Int)) % (16 : Int)).toNat (0 : BitVec (8 : Nat))].flatten)) ((List.take [p, List.replicate (((16 : Int) - (↑p.length : Int) % (16 : Int)) % (16 : Int)).toNat (0 : BitVec (8 : Nat))].flatten.length (List.drop (0 : Nat) [p, List.replicate (((16 : Int) - (↑p.length : Int) % (16 : Int)) % (16 : Int)).toNat (0 : BitVec (8 : Nat))].flatten)).length / (16 : Nat))).length ≤ (4294967296 : Nat)) ∧ bsplit (decide ((↑p.length : Int) = (16 : Int))) (((0 : Nat) = (0 : Nat) ∧ (chC ks iv (List.take [p, List.replicate (((16 : Int) - (↑p.length : Int) % (16 : Int)) % (16 : Int)).toNat (0 : BitVec (8 : Nat))].flatten.length (List.drop (0 : Nat) [p, List.replicate (((16 : Int) - (↑p.length : Int) % (16 : Int)) % (16 : Int)).toNat (0 : BitVec (8 : Nat))].flatten)) ((List.take [p, List.replicate (((16 : Int) - (↑p.length : Int) % (16 : Int)) % (16 : Int)).toNat (0 : BitVec (8 : Nat))].flatten.length (List.drop (0 : Nat) [p, List.replicate (((16 : Int) - (↑p.length : Int) % (16 : Int)) % (16 : Int)).toNat (0 : BitVec (8 : Nat))].flatten)).length / (16 : Nat))).flatten.length = p.length) ∧ ((chC ks iv (List.take [p, List.replicate (((16 : Int) - (↑p.length : Int) % (16 : Int)) % (16 : Int)).toNat (0 : BitVec (8 : Nat))].flatten.length (List.drop (0 : Nat) [p, List.replicate (((16 : Int) - (↑p.length : Int) % (16 : Int)) % (16 : Int)).toNat (0 : BitVec (8 : Nat))].flatten)) ((List.take [p, List.replicate (((16 : Int) - (↑p.length : Int) % (16 : Int)) % (16 : Int)).toNat (0 : BitVec (8 : Nat))].flatten.length (List.drop (0 : Nat) [p, List.replicate (((16 : Int) - (↑p.length : Int) % (16 : Int)) % (16 : Int)).toNat (0 : BitVec (8 : Nat))].flatten)).length / (16 : Nat))).flatten.length = padN p.length ∧ (chC ks iv (List.take [p, List.replicate (((16 : Int) - (↑p.length : Int) % (16 : Int)) % (16 : Int)).toNat (0 : BitVec (8 : Nat))].flatten.length (List.drop (0 : Nat) [p, List.replicate (((16 : Int) - (↑p.length : Int) % (16 : Int)) % (16 : Int)).toNat (0 : BitVec (8 : Nat))].flatten)) ((List.take [p, List.replicate (((16 : Int) - (↑p.length : Int) % (16 : Int)) % (16 : Int)).toNat (0 : BitVec (8 : Nat))].flatten.length (List.drop (0 : Nat) [p, List.replicate (((16 : Int) - (↑p.length : Int) % (16 : Int)) % (16 : Int)).toNat (0 : BitVec (8 : Nat))].flatten)).length / (16 : Nat))).flatten = encF ks iv p) ∧ True) (inI64 ((↑(chC ks iv (List.take [p, List.replicate (((16 : Int) - (↑p.length : Int) % (16 : Int)) % (16 : Int)).toNat (0 : BitVec (8 : Nat))].flatten.length (List.drop (0 : Nat) [p, List.replicate (((16 : Int) - (↑p.length : Int) % (16 : Int)) % (16 : Int)).toNat (0 : BitVec (8 : Nat))].flatten)) ((List.take [p, List.replicate (((16 : Int) - (↑p.length : Int) % (16 : Int)) % (16 : Int)).toNat (0 : BitVec (8 : Nat))].flatten.length (List.drop (0 : Nat) [p, List.replicate (((16 : Int) - (↑p.length : Int) % (16 : Int)) % (16 : Int)).toNat (0 : BitVec (8 : Nat))].flatten)).length / (16 : Nat))).flatten.length : Int) - (32 : Int)) ∧ (0 : Nat) + (chC ks iv (List.take [p, List.replicate (((16 : Int) - (↑p.length : Int) % (16 : Int)) % (16 : Int)).toNat (0 : BitVec (8 : Nat))].flatten.length (List.drop (0 : Nat) [p, List.replicate (((16 : Int) - (↑p.length : Int) % (16 : Int)) % (16 : Int)).toNat (0 : BitVec (8 : Nat))].flatten)) ((List.take [p, List.replicate (((16 : Int) - (↑p.length : Int) % (16 : Int)) % (16 : Int)).toNat (0 : BitVec (8 : Nat))].flatten.length (List.drop (0 : Nat) [p, List.replicate (((16 : Int) - (↑p.length : Int) % (16 : Int)) % (16 : Int)).toNat (0 : BitVec (8 : Nat))].flatten)).length / (16 : Nat))).flatten.length ≤ (chC ks iv (List.take [p, List.replicate (((16 : Int) - (↑p.length : Int) % (16 : Int)) % (16 : Int)).toNat (0 : BitVec (8 : Nat))].flatten.length (List.drop (0 : Nat) [p, List.replicate (((16 : Int) - (↑p.length : Int) % (16 : Int)) % (16 : Int)).toNat (0 : BitVec (8 : Nat))].flatten)) ((List.take [p, List.replicate (((16 : Int) - (↑p.length : Int) % (16 : Int)) % (16 : Int)).toNat (0 : BitVec (8 : Nat))].flatten.length (List.drop (0 : Nat) [p, List.replicate (((16 : Int) - (↑p.length : Int) % (16 : Int)) % (16 : Int)).toNat (0 : BitVec (8 : Nat))].flatten)).length / (16 : Nat))).flatten.length ∧ ((chC ks iv (List.take [p, List.replicate (((16 : Int) - (↑p.length : Int) % (16 : Int)) % (16 : Int)).toNat (0 : BitVec (8 : Nat))].flatten.length (List.drop (0 : Nat) [p, List.replicate (((16 : Int) - (↑p.length : Int) % (16 : Int)) % (16 : Int)).toNat (0 : BitVec (8 : Nat))].flatten)) ((List.take [p, List.replicate (((16 : Int) - (↑p.length : Int) % (16 : Int)) % (16 : Int)).toNat (0 : BitVec (8 : Nat))].flatten.length (List.drop (0 : Nat) [p, List.replicate (((16 : Int) - (↑p.length : Int) % (16 : Int)) % (16 : Int)).toNat (0 : BitVec (8 : Nat))].flatten)).length / (16 : Nat))).flatten.length = (List.take (chC ks iv (List.take [p, List.replicate (((16 : Int) - (↑p.length : Int) % (16 : Int)) % (16 : Int)).toNat (0 : BitVec (8 : Nat))].flatten.length (List.drop (0 : Nat) [p, List.replicate (((16 : Int) - (↑p.length : Int) % (16 : Int)) % (16 : Int)).toNat (0 : BitVec (8 : Nat))].flatten)) ((List.take [p, List.replicate (((16 : Int) - (↑p.length : Int) % (16 : Int)) % (16 : Int)).toNat (0 : BitVec (8 : Nat))].flatten.length (List.drop (0 : Nat) [p, List.replicate (((16 : Int) - (↑p.length : Int) % (16 : Int)) % (16 : Int)).toNat (0 : BitVec (8 : Nat))].flatten)).length / (16 : Nat))).flatten.length (List.drop (0 : Nat) (chC ks iv (List.take [p, List.replicate (((16 : Int) - (↑p.length : Int) % (16 : Int)) % (16 : Int)).toNat (0 : BitVec (8 : Nat))].flatten.length (List.drop (0 : Nat) [p, List.replicate (((16 : Int) - (↑p.length : Int) % (16 : Int)) % (16 : Int)).toNat (0 : BitVec (8 : Nat))].flatten)) ((List.take [p, List.replicate (((16 : Int) - (↑p.length : Int) % (16 : Int)) % (16 : Int)).toNat (0 : BitVec (8 : Nat))].flatten.length (List.drop (0 : Nat) [p, List.replicate (((16 : Int) - (↑p.length : Int) % (16 : Int)) % (16 : Int)).toNat (0 : BitVec (8 : Nat))].flatten)).length / (16 : Nat))).flatten)).length ∧ (chC ks iv (List.take [p, List.replicate (((16 : Int) - (↑p.length : Int) % (16 : Int)) % (16 : Int)).toNat (0 : BitVec (8 : Nat))].flatten.length (List.drop (0 : Nat) [p, List.replicate (((16 : Int) - (↑p.length : Int) % (16 : Int)) % (16 : Int)).toNat (0 : BitVec (8 : Nat))].flatten)) ((List.take [p, List.replicate (((16 : Int) - (↑p.length : Int) % (16 : Int)) % (16 : Int)).toNat (0 : BitVec (8 : Nat))].flatten.length (List.drop (0 : Nat) [p, List.replicate (((16 : Int) - (↑p.length : Int) % (16 : Int)) % (16 : Int)).toNat (0 : BitVec (8 : Nat))].flatten)).length / (16 : Nat))).flatten.length = (List.take (chC ks iv (List.take [p, List.replicate (((16 : Int) - (↑p.length : Int) % (16 : Int)) % (16 : Int)).toNat (0 : BitVec (8 : Nat))].flatten.length (List.drop (0 : Nat) [p, List.replicate (((16 : Int) - (↑p.length : Int) % (16 : Int)) % (16 : Int)).toNat (0 : BitVec (8 : Nat))].flatten)) ((List.take [p, List.replicate (((16 : Int) - (↑p.length : Int) % (16 : Int)) % (16 : Int)).toNat (0 : BitVec (8 : Nat))].flatten.length (List.drop (0 : Nat) [p, List.replicate (((16 : Int) - (↑p.length : Int) % (16 : Int)) % (16 : Int)).toNat (0 : BitVec (8 : Nat))].flatten)).length / (16 : Nat))).flatten.length (List.drop (0 : Nat) (chC ks iv (List.take [p, List.replicate (((16 : Int) - (↑p.length : Int) % (16 : Int)) % (16 : Int)).toNat (0 : BitVec (8 : Nat))].flatten.length (List.drop (0 : Nat) [p, List.replicate (((16 : Int) - (↑p.length : Int) % (16 : Int)) % (16 : Int)).toNat (0 : BitVec (8 : Nat))].flatten)) ((List.take [p, List.replicate (((16 : Int) - (↑p.length : Int) % (16 : Int)) % (16 : Int)).toNat (0 : BitVec (8 : Nat))].flatten.length (List.drop (0 : Nat) [p, List.replicate (((16 : Int) - (↑p.length : Int) % (16 : Int)) % (16 : Int)).toNat (0 : BitVec (8 : Nat))].flatten)).length / (16 : Nat))).flatten)).length ∧ (↑(chC ks iv (List.take [p, List.replicate (((16 : Int) - (↑p.length : Int) % (16 : Int)) % (16 : Int)).toNat (0 : BitVec (8 : Nat))].flatten.length (List.drop (0 : Nat) [p, List.replicate (((16 : Int) - (↑p.length : Int) % (16 : Int)) % (16 : Int)).toNat (0 : BitVec (8 : Nat))].flatten)) ((List.take [p, List.replicate (((16 : Int) - (↑p.length : Int) % (16 : Int)) % (16 : Int)).toNat (0 : BitVec (8 : Nat))].flatten.length (List.drop (0 : Nat) [p, List.replicate (((16 : Int) - (↑p.length : Int) % (16 : Int)) % (16 : Int)).toNat (0 : BitVec (8 : Nat))].flatten)).length / (16 : Nat))).flatten.length : Int) - (32 : Int) = (↑(List.take (chC ks iv (List.take [p, List.replicate (((16 : Int) - (↑p.length : Int) % (16 : Int)) % (16 : Int)).toNat (0 : BitVec (8 : Nat))].flatten.length (List.drop (0 : Nat) [p, List.replicate (((16 : Int) - (↑p.length : Int) % (16 : Int)) % (16 : Int)).toNat (0 : BitVec (8 : Nat))].flatten)) ((List.take [p, List.replicate (((16 : Int) - (↑p.length : Int) % (16 : Int)) % (16 : Int)).toNat (0 : BitVec (8 : Nat))].flatten.length (List.drop (0 : Nat) [p, List.replicate (((16 : Int) - (↑p.length : Int) % (16 : Int)) % (16 : Int)).toNat (0 : BitVec (8 : Nat))].flatten)).length / (16 : Nat))).flatten.length (List.drop (0 : Nat) (chC ks iv (List.take [p, List.replicate (((16 : Int) - (↑p.length : Int) % (16 : Int)) % (16 : Int)).toNat (0 : BitVec (8 : Nat))].flatten.length (List.drop (0 : Nat) [p, List.replicate (((16 : Int) - (↑p.length : Int) % (16 : Int)) % (16 : Int)).toNat (0 : BitVec (8 : Nat))].flatten)) ((List.take [p, List.replicate (((16 : Int) - (↑p.length : Int) % (16 : Int)) % (16 : Int)).toNat (0 : BitVec (8 : Nat))].flatten.length (List.drop (0 : Nat) [p, List.replicate (((16 : Int) - (↑p.length : Int) % (16 : Int)) % (16 : Int)).toNat (0 : BitVec (8 : Nat))].flatten)).length / (16 : Nat))).flatten)).length : Int) - (32 : Int) ∧ (32 : Nat) ≤ (List.take (chC ks iv (List.take [p, List.replicate (((16 : Int) - (↑p.length : Int) % (16 : Int)) % (16 : Int)).toNat (0 : BitVec (8 : Nat))].flatten.length (List.drop (0 : Nat) [p, List.replicate (((16 : Int) - (↑p.length : Int) % (16 : Int)) % (16 : Int)).toNat (0 : BitVec (8 : Nat))].flatten)) ((List.take [p, List.replicate (((16 : Int) - (↑p.length : Int) % (16 : Int)) % (16 : Int)).toNat (0 : BitVec (8 : Nat))].flatten.length (List.drop (0 : Nat) [p, List.replicate (((16 : Int) - (↑p.length : Int) % (16 : Int)) % (16 : Int)).toNat (0 : BitVec (8 : Nat))].flatten)).length / (16 : Nat))).flatten.length (List.drop (0 : Nat) (chC ks iv (List.take [p, List.replicate (((16 : Int) - (↑p.length : Int) % (16 : Int)) % (16 : Int)).toNat (0 : BitVec (8 : Nat))].flatten.length (List.drop (0 : Nat) [p, List.replicate (((16 : Int) - (↑p.length : Int) % (16 : Int)) % (16 : Int)).toNat (0 : BitVec (8 : Nat))].flatten)) ((List.take [p, List.replicate (((16 : Int) - (↑p.length : Int) % (16 : Int)) % (16 : Int)).toNat (0 : BitVec (8 : Nat))].flatten.length (List.drop (0 : Nat) [p, List.replicate (((16 : Int) - (↑p.length : Int) % (16 : Int)) % (16 : Int)).toNat (0 : BitVec (8 : Nat))].flatten)).length / (16 : Nat))).flatten)).length ∧ (List.take (chC ks iv (List.take [p, List.replicate (((16 : Int) - (↑p.length : Int) % (16 : Int)) % (16 : Int)).toNat (0 : BitVec (8 : Nat))].flatten.length (List.drop (0 : Nat) [p, List.replicate (((16 : Int) - (↑p.length : Int) % (16 : Int)) % (16 : Int)).toNat (0 : BitVec (8 : Nat))].flatten)) ((List.take [p, List.replicate (((16 : Int) - (↑p.length : Int) % (16 : Int)) % (16 : Int)).toNat (0 : BitVec (8 : Nat))].flatten.length (List.drop (0 : Nat) [p, List.replicate (((16 : Int) - (↑p.length : Int) % (16 : Int)) % (16 : Int)).toNat (0 : BitVec (8 : Nat))].flatten)).length / (16 : Nat))).flatten.length (List.drop (0 : Nat) (chC ks iv (List.take [p, List.replicate (((16 : Int) - (↑p.length : Int) % (16 : Int)) % (16 : Int)).toNat (0 : BitVec (8 : Nat))].flatten.length (List.drop (0 : Nat) [p, List.replicate (((16 : Int) - (↑p.length : Int) % (16 : Int)) % (16 : Int)).toNat (0 : BitVec (8 : Nat))].flatten)) ((List.take [p, List.replicate (((16 : Int) - (↑p.length : Int) % (16 : Int)) % (16 : Int)).toNat (0 : BitVec (8 : Nat))].flatten.length (List.drop (0 : Nat) [p, List.replicate (((16 : Int) - (↑p.length : Int) % (16 : Int)) % (16 : Int)).toNat (0 : BitVec (8 : Nat))].flatten)).length / (16 : Nat))).flatten)).length ≤ (200000 : Nat)) ∧ ((0 : Int) ≤ (↑p.length : Int) ∧ (↑p.length : Int) ≤ (↑(List.take (chC ks iv (List.take [p, List.replicate (((16 : Int) - (↑p.length : Int) % (16 : Int)) % (16 : Int)).toNat (0 : BitVec (8 : Nat))].flatten.length (List.drop (0 : Nat) [p, List.replicate (((16 : Int) - (↑p.length : Int) % (16 : Int)) % (16 : Int)).toNat (0 : BitVec (8 : Nat))].flatten)) ((List.take [p, List.replicate (((16 : Int) - (↑p.length : Int) % (16 : Int)) % (16 : Int)).toNat (0 : BitVec (8 : Nat))].flatten.length (List.drop (0 : Nat) [p, List.replicate (((16 : Int) - (↑p.length : Int) % (16 : Int)) % (16 : Int)).toNat (0 : BitVec (8 : Nat))].flatten)).length / (16 : Nat))).flatten.length (List.drop (0 : Nat) (chC ks iv (List.take [p, List.replicate (((16 : Int) - (↑p.length : Int) % (16 : Int)) % (16 : Int)).toNat (0 : BitVec (8 : Nat))].flatten.length (List.drop (0 : Nat) [p, List.replicate (((16 : Int) - (↑p.length : Int) % (16 : Int)) % (16 : Int)).toNat (0 : BitVec (8 : Nat))].flatten)) ((List.take [p, List.replicate (((16 : Int) - (↑p.length : Int) % (16 : Int)) % (16 : Int)).toNat (0 : BitVec (8 : Nat))].flatten.length (List.drop (0 : Nat) [p, List.replicate (((16 : Int) - (↑p.length : Int) % (16 : Int)) % (16 : Int)).toNat (0 : BitVec (8 : Nat))].flatten)).length / (16 : Nat))).flatten)).length : Int)) ∧ ((0 : Int) ≤ (↑p.length : Int) ∧ (↑p.length : Int) ≤ (↑(↑p.length : Int).toNat : Int)) ∧ ((0 : Nat) + (0 : Nat) = (0 : Nat) ∧ (↑p.length : Int).toNat = p.length) ∧ ((List.take (chC ks iv (List.take [p, List.replicate (((16 : Int) - (↑p.length : Int) % (16 : Int)) % (16 : Int)).toNat (0 : BitVec (8 : Nat))].flatten.length (List.drop (0 : Nat) [p, List.replicate (((16 : Int) - (↑p.length : Int) % (16 : Int)) % (16 : Int)).toNat (0 : BitVec (8 : Nat))].flatten)) ((List.take [p, List.replicate (((16 : Int) - (↑p.length : Int) % (16 : Int)) % (16 : Int)).toNat (0 : BitVec (8 : Nat))].flatten.length (List.drop (0 : Nat) [p, List.replicate (((16 : Int) - (↑p.length : Int) % (16 : Int)) % (16 : Int)).toNat (0 : BitVec (8 : Nat))].flatten)).length / (16 : Nat))).flatten.length (List.drop (0 : Nat) (chC ks iv (List.take [p, List.replicate (((16 : Int) - (↑p.length : Int) % (16 : Int)) % (16 : Int)).toNat (0 : BitVec (8 : Nat))].flatten.length (List.drop (0 : Nat) [p, List.replicate (((16 : Int) - (↑p.length : Int) % (16 : Int)) % (16 : Int)).toNat (0 : BitVec (8 : Nat))].flatten)) ((List.take [p, List.replicate (((16 : Int) - (↑p.length : Int) % (16 : Int)) % (16 : Int)).toNat (0 : BitVec (8 : Nat))].flatten.length (List.drop (0 : Nat) [p, List.replicate (((16 : Int) - (↑p.length : Int) % (16 : Int)) % (16 : Int)).toNat (0 : BitVec (8 : Nat))].flatten)).length / (16 : Nat))).flatten)).length = padN p.length ∧ exch (List.take (chC ks iv (List.take [p, List.replicate (((16 : Int) - (↑p.length : Int) % (16 : Int)) % (16 : Int)).toNat (0 : BitVec (8 : Nat))].flatten.length (List.drop (0 : Nat) [p, List.replicate (((16 : Int) - (↑p.length : Int) % (16 : Int)) % (16 : Int)).toNat (0 : BitVec (8 : Nat))].flatten)) ((List.take [p, List.replicate (((16 : Int) - (↑p.length : Int) % (16 : Int)) % (16 : Int)).toNat (0 : BitVec (8 : Nat))].flatten.length (List.drop (0 : Nat) [p, List.replicate (((16 : Int) - (↑p.length : Int) % (16 : Int)) % (16 : Int)).toNat (0 : BitVec (8 : Nat))].flatten)).length / (16 : Nat))).flatten.length (List.drop (0 : Nat) (chC ks iv (List.take [p, List.replicate (((16 : Int) - (↑p.length : Int) % (16 : Int)) % (16 : Int)).toNat (0 : BitVec (8 : Nat))].flatten.length (List.drop (0 : Nat) [p, List.replicate (((16 : Int) - (↑p.length : Int) % (16 : Int)) % (16 : Int)).toNat (0 : BitVec (8 : Nat))].flatten)) ((List.take [p, List.replicate (((16 : Int) - (↑p.length : Int) % (16 : Int)) % (16 : Int)).toNat (0 : BitVec (8 : Nat))].flatten.length (List.drop (0 : Nat) [p, List.replicate (((16 : Int) - (↑p.length : Int) % (16 : Int)) % (16 : Int)).toNat (0 : BitVec (8 : Nat))].flatten)).length / (16 : Nat))).flatten)) (List.take (chC ks iv (List.take [p, List.replicate (((16 : Int) - (↑p.length : Int) % (16 : Int)) % (16 : Int)).toNat (0 : BitVec (8 : Nat))].flatten.length (List.drop (0 : Nat) [p, List.replicate (((16 : Int) - (↑p.length : Int) % (16 : Int)) % (16 : Int)).toNat (0 : BitVec (8 : Nat))].flatten)) ((List.take [p, List.replicate (((16 : Int) - (↑p.length : Int) % (16 : Int)) % (16 : Int)).toNat (0 : BitVec (8 : Nat))].flatten.length (List.drop (0 : Nat) [p, List.replicate (((16 : Int) - (↑p.length : Int) % (16 : Int)) % (16 : Int)).toNat (0 : BitVec (8 : Nat))].flatten)).length / (16 : Nat))).flatten.length (List.drop (0 : Nat) (chC ks iv (List.take [p, List.replicate (((16 : Int) - (↑p.length : Int) % (16 : Int)) % (16 : Int)).toNat (0 : BitVec (8 : Nat))].flatten.length (List.drop (0 : Nat) [p, List.replicate (((16 : Int) - (↑p.length : Int) % (16 : Int)) % (16 : Int)).toNat (0 : BitVec (8 : Nat))].flatten)) ((List.take [p, List.replicate (((16 : Int) - (↑p.length : Int) % (16 : Int)) % (16 : Int)).toNat (0 : BitVec (8 : Nat))].flatten.length (List.drop (0 : Nat) [p, List.replicate (((16 : Int) - (↑p.length : Int) % (16 : Int)) % (16 : Int)).toNat (0 : BitVec (8 : Nat))].flatten)).length / (16 : Nat))).flatten)).length = encF ks iv p) ∧ True)) := by kernel_rfl
theorem vc_cts_mode_encrypt_0 (f g ks iv p : List (BitVec 8)) (n m vn vm : Nat) (hp : f = sbox ∧ g = ibox ∧ n = 11 ∧ m = 176 ∧ vn = 16 ∧ vm = 16 ∧ iv.length = 16 ∧ 16 ≤ p.length ∧ p.length ≤ 131072) : (wpFn E_cts_mode_encrypt 4000 (.mk [] []) (f34.body.getD .skip) f34.ntmps f34.results.toList [.agg [.one (.ip [.b8s 256 f, .b8s 256 g, .one (.sl 16 n (.b8s m ks))] 0), .one (.sl 1 vn (.b8s vm iv))], .sl 1 p.length (.b8s p.length p)] [] ⟨.osub 0 1 0 p.length, [], [[.b8s (padN p.length) (encF ks iv p), .spare]]⟩).Holds := by
  refine holdsI (ob_cts_mode_encrypt_0 f g ks iv p n m vn vm hp) ?_
  refine ⟨⟨(by omega), (by decide)⟩, ?a0, ⟨(by omega), (by decide)⟩, ⟨(by omega), rfl, (by omega)⟩, rfl, rfl, ⟨?_, ?_⟩, (by omega), (by decide), ⟨?_, ?_, (by omega), (by omega), (by omega), (by omega), (by omega), rfl, rfl, ?_, ?_⟩, rfl, ⟨?_, ?_⟩, bsplit_dec (fun h0 => ⟨⟨rfl, ?_⟩, ⟨?_, ?_⟩, trivial⟩) (fun h1 => ⟨?_, (by omega), ⟨?_, ?_, ?_, ?_, ?_⟩, ⟨(by omega), ?_⟩, ⟨(by omega), (by omega)⟩, ⟨(by decide), (by omega)⟩, ⟨?_, ?_⟩, trivial⟩)⟩
  case a0 => (simp only [inI64]; omega)
  · obtain ⟨rfl, rfl, rfl, rfl, rfl, rfl, hv, h16, hb⟩ := hp
    have hpl := padN_le p.length
    try simp only [tk_all, pad_flat]
    first
      | done
      | rfl
      | (show 2 ≤ 4294967296; decide)
      | (rw [ctsPad_len]; exact padN_mod _)
      | (rw [ctsPad_len]; omega)
      | (rw [chF_len _ _ _ hv]; omega)
      | (rw [chC_len, ctsPad_len]; omega)
      | (simp only [inI64, chF_len _ _ _ hv]; omega)
      | exact (encF_16 _ _ _ (by omega)).symm
      | exact (encF_n _ _ _ hv (by omega)).symm
      | (rw [chF_len _ _ _ hv, show p.length = 16 by omega, padN_16])
      | (rw [chF_len _ _ _ hv]; exact padN_big _ h16 (by omega))
      | (have h32 := padN_big _ h16 (show ¬ p.length = 16 by omega); rw [chF_len _ _ _ hv]; omega)
      | (rw [chF_len _ _ _ hv])
  · obtain ⟨rfl, rfl, rfl, rfl, rfl, rfl, hv, h16, hb⟩ := hp
    have hpl := padN_le p.length
    try simp only [tk_all, pad_flat]
    first
      | done
      | rfl
      | (show 2 ≤ 4294967296; decide)
      | (rw [ctsPad_len]; exact padN_mod _)
      | (rw [ctsPad_len]; omega)
      | (rw [chF_len _ _ _ hv]; omega)
      | (rw [chC_len, ctsPad_len]; omega)
      | (simp only [inI64, chF_len _ _ _ hv]; omega)
      | exact (encF_16 _ _ _ (by omega)).symm
      | exact (encF_n _ _ _ hv (by omega)).symm
      | (rw [chF_len _ _ _ hv, show p.length = 16 by omega, padN_16])
      | (rw [chF_len _ _ _ hv]; exact padN_big _ h16 (by omega))
      | (have h32 := padN_big _ h16 (show ¬ p.length = 16 by omega); rw [chF_len _ _ _ hv]; omega)
      | (rw [chF_len _ _ _ hv])
  · exact hp.1
  · exact hp.2.1
  · obtain ⟨rfl, rfl, rfl, rfl, rfl, rfl, hv, h16, hb⟩ := hp
    have hpl := padN_le p.length
    try simp only [tk_all, pad_flat]
    first
      | done
      | rfl
      | (show 2 ≤ 4294967296; decide)
      | (rw [ctsPad_len]; exact padN_mod _)
      | (rw [ctsPad_len]; omega)
      | (rw [chF_len _ _ _ hv]; omega)
      | (rw [chC_len, ctsPad_len]; omega)
      | (simp only [inI64, chF_len _ _ _ hv]; omega)
      | exact (encF_16 _ _ _ (by omega)).symm
      | exact (encF_n _ _ _ hv (by omega)).symm
      | (rw [chF_len _ _ _ hv, show p.length = 16 by omega, padN_16])
      | (rw [chF_len _ _ _ hv]; exact padN_big _ h16 (by omega))
      | (have h32 := padN_big _ h16 (show ¬ p.length = 16 by omega); rw [chF_len _ _ _ hv]; omega)
      | (rw [chF_len _ _ _ hv])
  · obtain ⟨rfl, rfl, rfl, rfl, rfl, rfl, hv, h16, hb⟩ := hp
    have hpl := padN_le p.length
    try simp only [tk_all, pad_flat]
    first
      | done
      | rfl
      | (show 2 ≤ 4294967296; decide)
      | (rw [ctsPad_len]; exact padN_mod _)
      | (rw [ctsPad_len]; omega)
      | (rw [chF_len _ _ _ hv]; omega)
      | (rw [chC_len, ctsPad_len]; omega)
      | (simp only [inI64, chF_len _ _ _ hv]; omega)
      | exact (encF_16 _ _ _ (by omega)).symm
      | exact (encF_n _ _ _ hv (by omega)).symm
      | (rw [chF_len _ _ _ hv, show p.length = 16 by omega, padN_16])
      | (rw [chF_len _ _ _ hv]; exact padN_big _ h16 (by omega))
      | (have h32 := padN_big _ h16 (show ¬ p.length = 16 by omega); rw [chF_len _ _ _ hv]; omega)
      | (rw [chF_len _ _ _ hv])
  · obtain ⟨rfl, rfl, rfl, rfl, rfl, rfl, hv, h16, hb⟩ := hp
    have hpl := padN_le p.length
    try simp only [tk_all, pad_flat]
    first
      | done
      | rfl
      | (show 2 ≤ 4294967296; decide)
      | (rw [ctsPad_len]; exact padN_mod _)
      | (rw [ctsPad_len]; omega)
      | (rw [chF_len _ _ _ hv]; omega)
      | (rw [chC_len, ctsPad_len]; omega)
      | (simp only [inI64, chF_len _ _ _ hv]; omega)
      | exact (encF_16 _ _ _ (by omega)).symm
      | exact (encF_n _ _ _ hv (by omega)).symm
      | (rw [chF_len _ _ _ hv, show p.length = 16 by omega, padN_16])
      | (rw [chF_len _ _ _ hv]; exact padN_big _ h16 (by omega))
      | (have h32 := padN_big _ h16 (show ¬ p.length = 16 by omega); rw [chF_len _ _ _ hv]; omega)
      | (rw [chF_len _ _ _ hv])
  · obtain ⟨rfl, rfl, rfl, rfl, rfl, rfl, hv, h16, hb⟩ := hp
    have hpl := padN_le p.length
    try simp only [tk_all, pad_flat]
    first
      | done
      | rfl
      | (show 2 ≤ 4294967296; decide)
      | (rw [ctsPad_len]; exact padN_mod _)
      | (rw [ctsPad_len]; omega)
      | (rw [chF_len _ _ _ hv]; omega)
      | (rw [chC_len, ctsPad_len]; omega)
      | (simp only [inI64, chF_len _ _ _ hv]; omega)
      | exact (encF_16 _ _ _ (by omega)).symm
      | exact (encF_n _ _ _ hv (by omega)).symm
      | (rw [chF_len _ _ _ hv, show p.length = 16 by omega, padN_16])
      | (rw [chF_len _ _ _ hv]; exact padN_big _ h16 (by omega))
      | (have h32 := padN_big _ h16 (show ¬ p.length = 16 by omega); rw [chF_len _ _ _ hv]; omega)
      | (rw [chF_len _ _ _ hv])
  · obtain ⟨rfl, rfl, rfl, rfl, rfl, rfl, hv, h16, hb⟩ := hp
    have hpl := padN_le p.length
    try simp only [tk_all, pad_flat]
    first
      | done
      | rfl
      | (show 2 ≤ 4294967296; decide)
      | (rw [ctsPad_len]; exact padN_mod _)
      | (rw [ctsPad_len]; omega)
      | (rw [chF_len _ _ _ hv]; omega)
      | (rw [chC_len, ctsPad_len]; omega)
      | (simp only [inI64, chF_len _ _ _ hv]; omega)
      | exact (encF_16 _ _ _ (by omega)).symm
      | exact (encF_n _ _ _ hv (by omega)).symm
      | (rw [chF_len _ _ _ hv, show p.length = 16 by omega, padN_16])
      | (rw [chF_len _ _ _ hv]; exact padN_big _ h16 (by omega))
      | (have h32 := padN_big _ h16 (show ¬ p.length = 16 by omega); rw [chF_len _ _ _ hv]; omega)
      | (rw [chF_len _ _ _ hv])
  · obtain ⟨rfl, rfl, rfl, rfl, rfl, rfl, hv, h16, hb⟩ := hp
    have hpl := padN_le p.length
    try simp only [tk_all, pad_flat]
    first
      | done
      | rfl
      | (show 2 ≤ 4294967296; decide)
      | (rw [ctsPad_len]; exact padN_mod _)
      | (rw [ctsPad_len]; omega)
      | (rw [chF_len _ _ _ hv]; omega)
      | (rw [chC_len, ctsPad_len]; omega)
      | (simp only [inI64, chF_len _ _ _ hv]; omega)
      | exact (encF_16 _ _ _ (by omega)).symm
      | exact (encF_n _ _ _ hv (by omega)).symm
      | (rw [chF_len _ _ _ hv, show p.length = 16 by omega, padN_16])
      | (rw [chF_len _ _ _ hv]; exact padN_big _ h16 (by omega))
      | (have h32 := padN_big _ h16 (show ¬ p.length = 16 by omega); rw [chF_len _ _ _ hv]; omega)
      | (rw [chF_len _ _ _ hv])
  · obtain ⟨rfl, rfl, rfl, rfl, rfl, rfl, hv, h16, hb⟩ := hp
    have hpl := padN_le p.length
    try simp only [tk_all, pad_flat]
    first
      | done
      | rfl
      | (show 2 ≤ 4294967296; decide)
      | (rw [ctsPad_len]; exact padN_mod _)
      | (rw [ctsPad_len]; omega)
      | (rw [chF_len _ _ _ hv]; omega)
      | (rw [chC_len, ctsPad_len]; omega)
      | (simp only [inI64, chF_len _ _ _ hv]; omega)
      | exact (encF_16 _ _ _ (by omega)).symm
      | exact (encF_n _ _ _ hv (by omega)).symm
      | (rw [chF_len _ _ _ hv, show p.length = 16 by omega, padN_16])
      | (rw [chF_len _ _ _ hv]; exact padN_big _ h16 (by omega))
      | (have h32 := padN_big _ h16 (show ¬ p.length = 16 by omega); rw [chF_len _ _ _ hv]; omega)
      | (rw [chF_len _ _ _ hv])
  · obtain ⟨rfl, rfl, rfl, rfl, rfl, rfl, hv, h16, hb⟩ := hp
    have hpl := padN_le p.length
    try simp only [tk_all, pad_flat]
    first
      | done
      | rfl
      | (show 2 ≤ 4294967296; decide)
      | (rw [ctsPad_len]; exact padN_mod _)
      | (rw [ctsPad_len]; omega)
      | (rw [chF_len _ _ _ hv]; omega)
      | (rw [chC_len, ctsPad_len]; omega)
      | (simp only [inI64, chF_len _ _ _ hv]; omega)
      | exact (encF_16 _ _ _ (by omega)).symm
      | exact (encF_n _ _ _ hv (by omega)).symm
      | (rw [chF_len _ _ _ hv, show p.length = 16 by omega, padN_16])
      | (rw [chF_len _ _ _ hv]; exact padN_big _ h16 (by omega))
      | (have h32 := padN_big _ h16 (show ¬ p.length = 16 by omega); rw [chF_len _ _ _ hv]; omega)
      | (rw [chF_len _ _ _ hv])
  · obtain ⟨rfl, rfl, rfl, rfl, rfl, rfl, hv, h16, hb⟩ := hp
    have hpl := padN_le p.length
    try simp only [tk_all, pad_flat]
    first
      | done
      | rfl
      | (show 2 ≤ 4294967296; decide)
      | (rw [ctsPad_len]; exact padN_mod _)
      | (rw [ctsPad_len]; omega)
      | (rw [chF_len _ _ _ hv]; omega)
      | (rw [chC_len, ctsPad_len]; omega)
      | (simp only [inI64, chF_len _ _ _ hv]; omega)
      | exact (encF_16 _ _ _ (by omega)).symm
      | exact (encF_n _ _ _ hv (by omega)).symm
      | (rw [chF_len _ _ _ hv, show p.length = 16 by omega, padN_16])
      | (rw [chF_len _ _ _ hv]; exact padN_big _ h16 (by omega))
      | (have h32 := padN_big _ h16 (show ¬ p.length = 16 by omega); rw [chF_len _ _ _ hv]; omega)
      | (rw [chF_len _ _ _ hv])
  · obtain ⟨rfl, rfl, rfl, rfl, rfl, rfl, hv, h16, hb⟩ := hp
    have hpl := padN_le p.length
    try simp only [tk_all, pad_flat]
    first
      | done
      | rfl
      | (show 2 ≤ 4294967296; decide)
      | (rw [ctsPad_len]; exact padN_mod _)
      | (rw [ctsPad_len]; omega)
      | (rw [chF_len _ _ _ hv]; omega)
      | (rw [chC_len, ctsPad_len]; omega)
      | (simp only [inI64, chF_len _ _ _ hv]; omega)
      | exact (encF_16 _ _ _ (by omega)).symm
      | exact (encF_n _ _ _ hv (by omega)).symm
      | (rw [chF_len _ _ _ hv, show p.length = 16 by omega, padN_16])
      | (rw [chF_len _ _ _ hv]; exact padN_big _ h16 (by omega))
      | (have h32 := padN_big _ h16 (show ¬ p.length = 16 by omega); rw [chF_len _ _ _ hv]; omega)
      | (rw [chF_len _ _ _ hv])
  · obtain ⟨rfl, rfl, rfl, rfl, rfl, rfl, hv, h16, hb⟩ := hp
    have hpl := padN_le p.length
    try simp only [tk_all, pad_flat]
    first
      | done
      | rfl
      | (show 2 ≤ 4294967296; decide)
      | (rw [ctsPad_len]; exact padN_mod _)
      | (rw [ctsPad_len]; omega)
      | (rw [chF_len _ _ _ hv]; omega)
      | (rw [chC_len, ctsPad_len]; omega)
      | (simp only [inI64, chF_len _ _ _ hv]; omega)
      | exact (encF_16 _ _ _ (by omega)).symm
      | exact (encF_n _ _ _ hv (by omega)).symm
      | (rw [chF_len _ _ _ hv, show p.length = 16 by omega, padN_16])
      | (rw [chF_len _ _ _ hv]; exact padN_big _ h16 (by omega))
      | (have h32 := padN_big _ h16 (show ¬ p.length = 16 by omega); rw [chF_len _ _ _ hv]; omega)
      | (rw [chF_len _ _ _ hv])
  · obtain ⟨rfl, rfl, rfl, rfl, rfl, rfl, hv, h16, hb⟩ := hp
    have hpl := padN_le p.length
    try simp only [tk_all, pad_flat]
    first
      | done
      | rfl
      | (show 2 ≤ 4294967296; decide)
      | (rw [ctsPad_len]; exact padN_mod _)
      | (rw [ctsPad_len]; omega)
      | (rw [chF_len _ _ _ hv]; omega)
      | (rw [chC_len, ctsPad_len]; omega)
      | (simp only [inI64, chF_len _ _ _ hv]; omega)
      | exact (encF_16 _ _ _ (by omega)).symm
      | exact (encF_n _ _ _ hv (by omega)).symm
      | (rw [chF_len _ _ _ hv, show p.length = 16 by omega, padN_16])
      | (rw [chF_len _ _ _ hv]; exact padN_big _ h16 (by omega))
      | (have h32 := padN_big _ h16 (show ¬ p.length = 16 by omega); rw [chF_len _ _ _ hv]; omega)
      | (rw [chF_len _ _ _ hv])
  · obtain ⟨rfl, rfl, rfl, rfl, rfl, rfl, hv, h16, hb⟩ := hp
    have hpl := padN_le p.length
    try simp only [tk_all, pad_flat]
    first
      | done
      | rfl
      | (show 2 ≤ 4294967296; decide)
      | (rw [ctsPad_len]; exact padN_mod _)
      | (rw [ctsPad_len]; omega)
      | (rw [chF_len _ _ _ hv]; omega)
      | (rw [chC_len, ctsPad_len]; omega)
      | (simp only [inI64, chF_len _ _ _ hv]; omega)
      | exact (encF_16 _ _ _ (by omega)).symm
      | exact (encF_n _ _ _ hv (by omega)).symm
      | (rw [chF_len _ _ _ hv, show p.length = 16 by omega, padN_16])
      | (rw [chF_len _ _ _ hv]; exact padN_big _ h16 (by omega))
      | (have h32 := padN_big _ h16 (show ¬ p.length = 16 by omega); rw [chF_len _ _ _ hv]; omega)
      | (rw [chF_len _ _ _ hv])
  · obtain ⟨rfl, rfl, rfl, rfl, rfl, rfl, hv, h16, hb⟩ := hp
    have hpl := padN_le p.length
    try simp only [tk_all, pad_flat]
    first
      | done
      | rfl
      | (show 2 ≤ 4294967296; decide)
      | (rw [ctsPad_len]; exact padN_mod _)
      | (rw [ctsPad_len]; omega)
      | (rw [chF_len _ _ _ hv]; omega)
      | (rw [chC_len, ctsPad_len]; omega)
      | (simp only [inI64, chF_len _ _ _ hv]; omega)
      | exact (encF_16 _ _ _ (by omega)).symm
      | exact (encF_n _ _ _ hv (by omega)).symm
      | (rw [chF_len _ _ _ hv, show p.length = 16 by omega, padN_16])
      | (rw [chF_len _ _ _ hv]; exact padN_big _ h16 (by omega))
      | (have h32 := padN_big _ h16 (show ¬ p.length = 16 by omega); rw [chF_len _ _ _ hv]; omega)
      | (rw [chF_len _ _ _ hv])
  · obtain ⟨rfl, rfl, rfl, rfl, rfl, rfl, hv, h16, hb⟩ := hp
    have hpl := padN_le p.length
    try simp only [tk_all, pad_flat]
    first
      | done
      | rfl
      | (show 2 ≤ 4294967296; decide)
      | (rw [ctsPad_len]; exact padN_mod _)
      | (rw [ctsPad_len]; omega)
      | (rw [chF_len _ _ _ hv]; omega)
      | (rw [chC_len, ctsPad_len]; omega)
      | (simp only [inI64, chF_len _ _ _ hv]; omega)
      | exact (encF_16 _ _ _ (by omega)).symm
      | exact (encF_n _ _ _ hv (by omega)).symm
      | (rw [chF_len _ _ _ hv, show p.length = 16 by omega, padN_16])
      | (rw [chF_len _ _ _ hv]; exact padN_big _ h16 (by omega))
      | (have h32 := padN_big _ h16 (show ¬ p.length = 16 by omega); rw [chF_len _ _ _ hv]; omega)
      | (rw [chF_len _ _ _ hv])
  · obtain ⟨rfl, rfl, rfl, rfl, rfl, rfl, hv, h16, hb⟩ := hp
    have hpl := padN_le p.length
    try simp only [tk_all, pad_flat]
    first
      | done
      | rfl
      | (show 2 ≤ 4294967296; decide)
      | (rw [ctsPad_len]; exact padN_mod _)
      | (rw [ctsPad_len]; omega)
      | (rw [chF_len _ _ _ hv]; omega)
      | (rw [chC_len, ctsPad_len]; omega)
      | (simp only [inI64, chF_len _ _ _ hv]; omega)
      | exact (encF_16 _ _ _ (by omega)).symm
      | exact (encF_n _ _ _ hv (by omega)).symm
      | (rw [chF_len _ _ _ hv, show p.length = 16 by omega, padN_16])
      | (rw [chF_len _ _ _ hv]; exact padN_big _ h16 (by omega))
      | (have h32 := padN_big _ h16 (show ¬ p.length = 16 by omega); rw [chF_len _ _ _ hv]; omega)
      | (rw [chF_len _ _ _ hv])
noncomputable def post_cts_mode_encrypt : List SV → List (List Seg) → FPost := fun L H => match L, H with
  | [.agg [.one (.ip [.b8s 256 f, .b8s 256 g, .one (.sl 16 n (.b8s m ks))] 0), .one (.sl 1 vn (.b8s vm iv))], .sl 1 p_n (.b8s p_m p)], [] => .vc (f = sbox ∧ g = ibox ∧ n = 11 ∧ m = 176 ∧ vn = 16 ∧ vm = 16 ∧ iv.length = 16 ∧ 16 ≤ p.length ∧ p.length ≤ 131072) (.ret ⟨.osub 0 1 0 p.length, [], [[.b8s (padN p.length) (encF ks iv p), .spare]]⟩)
  | _, _ => .fail
noncomputable def S_cts_mode_encrypt : SE.Spec := specOf false [.gen, .bytes] post_cts_mode_encrypt
theorem cok_cts_mode_encrypt : CallOK prog Gl_cts_mode_encrypt 34 S_cts_mode_encrypt := by
  refine callOK_ofI (E := E_cts_mode_encrypt) (code := f34.body.getD .skip) E_cts_mode_encrypt_ok func34 (by kernel_rfl) (by kernel_rfl) fun L H out ht hp => ?_
  have hl := ht.lens
  clear ht
  unfold post_cts_mode_encrypt at hp
  split at hp
  · rename_i f g n m ks vn vm iv p_n p_m p
    have hm_p := hl.1.2.1.1
    have hn_p := hl.1.2.1.2
    obtain rfl : p_m = p.length := hm_p.symm
    obtain rfl : p_n = p.length := hn_p
    obtain ⟨hpre, hp⟩ := hp
    obtain rfl := hp
    exact ⟨_, _, vc_cts_mode_encrypt_0 f g ks iv p n m vn vm hpre⟩
  · exact hp.elim
end Go.Proofs.Try
/-! cts_checked__enc -/
namespace Go.Proofs.Try
open Go Go.SE
set_option maxRecDepth 100000
set_option maxHeartbeats 400000
set_option linter.unusedVariables false
attribute [local irreducible] mvI subI addIt mxC mxR mxK encI decI ksI nextK nk1 nk2 tm rl8 sbox ibox addB keyAt rsC rsR ruC ruR ivI encB decB shB subB unshB mixB unmixB rnd unrnd wI wK wJ lastJ lastW incB blkC lastC chC catC16 lastD unC ctsPad exch encF decC decF padN
noncomputable def Gl_cts_checked__enc : List (Nat × SV) := []
noncomputable def E_cts_checked__enc : Env := ⟨T, [(29, S_cts_open), (34, S_cts_mode_encrypt)], Gl_cts_checked__enc, []⟩
theorem E_cts_checked__enc_ok : EnvOK prog E_cts_checked__enc := ⟨T_ok, (.cons cok_cts_open (.cons cok_cts_mode_encrypt .nil)), mix_ok, FBOK.nil⟩
theorem ob_cts_checked__enc_0t (key iv p : List (BitVec 8)) (hp : iv.length ≤ 200) (hs0 : (!decide (key.length = 16 ∧ iv.length = 16)) = true) : (wpFn E_cts_checked__enc 4000 (.mk [] []) (f33.body.getD .skip) f33.ntmps f33.results.toList [.sl 1 key.length (.b8s key.length key), .sl 1 iv.length (.b8s iv.length iv), .sl 1 p.length (.b8s p.length p), .fn 34 [] []] [] ⟨.tup [.nils, .int 2], [], []⟩).holds = (iv.length ≤ (200 : Nat) ∧ bsplit (decide (key.length = (16 : Nat))) (bsplit (!decide ((if iv.length = (16 : Nat) then (0 : Int) else (2 : Int)) = (0 : Int))) ((if iv.length = (16 : Nat) then (0 : Int) else (2 : Int)) = (2 : Int) ∧ True) (bsplit (decide ((↑p.length : Int) < (16 : Int))) ((4 : Int) = (2 : Int) ∧ True) (bsplit (decide ((131072 : Int) < (↑p.length : Int))) ((5 : Int) = (2 : Int) ∧ True) ((176 : Nat) = (11 : Nat) * (16 : Nat) ∧ (sbox = sbox ∧ ibox = ibox ∧ (11 : Nat) = (11 : Nat) ∧ (176 : Nat) = (176 : Nat) ∧ iv.length = (16 : Nat) ∧ iv.length = (16 : Nat) ∧ iv.length = (16 : Nat) ∧ (16 : Nat) ≤ p.length ∧ p.length ≤ (131072 : Nat)) ∧ False)))) ((2 : Int) = (2 : Int) ∧ True)) := by kernel_rfl
theorem vc_cts_checked__enc_0t (key iv p : List (BitVec 8)) (hp : iv.length ≤ 200) (hs0 : (!decide (key.length = 16 ∧ iv.length = 16)) = true) : (wpFn E_cts_checked__enc 4000 (.mk [] []) (f33.body.getD .skip) f33.ntmps f33.results.toList [.sl 1 key.length (.b8s key.length key), .sl 1 iv.length (.b8s iv.length iv), .sl 1 p.length (.b8s p.length p), .fn 34 [] []] [] ⟨.tup [.nils, .int 2], [], []⟩).Holds := by
  refine holdsI (ob_cts_checked__enc_0t key iv p hp hs0) ?_
  refine ⟨(by omega), bsplit_dec (fun h0 => bsplit_not (fun h1 => ⟨(by omega), trivial⟩) (fun h2 => (by exfalso; (simp at *; omega)))) (fun h3 => ⟨rfl, trivial⟩)⟩
theorem ob_cts_checked__enc_0f (key iv p : List (BitVec 8)) (hp : iv.length ≤ 200) (hs0 : (!decide (key.length = 16 ∧ iv.length = 16)) = false) (hs1 : (decide (p.length < 16)) = true) : (wpFn E_cts_checked__enc 4000 (.mk [] []) (f33.body.getD .skip) f33.ntmps f33.results.toList [.sl 1 key.length (.b8s key.length key), .sl 1 iv.length (.b8s iv.length iv), .sl 1 p.length (.b8s p.length p), .fn 34 [] []] [] ⟨.tup [.nils, .int 4], [], []⟩).holds = (iv.length ≤ (200 : Nat) ∧ bsplit (decide (key.length = (16 : Nat))) (bsplit (!decide ((if iv.length = (16 : Nat) then (0 : Int) else (2 : Int)) = (0 : Int))) ((if iv.length = (16 : Nat) then (0 : Int) else (2 : Int)) = (4 : Int) ∧ True) (bsplit (decide ((↑p.length : Int) < (16 : Int))) ((4 : Int) = (4 : Int) ∧ True) (bsplit (decide ((131072 : Int) < (↑p.length : Int))) ((5 : Int) = (4 : Int) ∧ True) ((176 : Nat) = (11 : Nat) * (16 : Nat) ∧ (sbox = sbox ∧ ibox = ibox ∧ (11 : Nat) = (11 : Nat) ∧ (176 : Nat) = (176 : Nat) ∧ iv.length = (16 : Nat) ∧ iv.length = (16 : Nat) ∧ iv.length = (16 : Nat) ∧ (16 : Nat) ≤ p.length ∧ p.length ≤ (131072 : Nat)) ∧ False)))) ((2 : Int) = (4 : Int) ∧ True)) := by kernel_rfl
theorem vc_cts_checked__enc_0f (key iv p : List (BitVec 8)) (hp : iv.length ≤ 200) (hs0 : (!decide (key.length = 16 ∧ iv.length = 16)) = false) (hs1 : (decide (p.length < 16)) = true) : (wpFn E_cts_checked__enc 4000 (.mk [] []) (f33.body.getD .skip) f33.ntmps f33.results.toList [.sl 1 key.length (.b8s key.length key), .sl 1 iv.length (.b8s iv.length iv), .sl 1 p.length (.b8s p.length p), .fn 34 [] []] [] ⟨.tup [.nils, .int 4], [], []⟩).Holds := by
  refine holdsI (ob_cts_checked__enc_0f key iv p hp hs0 hs1) ?_
  refine ⟨(by omega), bsplit_dec (fun h0 => bsplit_not (fun h1 => ⟨?a0, trivial⟩) (fun h2 => bsplit_dec (fun h3 => ⟨rfl, trivial⟩) (fun h4 => (by exfalso; (simp at *; omega))))) (fun h5 => ⟨?a1, trivial⟩)⟩
  case a0 | a1 => (simp at *; omega)
theorem ob_cts_checked__enc_0g (key iv p : List (BitVec 8)) (hp : iv.length ≤ 200) (hs0 : (!decide (key.length = 16 ∧ iv.length = 16)) = false) (hs1 : (decide (p.length < 16)) = false) (hs2 : (decide (131072 < p.length)) = true) : (wpFn E_cts_checked__enc 4000 (.mk [] []) (f33.body.getD .skip) f33.ntmps f33.results.toList [.sl 1 key.length (.b8s key.length key), .sl 1 iv.length (.b8s iv.length iv), .sl 1 p.length (.b8s p.length p), .fn 34 [] []] [] ⟨.tup [.nils, .int 5], [], []⟩).holds = (iv.length ≤ (200 : Nat) ∧ bsplit (decide (key.length = (16 : Nat))) (bsplit (!decide ((if iv.length = (16 : Nat) then (0 : Int) else (2 : Int)) = (0 : Int))) ((if iv.length = (16 : Nat) then (0 : Int) else (2 : Int)) = (5 : Int) ∧ True) (bsplit (decide ((↑p.length : Int) < (16 : Int))) ((4 : Int) = (5 : Int) ∧ True) (bsplit (decide ((131072 : Int) < (↑p.length : Int))) ((5 : Int) = (5 : Int) ∧ True) ((176 : Nat) = (11 : Nat) * (16 : Nat) ∧ (sbox = sbox ∧ ibox = ibox ∧ (11 : Nat) = (11 : Nat) ∧ (176 : Nat) = (176 : Nat) ∧ iv.length = (16 : Nat) ∧ iv.length = (16 : Nat) ∧ iv.length = (16 : Nat) ∧ (16 : Nat) ≤ p.length ∧ p.length ≤ (131072 : Nat)) ∧ False)))) ((2 : Int) = (5 : Int) ∧ True)) := by kernel_rfl
theorem vc_cts_checked__enc_0g (key iv p : List (BitVec 8)) (hp : iv.length ≤ 200) (hs0 : (!decide (key.length = 16 ∧ iv.length = 16)) = false) (hs1 : (decide (p.length < 16)) = false) (hs2 : (decide (131072 < p.length)) = true) : (wpFn E_cts_checked__enc 4000 (.mk [] []) (f33.body.getD .skip) f33.ntmps f33.results.toList [.sl 1 key.length (.b8s key.length key), .sl 1 iv.length (.b8s iv.length iv), .sl 1 p.length (.b8s p.length p), .fn 34 [] []] [] ⟨.tup [.nils, .int 5], [], []⟩).Holds := by
  refine holdsI (ob_cts_checked__enc_0g key iv p hp hs0 hs1 hs2) ?_
  refine ⟨(by omega), bsplit_dec (fun h0 => bsplit_not (fun h1 => ⟨?a0, trivial⟩) (fun h2 => bsplit_dec (fun h3 => ⟨?a1, trivial⟩) (fun h4 => bsplit_dec (fun h5 => ⟨rfl, trivial⟩) (fun h6 => (by exfalso; (simp at *; omega)))))) (fun h7 => ⟨?a2, trivial⟩)⟩
  case a0 | a1 | a2 => (simp at *; omega)
theorem ob_cts_checked__enc_0h (key iv p : List (BitVec 8)) (hp : iv.length ≤ 200) (hs0 : (!decide (key.length = 16 ∧ iv.length = 16)) = false) (hs1 : (decide (p.length < 16)) = false) (hs2 : (decide (131072 < p.length)) = false) : (wpFn E_cts_checked__enc 4000 (.mk [] []) (f33.body.getD .skip) f33.ntmps f33.results.toList [.sl 1 key.length (.b8s key.length key), .sl 1 iv.length (.b8s iv.length iv), .sl 1 p.length (.b8s p.length p), .fn 34 [] []] [] ⟨.tup [.osub 0 1 0 p.length, .int 0], [], [[.b8s (padN p.length) (encF (ksI sbox key 10) iv p), .spare]]⟩).holds = (iv.length ≤ (200 : Nat) ∧ bsplit (decide (key.length = (16 : Nat))) (bsplit (!decide ((if iv.length = (16 : Nat) then (0 : Int) else (2 : Int)) = (0 : Int))) (p.length = (0 : Nat) ∧ (if iv.length = (16 : Nat) then (0 : Int) else (2 : Int)) = (0 : Int) ∧ (padN p.length = (0 : Nat) ∧ encF (ksI sbox key (10 : Nat)) iv p = nil8) ∧ True) (bsplit (decide ((↑p.length : Int) < (16 : Int))) (p.length = (0 : Nat) ∧ (4 : Int) = (0 : Int) ∧ (padN p.length = (0 : Nat) ∧ encF (ksI sbox key (10 : Nat)) iv p = nil8) ∧ True) (bsplit (decide ((131072 : Int) < (↑p.length : Int))) (p.length = (0 : Nat) ∧ (5 : Int) = (0 : Int) ∧ (padN p.length = (0 : Nat) ∧ encF (ksI sbox key (10 : Nat)) iv p = nil8) ∧ True) ((176 : Nat) = (11 : Nat) * (16 : Nat) ∧ (sbox = sbox ∧ ibox = ibox ∧ (11 : Nat) = (11 : Nat) ∧ (176 : Nat) = (176 : Nat) ∧ iv.length = (16 : Nat) ∧ iv.length = (16 : Nat) ∧ iv.length = (16 : Nat) ∧ (16 : Nat) ≤ p.length ∧ p.length ≤ (131072 : Nat)) ∧ ((0 : Nat) = (0 : Nat) ∧ p.length = p.length) ∧ (0 : Int) = (0 : Int) ∧ (padN p.length = padN p.length ∧ encF (ksI sbox key (10 : Nat)) iv p = encF (ksI sbox key (10 : Nat)) iv p) ∧ True)))) (p.length = (0 : Nat) ∧ (2 : Int) = (0 : Int) ∧ (padN p.length = (0 : Nat) ∧ encF (ksI sbox key (10 : Nat)) iv p = nil8) ∧ True)) := by kernel_rfl
theorem vc_cts_checked__enc_0h (key iv p : List (BitVec 8)) (hp : iv.length ≤ 200) (hs0 : (!decide (key.length = 16 ∧ iv.length = 16)) = false) (hs1 : (decide (p.length < 16)) = false) (hs2 : (decide (131072 < p.length)) = false) : (wpFn E_cts_checked__enc 4000 (.mk [] []) (f33.body.getD .skip) f33.ntmps f33.results.toList [.sl 1 key.length (.b8s key.length key), .sl 1 iv.length (.b8s iv.length iv), .sl 1 p.length (.b8s p.length p), .fn 34 [] []] [] ⟨.tup [.osub 0 1 0 p.length, .int 0], [], [[.b8s (padN p.length) (encF (ksI sbox key 10) iv p), .spare]]⟩).Holds := by
  refine holdsI (ob_cts_checked__enc_0h key iv p hp hs0 hs1 hs2) ?_
  refine ⟨(by omega), bsplit_dec (fun h0 => bsplit_not (fun h1 => ⟨?a0, ?a1, ⟨?a2, ?a3⟩, trivial⟩) (fun h2 => bsplit_dec (fun h3 => ⟨?a4, ?a5, ⟨?a6, ?a7⟩, trivial⟩) (fun h4 => bsplit_dec (fun h5 => ⟨?a8, ?a9, ⟨?a10, ?a11⟩, trivial⟩) (fun h6 => ⟨(by decide), ⟨rfl, rfl, rfl, rfl, (by omega), (by omega), (by omega), (by omega), (by omega)⟩, ⟨rfl, rfl⟩, rfl, ⟨rfl, rfl⟩, trivial⟩)))) (fun h7 => ⟨?a12, ?a13, ⟨?a14, ?a15⟩, trivial⟩)⟩
  case a0 | a1 | a2 | a3 | a4 | a5 | a6 | a7 | a8 | a9 | a10 | a11 | a12 | a13 | a14 | a15 => (simp at *; omega)
noncomputable def post_cts_checked__enc : List SV → List (List Seg) → FPost := fun L H => match L, H with
  | [.sl 1 key_n (.b8s key_m key), .sl 1 iv_n (.b8s iv_m iv), .sl 1 p_n (.b8s p_m p), .fn 34 [] []], [] => .vc (iv.length ≤ 200) (.split (!decide (key.length = 16 ∧ iv.length = 16)) (.ret ⟨.tup [.nils, .int 2], [], []⟩) (.split (decide (p.length < 16)) (.ret ⟨.tup [.nils, .int 4], [], []⟩) (.split (decide (131072 < p.length)) (.ret ⟨.tup [.nils, .int 5], [], []⟩) (.ret ⟨.tup [.osub 0 1 0 p.length, .int 0], [], [[.b8s (padN p.length) (encF (ksI sbox key 10) iv p), .spare]]⟩))))
  | _, _ => .fail
noncomputable def S_cts_checked__enc : SE.Spec := specOf false [.bytes, .bytes, .bytes, .gen] post_cts_checked__enc
theorem cok_cts_checked__enc : CallOK prog Gl_cts_checked__enc 33 S_cts_checked__enc := by
  refine callOK_ofI (E := E_cts_checked__enc) (code := f33.body.getD .skip) E_cts_checked__enc_ok func33 (by kernel_rfl) (by kernel_rfl) fun L H out ht hp => ?_
  have hl := ht.lens
  clear ht
  unfold post_cts_checked__enc at hp
  split at hp
  · rename_i key_n key_m key iv_n iv_m iv p_n p_m p
    have hm_key := hl.1.1.1
    have hn_key := hl.1.1.2
    have hm_iv := hl.1.2.1.1
    have hn_iv := hl.1.2.1.2
    have hm_p := hl.1.2.2.1.1
    have hn_p := hl.1.2.2.1.2
    obtain rfl : key_m = key.length := hm_key.symm
    obtain rfl : key_n = key.length := hn_key
    obtain rfl : iv_m = iv.length := hm_iv.symm
    obtain rfl : iv_n = iv.length := hn_iv
    obtain rfl : p_m = p.length := hm_p.symm
    obtain rfl : p_n = p.length := hn_p
    obtain ⟨hpre, hp⟩ := hp
    rcases FPost.ok_split hp with ⟨hs0, rfl⟩ | ⟨hs0, hp⟩
    · exact ⟨_, _, vc_cts_checked__enc_0t key iv p hpre hs0⟩
    rcases FPost.ok_split hp with ⟨hs1, rfl⟩ | ⟨hs1, hp⟩
    · exact ⟨_, _, vc_cts_checked__enc_0f key iv p hpre hs0 hs1⟩
    rcases FPost.ok_split hp with ⟨hs2, rfl⟩ | ⟨hs2, hp⟩
    · exact ⟨_, _, vc_cts_checked__enc_0g key iv p hpre hs0 hs1 hs2⟩
    obtain rfl := hp
    exact ⟨_, _, vc_cts_checked__enc_0h key iv p hpre hs0 hs1 hs2⟩
  · exact hp.elim
end Go.Proofs.Try
/-! cts_Encrypt -/
namespace Go.Proofs.Try
open Go Go.SE
set_option maxRecDepth 100000
set_option maxHeartbeats 400000
set_option linter.unusedVariables false
attribute [local irreducible] mvI subI addIt mxC mxR mxK encI decI ksI nextK nk1 nk2 tm rl8 sbox ibox addB keyAt rsC rsR ruC ruR ivI encB decB shB subB unshB mixB unmixB rnd unrnd wI wK wJ lastJ lastW incB blkC lastC chC catC16 lastD unC ctsPad exch encF decC decF padN
noncomputable def Gl_cts_Encrypt : List (Nat × SV) := []
noncomputable def E_cts_Encrypt : Env := ⟨T, [(33, S_cts_checked__enc)], Gl_cts_Encrypt, []⟩
theorem E_cts_Encrypt_ok : EnvOK prog E_cts_Encrypt := ⟨T_ok, (.cons cok_cts_checked__enc .nil), mix_ok, FBOK.nil⟩
theorem ob_cts_Encrypt_0t (key iv p : List (BitVec 8)) (hp : iv.length ≤ 200) (hs0 : (!decide (key.length = 16 ∧ iv.length = 16)) = true) : (wpFn E_cts_Encrypt 4000 (.mk [] []) (f16.body.getD .skip) f16.ntmps f16.results.toList [.sl 1 key.length (.b8s key.length key), .sl 1 iv.length (.b8s iv.length iv), .sl 1 p.length (.b8s p.length p)] [] ⟨.tup [.nils, .int 2], [], []⟩).holds = (iv.length ≤ (200 : Nat) ∧ bsplit (!decide (key.length = (16 : Nat) ∧ iv.length = (16 : Nat))) ((2 : Int) = (2 : Int) ∧ True) (bsplit (decide (p.length < (16 : Nat))) ((4 : Int) = (2 : Int) ∧ True) (bsplit (decide ((131072 : Nat) < p.length)) ((5 : Int) = (2 : Int) ∧ True) False))) := by kernel_rfl
theorem vc_cts_Encrypt_0t (key iv p : List (BitVec 8)) (hp : iv.length ≤ 200) (hs0 : (!decide (key.length = 16 ∧ iv.length = 16)) = true) : (wpFn E_cts_Encrypt 4000 (.mk [] []) (f16.body.getD .skip) f16.ntmps f16.results.toList [.sl 1 key.length (.b8s key.length key), .sl 1 iv.length (.b8s iv.length iv), .sl 1 p.length (.b8s p.length p)] [] ⟨.tup [.nils, .int 2], [], []⟩).Holds := by
  refine holdsI (ob_cts_Encrypt_0t key iv p hp hs0) ?_
  refine ⟨(by omega), bsplit_not (fun h0 => ⟨rfl, trivial⟩) (fun h1 => (by exfalso; (simp at *; omega)))⟩
theorem ob_cts_Encrypt_0f (key iv p : List (BitVec 8)) (hp : iv.length ≤ 200) (hs0 : (!decide (key.length = 16 ∧ iv.length = 16)) = false) (hs1 : (decide (p.length < 16)) = true) : (wpFn E_cts_Encrypt 4000 (.mk [] []) (f16.body.getD .skip) f16.ntmps f16.results.toList [.sl 1 key.length (.b8s key.length key), .sl 1 iv.length (.b8s iv.length iv), .sl 1 p.length (.b8s p.length p)] [] ⟨.tup [.nils, .int 4], [], []⟩).holds = (iv.length ≤ (200 : Nat) ∧ bsplit (!decide (key.length = (16 : Nat) ∧ iv.length = (16 : Nat))) ((2 : Int) = (4 : Int) ∧ True) (bsplit (decide (p.length < (16 : Nat))) ((4 : Int) = (4 : Int) ∧ True) (bsplit (decide ((131072 : Nat) < p.length)) ((5 : Int) = (4 : Int) ∧ True) False))) := by kernel_rfl
theorem vc_cts_Encrypt_0f (key iv p : List (BitVec 8)) (hp : iv.length ≤ 200) (hs0 : (!decide (key.length = 16 ∧ iv.length = 16)) = false) (hs1 : (decide (p.length < 16)) = true) : (wpFn E_cts_Encrypt 4000 (.mk [] []) (f16.body.getD .skip) f16.ntmps f16.results.toList [.sl 1 key.length (.b8s key.length key), .sl 1 iv.length (.b8s iv.length iv), .sl 1 p.length (.b8s p.length p)] [] ⟨.tup [.nils, .int 4], [], []⟩).Holds := by
  refine holdsI (ob_cts_Encrypt_0f key iv p hp hs0 hs1) ?_
  refine ⟨(by omega), bsplit_not (fun h0 => ⟨?a0, trivial⟩) (fun h1 => bsplit_dec (fun h2 => ⟨rfl, trivial⟩) (fun h3 => (by exfalso; (simp at *; omega))))⟩
  case a0 => (simp at *; omega)
theorem ob_cts_Encrypt_0g (key iv p : List (BitVec 8)) (hp : iv.length ≤ 200) (hs0 : (!decide (key.length = 16 ∧ iv.length = 16)) = false) (hs1 : (decide (p.length < 16)) = false) (hs2 : (decide (131072 < p.length)) = true) : (wpFn E_cts_Encrypt 4000 (.mk [] []) (f16.body.getD .skip) f16.ntmps f16.results.toList [.sl 1 key.length (.b8s key.length key), .sl 1 iv.length (.b8s iv.length iv), .sl 1 p.length (.b8s p.length p)] [] ⟨.tup [.nils, .int 5], [], []⟩).holds = (iv.length ≤ (200 : Nat) ∧ bsplit (!decide (key.length = (16 : Nat) ∧ iv.length = (16 : Nat))) ((2 : Int) = (5 : Int) ∧ True) (bsplit (decide (p.length < (16 : Nat))) ((4 : Int) = (5 : Int) ∧ True) (bsplit (decide ((131072 : Nat) < p.length)) ((5 : Int) = (5 : Int) ∧ True) False))) := by kernel_rfl
theorem vc_cts_Encrypt_0g (key iv p : List (BitVec 8)) (hp : iv.length ≤ 200) (hs0 : (!decide (key.length = 16 ∧ iv.length = 16)) = false) (hs1 : (decide (p.length < 16)) = false) (hs2 : (decide (131072 < p.length)) = true) : (wpFn E_cts_Encrypt 4000 (.mk [] []) (f16.body.getD .skip) f16.ntmps f16.results.toList [.sl 1 key.length (.b8s key.length key), .sl 1 iv.length (.b8s iv.length iv), .sl 1 p.length (.b8s p.length p)] [] ⟨.tup [.nils, .int 5], [], []⟩).Holds := by
  refine holdsI (ob_cts_Encrypt_0g key iv p hp hs0 hs1 hs2) ?_
  refine ⟨(by omega), bsplit_not (fun h0 => ⟨?a0, trivial⟩) (fun h1 => bsplit_dec (fun h2 => ⟨?a1, trivial⟩) (fun h3 => bsplit_dec (fun h4 => ⟨rfl, trivial⟩) (fun h5 => (by exfalso; (simp at *; omega)))))⟩
  case a0 | a1 => (simp at *; omega)
theorem ob_cts_Encrypt_0h (key iv p : List (BitVec 8)) (hp : iv.length ≤ 200) (hs0 : (!decide (key.length = 16 ∧ iv.length = 16)) = false) (hs1 : (decide (p.length < 16)) = false) (hs2 : (decide (131072 < p.length)) = false) : (wpFn E_cts_Encrypt 4000 (.mk [] []) (f16.body.getD .skip) f16.ntmps f16.results.toList [.sl 1 key.length (.b8s key.length key), .sl 1 iv.length (.b8s iv.length iv), .sl 1 p.length (.b8s p.length p)] [] ⟨.tup [.osub 0 1 0 p.length, .int 0], [], [[.b8s (padN p.length) (encF (ksI sbox key 10) iv p), .spare]]⟩).holds = (iv.length ≤ (200 : Nat) ∧ bsplit (!decide (key.length = (16 : Nat) ∧ iv.length = (16 : Nat))) (p.length = (0 : Nat) ∧ (2 : Int) = (0 : Int) ∧ (padN p.length = (0 : Nat) ∧ encF (ksI sbox key (10 : Nat)) iv p = nil8) ∧ True) (bsplit (decide (p.length < (16 : Nat))) (p.length = (0 : Nat) ∧ (4 : Int) = (0 : Int) ∧ (padN p.length = (0 : Nat) ∧ encF (ksI sbox key (10 : Nat)) iv p = nil8) ∧ True) (bsplit (decide ((131072 : Nat) < p.length)) (p.length = (0 : Nat) ∧ (5 : Int) = (0 : Int) ∧ (padN p.length = (0 : Nat) ∧ encF (ksI sbox key (10 : Nat)) iv p = nil8) ∧ True) (((0 : Nat) = (0 : Nat) ∧ p.length = p.length) ∧ (0 : Int) = (0 : Int) ∧ (padN p.length = padN p.length ∧ encF (ksI sbox key (10 : Nat)) iv p = encF (ksI sbox key (10 : Nat)) iv p) ∧ True)))) := by kernel_rfl
theorem vc_cts_Encrypt_0h (key iv p : List (BitVec 8)) (hp : iv.length ≤ 200) (hs0 : (!decide (key.length = 16 ∧ iv.length = 16)) = false) (hs1 : (decide (p.length < 16)) = false) (hs2 : (decide (131072 < p.length)) = false) : (wpFn E_cts_Encrypt 4000 (.mk [] []) (f16.body.getD .skip) f16.ntmps f16.results.toList [.sl 1 key.length (.b8s key.length key), .sl 1 iv.length (.b8s iv.length iv), .sl 1 p.length (.b8s p.length p)] [] ⟨.tup [.osub 0 1 0 p.length, .int 0], [], [[.b8s (padN p.length) (encF (ksI sbox key 10) iv p), .spare]]⟩).Holds := by
  refine holdsI (ob_cts_Encrypt_0h key iv p hp hs0 hs1 hs2) ?_
  refine ⟨(by omega), bsplit_not (fun h0 => ⟨?a0, ?a1, ⟨?a2, ?a3⟩, trivial⟩) (fun h1 => bsplit_dec (fun h2 => ⟨?a4, ?a5, ⟨?a6, ?a7⟩, trivial⟩) (fun h3 => bsplit_dec (fun h4 => ⟨?a8, ?a9, ⟨?a10, ?a11⟩, trivial⟩) (fun h5 => ⟨⟨rfl, rfl⟩, rfl, ⟨rfl, rfl⟩, trivial⟩)))⟩
  case a0 | a1 | a2 | a3 | a4 | a5 | a6 | a7 | a8 | a9 | a10 | a11 => (simp at *; omega)
noncomputable def post_cts_Encrypt : List SV → List (List Seg) → FPost := fun L H => match L, H with
  | [.sl 1 key_n (.b8s key_m key), .sl 1 iv_n (.b8s iv_m iv), .sl 1 p_n (.b8s p_m p)], [] => .vc (iv.length ≤ 200) (.split (!decide (key.length = 16 ∧ iv.length = 16)) (.ret ⟨.tup [.nils, .int 2], [], []⟩) (.split (decide (p.length < 16)) (.ret ⟨.tup [.nils, .int 4], [], []⟩) (.split (decide (131072 < p.length)) (.ret ⟨.tup [.nils, .int 5], [], []⟩) (.ret ⟨.tup [.osub 0 1 0 p.length, .int 0], [], [[.b8s (padN p.length) (encF (ksI sbox key 10) iv p), .spare]]⟩))))
  | _, _ => .fail
noncomputable def S_cts_Encrypt : SE.Spec := specOf false [.bytes, .bytes, .bytes] post_cts_Encrypt
theorem cok_cts_Encrypt : CallOK prog Gl_cts_Encrypt 16 S_cts_Encrypt := by
  refine callOK_ofI (E := E_cts_Encrypt) (code := f16.body.getD .skip) E_cts_Encrypt_ok func16 (by kernel_rfl) (by kernel_rfl) fun L H out ht hp => ?_
  have hl := ht.lens
  clear ht
  unfold post_cts_Encrypt at hp
  split at hp
  · rename_i key_n key_m key iv_n iv_m iv p_n p_m p
    have hm_key := hl.1.1.1
    have hn_key := hl.1.1.2
    have hm_iv := hl.1.2.1.1
    have hn_iv := hl.1.2.1.2
    have hm_p := hl.1.2.2.1.1
    have hn_p := hl.1.2.2.1.2
    obtain rfl : key_m = key.length := hm_key.symm
    obtain rfl : key_n = key.length := hn_key
    obtain rfl : iv_m = iv.length := hm_iv.symm
    obtain rfl : iv_n = iv.length := hn_iv
    obtain rfl : p_m = p.length := hm_p.symm
    obtain rfl : p_n = p.length := hn_p
    obtain ⟨hpre, hp⟩ := hp
    rcases FPost.ok_split hp with ⟨hs0, rfl⟩ | ⟨hs0, hp⟩
    · exact ⟨_, _, vc_cts_Encrypt_0t key iv p hpre hs0⟩
    rcases FPost.ok_split hp with ⟨hs1, rfl⟩ | ⟨hs1, hp⟩
    · exact ⟨_, _, vc_cts_Encrypt_0f key iv p hpre hs0 hs1⟩
    rcases FPost.ok_split hp with ⟨hs2, rfl⟩ | ⟨hs2, hp⟩
    · exact ⟨_, _, vc_cts_Encrypt_0g key iv p hpre hs0 hs1 hs2⟩
    obtain rfl := hp
    exact ⟨_, _, vc_cts_Encrypt_0h key iv p hpre hs0 hs1 hs2⟩
  · exact hp.elim
end Go.Proofs.Try
/-! law07_known -/
namespace Go.Proofs.Try
open Go Go.SE
set_option maxRecDepth 100000
set_option maxHeartbeats 400000
set_option linter.unusedVariables false
noncomputable def Gl_law07_known : List (Nat × SV) := []
noncomputable def E_law07_known : Env := ⟨T, [(16, S_cts_Encrypt)], Gl_law07_known, []⟩
theorem E_law07_known_ok : EnvOK prog E_law07_known := ⟨T_ok, (.cons cok_cts_Encrypt .nil), mix_ok, FBOK.nil⟩
theorem ob_law07_known_0  : (wpFn E_law07_known 4000 (.mk [] []) (f13.body.getD .skip) f13.ntmps f13.results.toList [] [] ⟨.bool true, [], []⟩).holds = (((16 : Nat) = (16 : Nat) ∧ (0 : Nat) < (16 : Nat)) ∧ ((0 : Int) ≤ (16 : Int) ∧ (16 : Int) = (16 : Int) ∧ (16 : Int) ≤ (1099511627776 : Int)) ∧ ((17 : Nat) = (17 : Nat) ∧ (0 : Nat) < (17 : Nat)) ∧ (16 : Nat) = (16 : Nat) ∧ (List.replicate (16 : Nat) (0 : BitVec (8 : Nat))).length ≤ (200 : Nat) ∧ ((0 : Int) ≤ (15 : Int) ∧ (15 : Int) = (15 : Int) ∧ (15 : Int) ≤ (1099511627776 : Int)) ∧ (16 : Nat) = (16 : Nat) ∧ (15 : Nat) = (15 : Nat) ∧ (List.replicate (16 : Nat) (0 : BitVec (8 : Nat))).length ≤ (200 : Nat) ∧ ((0 : Int) ≤ (15 : Int) ∧ (15 : Int) ≤ (↑(16 : Nat) : Int)) ∧ ((0 : Int) ≤ (16 : Int) ∧ (16 : Int) = (16 : Int) ∧ (16 : Int) ≤ (1099511627776 : Int)) ∧ (0 : Nat) + (15 : Nat) ≤ (16 : Nat) ∧ (16 : Nat) = (16 : Nat) ∧ (List.take (15 : Nat) (List.drop (0 : Nat) (List.replicate (16 : Nat) (0 : BitVec (8 : Nat))))).length ≤ (200 : Nat) ∧ (0 : Nat) + [BitVec.ofNat (8 : Nat) (73 : Nat), BitVec.ofNat (8 : Nat) (32 : Nat), BitVec.ofNat (8 : Nat) (119 : Nat), BitVec.ofNat (8 : Nat) (111 : Nat), BitVec.ofNat (8 : Nat) (117 : Nat), BitVec.ofNat (8 : Nat) (108 : Nat), BitVec.ofNat (8 : Nat) (100 : Nat), BitVec.ofNat (8 : Nat) (32 : Nat), BitVec.ofNat (8 : Nat) (108 : Nat), BitVec.ofNat (8 : Nat) (105 : Nat), BitVec.ofNat (8 : Nat) (107 : Nat), BitVec.ofNat (8 : Nat) (101 : Nat), BitVec.ofNat (8 : Nat) (32 : Nat), BitVec.ofNat (8 : Nat) (116 : Nat), BitVec.ofNat (8 : Nat) (104 : Nat), BitVec.ofNat (8 : Nat) (101 : Nat), BitVec.ofNat (8 : Nat) (32 : Nat)].length ≤ padN [BitVec.ofNat (8 : Nat) (73 : Nat), BitVec.ofNat (8 : Nat) (32 : Nat), BitVec.ofNat (8 : Nat) (119 : Nat), BitVec.ofNat (8 : Nat) (111 : Nat), BitVec.ofNat (8 : Nat) (117 : Nat), BitVec.ofNat (8 : Nat) (108 : Nat), BitVec.ofNat (8 : Nat) (100 : Nat), BitVec.ofNat (8 : Nat) (32 : Nat), BitVec.ofNat (8 : Nat) (108 : Nat), BitVec.ofNat (8 : Nat) (105 : Nat), BitVec.ofNat (8 : Nat) (107 : Nat), BitVec.ofNat (8 : Nat) (101 : Nat), BitVec.ofNat (8 : Nat) (32 : Nat), BitVec.ofNat (8 : Nat) (116 : Nat), BitVec.ofNat (8 : Nat) (104 : Nat), BitVec.ofNat (8 : Nat) (101 : Nat), BitVec.ofNat (8 : Nat) (32 : Nat)].length ∧ decide ((2 : Int) = (2 : Int)) = true ∧ True) := by kernel_rfl
theorem vc_law07_known_0  : (wpFn E_law07_known 4000 (.mk [] []) (f13.body.getD .skip) f13.ntmps f13.results.toList [] [] ⟨.bool true, [], []⟩).Holds := by
  refine holdsI (ob_law07_known_0 ) ?_
  refine ⟨⟨rfl, (by decide)⟩, ⟨(by decide), rfl, (by decide)⟩, ⟨rfl, (by decide)⟩, rfl, (by decide), ⟨(by decide), rfl, (by decide)⟩, rfl, rfl, (by decide), ⟨(by decide), (by decide)⟩, ⟨(by decide), rfl, (by decide)⟩, (by decide), rfl, (by decide), (by decide), (by decide), trivial⟩
noncomputable def post_law07_known : List SV → List (List Seg) → FPost := fun L H => match L, H with
  | [], [] => .ret ⟨.bool true, [], []⟩
  | _, _ => .fail
noncomputable def S_law07_known : SE.Spec := specOf false [] post_law07_known
theorem cok_law07_known : CallOK prog Gl_law07_known 13 S_law07_known := by
  refine callOK_ofI (E := E_law07_known) (code := f13.body.getD .skip) E_law07_known_ok func13 (by kernel_rfl) (by kernel_rfl) fun L H out ht hp => ?_
  have hl := ht.lens
  clear ht
  unfold post_law07_known at hp
  split at hp
  · skip
    obtain rfl := hp
    exact ⟨_, _, vc_law07_known_0 ⟩
  · exact hp.elim
end Go.Proofs.Try
/-! cts_Encrypt__ok -/
namespace Go.Proofs.Try
open Go Go.SE
set_option maxRecDepth 100000
set_option maxHeartbeats 400000
set_option linter.unusedVariables false
attribute [local irreducible] mvI subI addIt mxC mxR mxK encI decI ksI nextK nk1 nk2 tm rl8 sbox ibox addB keyAt rsC rsR ruC ruR ivI encB decB shB subB unshB mixB unmixB rnd unrnd wI wK wJ lastJ lastW incB blkC lastC chC catC16 lastD unC ctsPad exch encF decC decF padN
noncomputable def Gl_cts_Encrypt__ok : List (Nat × SV) := []
noncomputable def E_cts_Encrypt__ok : Env := ⟨T, [(33, S_cts_checked__enc)], Gl_cts_Encrypt__ok, []⟩
theorem E_cts_Encrypt__ok_ok : EnvOK prog E_cts_Encrypt__ok := ⟨T_ok, (.cons cok_cts_checked__enc .nil), mix_ok, FBOK.nil⟩
theorem ob_cts_Encrypt__ok_0 (key iv p : List (BitVec 8)) (hp : key.length = 16 ∧ iv.length = 16 ∧ 16 ≤ p.length ∧ p.length ≤ 131072) : (wpFn E_cts_Encrypt__ok 2000 (.mk [] []) (f16.body.getD .skip) f16.ntmps f16.results.toList [.sl 1 key.length (.b8s key.length key), .sl 1 iv.length (.b8s iv.length iv), .sl 1 p.length (.b8s p.length p)] [] ⟨.tup [.osub 0 1 0 p.length, .int 0], [], [[.b8s (padN p.length) (encF (ksI sbox key 10) iv p), .spare]]⟩).holds = (iv.length ≤ (200 : Nat) ∧ bsplit (!decide (key.length = (16 : Nat) ∧ iv.length = (16 : Nat))) (p.length = (0 : Nat) ∧ (2 : Int) = (0 : Int) ∧ (padN p.length = (0 : Nat) ∧ encF (ksI sbox key (10 : Nat)) iv p = nil8) ∧ True) (bsplit (decide (p.length < (16 : Nat))) (p.length = (0 : Nat) ∧ (4 : Int) = (0 : Int) ∧ (padN p.length = (0 : Nat) ∧ encF (ksI sbox key (10 : Nat)) iv p = nil8) ∧ True) (bsplit (decide ((131072 : Nat) < p.length)) (p.length = (0 : Nat) ∧ (5 : Int) = (0 : Int) ∧ (padN p.length = (0 : Nat) ∧ encF (ksI sbox key (10 : Nat)) iv p = nil8) ∧ True) (((0 : Nat) = (0 : Nat) ∧ p.length = p.length) ∧ (0 : Int) = (0 : Int) ∧ (padN p.length = padN p.length ∧ encF (ksI sbox key (10 : Nat)) iv p = encF (ksI sbox key (10 : Nat)) iv p) ∧ True)))) := by kernel_rfl
theorem vc_cts_Encrypt__ok_0 (key iv p : List (BitVec 8)) (hp : key.length = 16 ∧ iv.length = 16 ∧ 16 ≤ p.length ∧ p.length ≤ 131072) : (wpFn E_cts_Encrypt__ok 2000 (.mk [] []) (f16.body.getD .skip) f16.ntmps f16.results.toList [.sl 1 key.length (.b8s key.length key), .sl 1 iv.length (.b8s iv.length iv), .sl 1 p.length (.b8s p.length p)] [] ⟨.tup [.osub 0 1 0 p.length, .int 0], [], [[.b8s (padN p.length) (encF (ksI sbox key 10) iv p), .spare]]⟩).Holds := by
  refine holdsI (ob_cts_Encrypt__ok_0 key iv p hp) ?_
  refine ⟨(by omega), bsplit_not (fun h0 => (by exfalso; omega)) (fun h1 => bsplit_dec (fun h2 => (by exfalso; omega)) (fun h3 => bsplit_dec (fun h4 => (by exfalso; omega)) (fun h5 => ⟨⟨rfl, rfl⟩, rfl, ⟨rfl, rfl⟩, trivial⟩)))⟩
noncomputable def post_cts_Encrypt__ok : List SV → List (List Seg) → FPost := fun L H => match L, H with
  | [.sl 1 key_n (.b8s key_m key), .sl 1 iv_n (.b8s iv_m iv), .sl 1 p_n (.b8s p_m p)], [] => .vc (key.length = 16 ∧ iv.length = 16 ∧ 16 ≤ p.length ∧ p.length ≤ 131072) (.ret ⟨.tup [.osub 0 1 0 p.length, .int 0], [], [[.b8s (padN p.length) (encF (ksI sbox key 10) iv p), .spare]]⟩)
  | _, _ => .fail
noncomputable def S_cts_Encrypt__ok : SE.Spec := specOf false [.bytes, .bytes, .bytes] post_cts_Encrypt__ok
theorem cok_cts_Encrypt__ok : CallOK prog Gl_cts_Encrypt__ok 16 S_cts_Encrypt__ok := by
  refine callOK_ofI (E := E_cts_Encrypt__ok) (code := f16.body.getD .skip) E_cts_Encrypt__ok_ok func16 (by kernel_rfl) (by kernel_rfl) fun L H out ht hp => ?_
  have hl := ht.lens
  clear ht
  unfold post_cts_Encrypt__ok at hp
  split at hp
  · rename_i key_n key_m key iv_n iv_m iv p_n p_m p
    have hm_key := hl.1.1.1
    have hn_key := hl.1.1.2
    have hm_iv := hl.1.2.1.1
    have hn_iv := hl.1.2.1.2
    have hm_p := hl.1.2.2.1.1
    have hn_p := hl.1.2.2.1.2
    obtain rfl : key_m = key.length := hm_key.symm
    obtain rfl : key_n = key.length := hn_key
    obtain rfl : iv_m = iv.length := hm_iv.symm
    obtain rfl : iv_n = iv.length := hn_iv
    obtain rfl : p_m = p.length := hm_p.symm
    obtain rfl : p_n = p.length := hn_p
    obtain ⟨hpre, hp⟩ := hp
    obtain rfl := hp
    exact ⟨_, _, vc_cts_Encrypt__ok_0 key iv p hpre⟩
  · exact hp.elim
end Go.Proofs.Try
/-! slices_Backward -/
namespace Go.Proofs.Try
open Go Go.SE
set_option maxRecDepth 100000
set_option maxHeartbeats 400000
set_option linter.unusedVariables false
noncomputable def Gl_slices_Backward : List (Nat × SV) := []
noncomputable def E_slices_Backward : Env := ⟨T, [], Gl_slices_Backward, []⟩
theorem E_slices_Backward_ok : EnvOK prog E_slices_Backward := ⟨T_ok, .nil, mix_ok, FBOK.nil⟩
theorem ob_slices_Backward_0 (n m : Nat) (ks : List (BitVec 8)) : (wpFn E_slices_Backward 2000 (.mk [] []) (f43.body.getD .skip) f43.ntmps f43.results.toList [.sl 16 n (.b8s m ks)] [] ⟨.fn 57 [] [.ptr 0 0], [], [[.one (.sl 16 n (.b8s m ks))]]⟩).holds = (((16 : Nat) = (16 : Nat) ∧ n = n ∧ Seg.b8s m ks = Seg.b8s m ks) ∧ True) := by kernel_rfl
theorem vc_slices_Backward_0 (n m : Nat) (ks : List (BitVec 8)) : (wpFn E_slices_Backward 2000 (.mk [] []) (f43.body.getD .skip) f43.ntmps f43.results.toList [.sl 16 n (.b8s m ks)] [] ⟨.fn 57 [] [.ptr 0 0], [], [[.one (.sl 16 n (.b8s m ks))]]⟩).Holds := by
  refine holdsI (ob_slices_Backward_0 n m ks) ?_
  refine ⟨⟨rfl, rfl, rfl⟩, trivial⟩
noncomputable def post_slices_Backward : List SV → List (List Seg) → FPost := fun L H => match L, H with
  | [.sl 16 n (.b8s m ks)], [] => .ret ⟨.fn 57 [] [.ptr 0 0], [], [[.one (.sl 16 n (.b8s m ks))]]⟩
  | _, _ => .fail
noncomputable def S_slices_Backward : SE.Spec := specOf false [.gen] post_slices_Backward
theorem cok_slices_Backward : CallOK prog Gl_slices_Backward 43 S_slices_Backward := by
  refine callOK_ofI (E := E_slices_Backward) (code := f43.body.getD .skip) E_slices_Backward_ok func43 (by kernel_rfl) (by kernel_rfl) fun L H out ht hp => ?_
  have hl := ht.lens
  clear ht
  unfold post_slices_Backward at hp
  split at hp
  · rename_i n m ks
    obtain rfl := hp
    exact ⟨_, _, vc_slices_Backward_0 n m ks⟩
  · exact hp.elim
end Go.Proofs.Try
/-! aes_table_restore -/
namespace Go.Proofs.Try
open Go Go.SE
set_option maxRecDepth 100000
set_option maxHeartbeats 400000
set_option linter.unusedVariables false
noncomputable def Gl_aes_table_restore : List (Nat × SV) := []
noncomputable def E_aes_table_restore : Env := ⟨T, [], Gl_aes_table_restore, []⟩
theorem E_aes_table_restore_ok : EnvOK prog E_aes_table_restore := ⟨T_ok, .nil, mix_ok, FBOK.nil⟩
theorem ob_aes_table_restore_0 (u t x : List (BitVec 8)) (r : List Seg) : (wpFn E_aes_table_restore 2000 (.mk [(0, cntInv 16 fun i s => tplA s [(8, .int i)] [(idT s 2, [.b8s 16 (subI t x i)])])] []) (f45.body.getD .skip) f45.ntmps f45.results.toList [.ip (.b8s 256 u :: .b8s 256 t :: r) 0, .agg [.b8s 16 x]] [] ⟨.agg [.b8s 16 (subI t x 16)], [], []⟩).holds = (((0 : Nat) ≤ (16 : Nat) ∧ (Seg.b8s (256 : Nat) u :: Seg.b8s (256 : Nat) t :: r = Seg.b8s (256 : Nat) u :: Seg.b8s (256 : Nat) t :: r ∧ (0 : Nat) = (0 : Nat)) ∧ ((16 : Nat) = (16 : Nat) ∧ x = x) ∧ ((16 : Nat) = (16 : Nat) ∧ x = x) ∧ (0 : Int) = (↑(0 : Nat) : Int) ∧ ((16 : Nat) = (16 : Nat) ∧ List.replicate (16 : Nat) (0 : BitVec (8 : Nat)) = List.replicate (16 : Nat) (0 : BitVec (8 : Nat))) ∧ ((16 : Nat) = (16 : Nat) ∧ x = subI t x (0 : Nat)) ∧ True) ∧ ∀ (i : Nat), i ≤ (16 : Nat) → bsplit (decide ((↑i : Int) < (16 : Int))) (((0 : Int) ≤ (↑i : Int) ∧ (↑i : Int) < (↑(16 : Nat) : Int)) ∧ ((0 : Int) ≤ (↑(x.getD (↑i : Int).toNat (0 : BitVec (8 : Nat))).toNat : Int) ∧ (↑(x.getD (↑i : Int).toNat (0 : BitVec (8 : Nat))).toNat : Int) < (↑(256 : Nat) : Int)) ∧ (↑(x.getD (↑i : Int).toNat (0 : BitVec (8 : Nat))).toNat : Int).toNat < (256 : Nat) ∧ ((0 : Int) ≤ (↑i : Int) ∧ (↑i : Int) < (↑(16 : Nat) : Int)) ∧ (↑i : Int).toNat < (16 : Nat) ∧ inI64 ((↑i : Int) + (1 : Int)) ∧ (i + (1 : Nat) ≤ (16 : Nat) ∧ (16 : Nat) - (i + (1 : Nat)) < (16 : Nat) - i) ∧ (Seg.b8s (256 : Nat) u :: Seg.b8s (256 : Nat) t :: r = Seg.b8s (256 : Nat) u :: Seg.b8s (256 : Nat) t :: r ∧ (0 : Nat) = (0 : Nat)) ∧ ((16 : Nat) = (16 : Nat) ∧ x = x) ∧ ((16 : Nat) = (16 : Nat) ∧ x = x) ∧ (↑i : Int) + (1 : Int) = (↑(i + (1 : Nat)) : Int) ∧ ((16 : Nat) = (16 : Nat) ∧ List.replicate (16 : Nat) (0 : BitVec (8 : Nat)) = List.replicate (16 : Nat) (0 : BitVec (8 : Nat))) ∧ ((16 : Nat) = (16 : Nat) ∧ (subI t x i).set (↑i : Int).toNat (t.getD (↑(x.getD (↑i : Int).toNat (0 : BitVec (8 : Nat))).toNat : Int).toNat (0 : BitVec (8 : Nat))) = subI t x (i + (1 : Nat))) ∧ True) (((16 : Nat) = (16 : Nat) ∧ subI t x i = subI t x (16 : Nat)) ∧ True)) := by kernel_rfl
theorem vc_aes_table_restore_0 (u t x : List (BitVec 8)) (r : List Seg) : (wpFn E_aes_table_restore 2000 (.mk [(0, cntInv 16 fun i s => tplA s [(8, .int i)] [(idT s 2, [.b8s 16 (subI t x i)])])] []) (f45.body.getD .skip) f45.ntmps f45.results.toList [.ip (.b8s 256 u :: .b8s 256 t :: r) 0, .agg [.b8s 16 x]] [] ⟨.agg [.b8s 16 (subI t x 16)], [], []⟩).Holds := by
  refine holdsI (ob_aes_table_restore_0 u t x r) ?_
  refine ⟨⟨(by decide), ⟨rfl, rfl⟩, ⟨rfl, rfl⟩, ⟨rfl, rfl⟩, (by decide), ⟨rfl, rfl⟩, ⟨rfl, rfl⟩, trivial⟩, fun i0 => fun h1 => bsplit_dec (fun h2 => ⟨⟨(by omega), (by omega)⟩, ⟨(by omega), (by omega)⟩, (by omega), ⟨(by omega), (by omega)⟩, (by omega), ?a0, ⟨(by omega), (by omega)⟩, ⟨rfl, rfl⟩, ⟨rfl, rfl⟩, ⟨rfl, rfl⟩, (by omega), ⟨rfl, rfl⟩, ⟨rfl, rfl⟩, trivial⟩) (fun h3 => ⟨⟨rfl, ?a1⟩, trivial⟩)⟩
  case a0 => (simp only [inI64]; omega)
  case a1 => (obtain rfl : i0 = 16 := (by omega); rfl)
noncomputable def post_aes_table_restore : List SV → List (List Seg) → FPost := fun L H => match L, H with
  | [.ip (.b8s 256 u :: .b8s 256 t :: r) 0, .agg [.b8s 16 x]], [] => .ret ⟨.agg [.b8s 16 (subI t x 16)], [], []⟩
  | _, _ => .fail
noncomputable def S_aes_table_restore : SE.Spec := specOf false [.gen, .gen] post_aes_table_restore
theorem cok_aes_table_restore : CallOK prog Gl_aes_table_restore 45 S_aes_table_restore := by
  refine callOK_ofI (E := E_aes_table_restore) (code := f45.body.getD .skip) E_aes_table_restore_ok func45 (by kernel_rfl) (by kernel_rfl) fun L H out ht hp => ?_
  have hl := ht.lens
  clear ht
  unfold post_aes_table_restore at hp
  split at hp
  · rename_i u t r x
    obtain rfl := hp
    exact ⟨_, _, vc_aes_table_restore_0 u t x r⟩
  · exact hp.elim
end Go.Proofs.Try
/-! aes_unshift -/
namespace Go.Proofs.Try
open Go Go.SE
set_option maxRecDepth 100000
set_option maxHeartbeats 400000
set_option linter.unusedVariables false
noncomputable def Gl_aes_unshift : List (Nat × SV) := []
noncomputable def E_aes_unshift : Env := ⟨T, [(55, S_aes_moved)], Gl_aes_unshift, []⟩
theorem E_aes_unshift_ok : EnvOK prog E_aes_unshift := ⟨T_ok, (.cons cok_aes_moved .nil), mix_ok, FBOK.nil⟩
theorem ob_aes_unshift_0 (x : List (BitVec 8)) : (wpFn E_aes_unshift 2000 (.mk [] []) (f44.body.getD .skip) f44.ntmps f44.results.toList [.agg [.b8s 16 x]] [] ⟨.agg [.b8s 16 (mvI x 3 16)], [], []⟩).holds = (((16 : Nat) = (16 : Nat) ∧ mvI x (3 : Nat) (16 : Nat) = mvI x (3 : Nat) (16 : Nat)) ∧ True) := by kernel_rfl
theorem vc_aes_unshift_0 (x : List (BitVec 8)) : (wpFn E_aes_unshift 2000 (.mk [] []) (f44.body.getD .skip) f44.ntmps f44.results.toList [.agg [.b8s 16 x]] [] ⟨.agg [.b8s 16 (mvI x 3 16)], [], []⟩).Holds := by
  refine holdsI (ob_aes_unshift_0 x) ?_
  refine ⟨⟨rfl, rfl⟩, trivial⟩
noncomputable def post_aes_unshift : List SV → List (List Seg) → FPost := fun L H => match L, H with
  | [.agg [.b8s 16 x]], [] => .ret ⟨.agg [.b8s 16 (mvI x 3 16)], [], []⟩
  | _, _ => .fail
noncomputable def S_aes_unshift : SE.Spec := specOf false [.gen] post_aes_unshift
theorem cok_aes_unshift : CallOK prog Gl_aes_unshift 44 S_aes_unshift := by
  refine callOK_ofI (E := E_aes_unshift) (code := f44.body.getD .skip) E_aes_unshift_ok func44 (by kernel_rfl) (by kernel_rfl) fun L H out ht hp => ?_
  have hl := ht.lens
  clear ht
  unfold post_aes_unshift at hp
  split at hp
  · rename_i x
    obtain rfl := hp
    exact ⟨_, _, vc_aes_unshift_0 x⟩
  · exact hp.elim
end Go.Proofs.Try
/-! aes_unmix -/
namespace Go.Proofs.Try
open Go Go.SE
set_option maxRecDepth 100000
set_option maxHeartbeats 400000
set_option linter.unusedVariables false
noncomputable def Gl_aes_unmix : List (Nat × SV) := []
noncomputable def E_aes_unmix : Env := ⟨T, [(56, S_aes_mixed)], Gl_aes_unmix, []⟩
theorem E_aes_unmix_ok : EnvOK prog E_aes_unmix := ⟨T_ok, (.cons cok_aes_mixed .nil), mix_ok, FBOK.nil⟩
theorem ob_aes_unmix_0 (x : List (BitVec 8)) : (wpFn E_aes_unmix 2000 (.mk [] []) (f46.body.getD .skip) f46.ntmps f46.results.toList [.agg [.b8s 16 x]] [] ⟨.agg [.b8s 16 (unmixB x)], [], []⟩).holds = ((4 : Nat) = (4 : Nat) ∧ [BitVec.ofNat (8 : Nat) (14 : Nat), BitVec.ofNat (8 : Nat) (11 : Nat), BitVec.ofNat (8 : Nat) (13 : Nat), BitVec.ofNat (8 : Nat) (9 : Nat)].length = (4 : Nat) ∧ ((16 : Nat) = (16 : Nat) ∧ mxC [BitVec.ofNat (8 : Nat) (14 : Nat), BitVec.ofNat (8 : Nat) (11 : Nat), BitVec.ofNat (8 : Nat) (13 : Nat), BitVec.ofNat (8 : Nat) (9 : Nat)] x (4 : Nat) = unmixB x) ∧ True) := by kernel_rfl
theorem vc_aes_unmix_0 (x : List (BitVec 8)) : (wpFn E_aes_unmix 2000 (.mk [] []) (f46.body.getD .skip) f46.ntmps f46.results.toList [.agg [.b8s 16 x]] [] ⟨.agg [.b8s 16 (unmixB x)], [], []⟩).Holds := by
  refine holdsI (ob_aes_unmix_0 x) ?_
  refine ⟨rfl, (by decide), ⟨rfl, rfl⟩, trivial⟩
noncomputable def post_aes_unmix : List SV → List (List Seg) → FPost := fun L H => match L, H with
  | [.agg [.b8s 16 x]], [] => .ret ⟨.agg [.b8s 16 (unmixB x)], [], []⟩
  | _, _ => .fail
noncomputable def S_aes_unmix : SE.Spec := specOf false [.gen] post_aes_unmix
theorem cok_aes_unmix : CallOK prog Gl_aes_unmix 46 S_aes_unmix := by
  refine callOK_ofI (E := E_aes_unmix) (code := f46.body.getD .skip) E_aes_unmix_ok func46 (by kernel_rfl) (by kernel_rfl) fun L H out ht hp => ?_
  have hl := ht.lens
  clear ht
  unfold post_aes_unmix at hp
  split at hp
  · rename_i x
    obtain rfl := hp
    exact ⟨_, _, vc_aes_unmix_0 x⟩
  · exact hp.elim
end Go.Proofs.Try
/-! aes_apply__dec -/
namespace Go.Proofs.Try
open Go Go.SE
set_option maxRecDepth 100000
set_option maxHeartbeats 400000
set_option linter.unusedVariables false
noncomputable def Gl_aes_apply__dec : List (Nat × SV) := []
noncomputable def E_aes_apply__dec : Env := ⟨T, [(45, S_aes_table_restore), (44, S_aes_unshift), (46, S_aes_unmix)], Gl_aes_apply__dec, []⟩
theorem E_aes_apply__dec_ok : EnvOK prog E_aes_apply__dec := ⟨T_ok, (.cons cok_aes_table_restore (.cons cok_aes_unshift (.cons cok_aes_unmix .nil))), mix_ok, FBOK.nil⟩
theorem ob_aes_apply__dec_0 (u t x : List (BitVec 8)) (r : List Seg) : (wpFn E_aes_apply__dec 2000 (.mk [] []) (f39.body.getD .skip) f39.ntmps f39.results.toList [.agg [.b8s 16 x], .os 0 1 3] [[.one (.fn 46 [] []), .one (.fn 44 [] []), .one (.fn 45 [.ip (.b8s 256 u :: .b8s 256 t :: r) 0] [])]] ⟨.agg [.b8s 16 (subB t (unshB (unmixB x)))], [[.one (.fn 46 [] []), .one (.fn 44 [] []), .one (.fn 45 [.ip (.b8s 256 u :: .b8s 256 t :: r) 0] [])]], []⟩).holds = (((0 : Int) ≤ (0 : Int) ∧ (0 : Int) < (↑(3 : Nat) : Int)) ∧ inI64 ((0 : Int) + (1 : Int)) ∧ ((0 : Int) ≤ (0 : Int) + (1 : Int) ∧ (0 : Int) + (1 : Int) < (↑(3 : Nat) : Int)) ∧ inI64 ((0 : Int) + (1 : Int) + (1 : Int)) ∧ ((0 : Int) ≤ (0 : Int) + (1 : Int) + (1 : Int) ∧ (0 : Int) + (1 : Int) + (1 : Int) < (↑(3 : Nat) : Int)) ∧ inI64 ((0 : Int) + (1 : Int) + (1 : Int) + (1 : Int)) ∧ ((16 : Nat) = (16 : Nat) ∧ subI t (mvI (unmixB x) (3 : Nat) (16 : Nat)) (16 : Nat) = subB t (unshB (unmixB x))) ∧ (Seg.b8s (256 : Nat) u :: Seg.b8s (256 : Nat) t :: r = Seg.b8s (256 : Nat) u :: Seg.b8s (256 : Nat) t :: r ∧ (0 : Nat) = (0 : Nat)) ∧ True) := by kernel_rfl
theorem vc_aes_apply__dec_0 (u t x : List (BitVec 8)) (r : List Seg) : (wpFn E_aes_apply__dec 2000 (.mk [] []) (f39.body.getD .skip) f39.ntmps f39.results.toList [.agg [.b8s 16 x], .os 0 1 3] [[.one (.fn 46 [] []), .one (.fn 44 [] []), .one (.fn 45 [.ip (.b8s 256 u :: .b8s 256 t :: r) 0] [])]] ⟨.agg [.b8s 16 (subB t (unshB (unmixB x)))], [[.one (.fn 46 [] []), .one (.fn 44 [] []), .one (.fn 45 [.ip (.b8s 256 u :: .b8s 256 t :: r) 0] [])]], []⟩).Holds := by
  refine holdsI (ob_aes_apply__dec_0 u t x r) ?_
  refine ⟨⟨(by decide), (by decide)⟩, (by decide), ⟨(by decide), (by decide)⟩, (by decide), ⟨(by decide), (by decide)⟩, (by decide), ⟨rfl, rfl⟩, ⟨rfl, rfl⟩, trivial⟩
theorem ob_aes_apply__dec_1 (u t x : List (BitVec 8)) (r : List Seg) : (wpFn E_aes_apply__dec 2000 (.mk [] []) (f39.body.getD .skip) f39.ntmps f39.results.toList [.agg [.b8s 16 x], .os 0 1 2] [[.one (.fn 44 [] []), .one (.fn 45 [.ip (.b8s 256 u :: .b8s 256 t :: r) 0] [])]] ⟨.agg [.b8s 16 (subB t (unshB x))], [[.one (.fn 44 [] []), .one (.fn 45 [.ip (.b8s 256 u :: .b8s 256 t :: r) 0] [])]], []⟩).holds = (((0 : Int) ≤ (0 : Int) ∧ (0 : Int) < (↑(2 : Nat) : Int)) ∧ inI64 ((0 : Int) + (1 : Int)) ∧ ((0 : Int) ≤ (0 : Int) + (1 : Int) ∧ (0 : Int) + (1 : Int) < (↑(2 : Nat) : Int)) ∧ inI64 ((0 : Int) + (1 : Int) + (1 : Int)) ∧ ((16 : Nat) = (16 : Nat) ∧ subI t (mvI x (3 : Nat) (16 : Nat)) (16 : Nat) = subB t (unshB x)) ∧ (Seg.b8s (256 : Nat) u :: Seg.b8s (256 : Nat) t :: r = Seg.b8s (256 : Nat) u :: Seg.b8s (256 : Nat) t :: r ∧ (0 : Nat) = (0 : Nat)) ∧ True) := by kernel_rfl
theorem vc_aes_apply__dec_1 (u t x : List (BitVec 8)) (r : List Seg) : (wpFn E_aes_apply__dec 2000 (.mk [] []) (f39.body.getD .skip) f39.ntmps f39.results.toList [.agg [.b8s 16 x], .os 0 1 2] [[.one (.fn 44 [] []), .one (.fn 45 [.ip (.b8s 256 u :: .b8s 256 t :: r) 0] [])]] ⟨.agg [.b8s 16 (subB t (unshB x))], [[.one (.fn 44 [] []), .one (.fn 45 [.ip (.b8s 256 u :: .b8s 256 t :: r) 0] [])]], []⟩).Holds := by
  refine holdsI (ob_aes_apply__dec_1 u t x r) ?_
  refine ⟨⟨(by decide), (by decide)⟩, (by decide), ⟨(by decide), (by decide)⟩, (by decide), ⟨rfl, rfl⟩, ⟨rfl, rfl⟩, trivial⟩
noncomputable def post_aes_apply__dec : List SV → List (List Seg) → FPost := fun L H => match L, H with
  | [.agg [.b8s 16 x], .os 0 1 3], [[.one (.fn 46 [] []), .one (.fn 44 [] []), .one (.fn 45 [.ip (.b8s 256 u :: .b8s 256 t :: r) 0] [])]] => .ret ⟨.agg [.b8s 16 (subB t (unshB (unmixB x)))], [[.one (.fn 46 [] []), .one (.fn 44 [] []), .one (.fn 45 [.ip (.b8s 256 u :: .b8s 256 t :: r) 0] [])]], []⟩
  | [.agg [.b8s 16 x], .os 0 1 2], [[.one (.fn 44 [] []), .one (.fn 45 [.ip (.b8s 256 u :: .b8s 256 t :: r) 0] [])]] => .ret ⟨.agg [.b8s 16 (subB t (unshB x))], [[.one (.fn 44 [] []), .one (.fn 45 [.ip (.b8s 256 u :: .b8s 256 t :: r) 0] [])]], []⟩
  | _, _ => .fail
noncomputable def S_aes_apply__dec : SE.Spec := specOf false [.gen, .own] post_aes_apply__dec
theorem cok_aes_apply__dec : CallOK prog Gl_aes_apply__dec 39 S_aes_apply__dec := by
  refine callOK_ofI (E := E_aes_apply__dec) (code := f39.body.getD .skip) E_aes_apply__dec_ok func39 (by kernel_rfl) (by kernel_rfl) fun L H out ht hp => ?_
  have hl := ht.lens
  clear ht
  unfold post_aes_apply__dec at hp
  split at hp
  · rename_i x u t r
    obtain rfl := hp
    exact ⟨_, _, vc_aes_apply__dec_0 u t x r⟩
  · rename_i x u t r
    obtain rfl := hp
    exact ⟨_, _, vc_aes_apply__dec_1 u t x r⟩
  · exact hp.elim
end Go.Proofs.Try
/-! aes_Cipher_decrypt -/
namespace Go.Proofs.Try
open Go Go.SE
set_option maxRecDepth 100000
set_option maxHeartbeats 400000
set_option linter.unusedVariables false
attribute [local irreducible] mvI subI addIt mxC mxR mxK encI decI ksI nextK nk1 nk2 tm rl8 sbox ibox
noncomputable def Gl_aes_Cipher_decrypt : List (Nat × SV) := []
noncomputable def E_aes_Cipher_decrypt : Env := ⟨T, [(43, S_slices_Backward), (39, S_aes_apply__dec), (42, S_aes_add)], Gl_aes_Cipher_decrypt, [(57, ⟨f57.ntmps, f57.body.getD .skip⟩)]⟩
theorem E_aes_Cipher_decrypt_ok : EnvOK prog E_aes_Cipher_decrypt := ⟨T_ok, (.cons cok_slices_Backward (.cons cok_aes_apply__dec (.cons cok_aes_add .nil))), mix_ok, (FBOK.cons func57 (by kernel_rfl) (by kernel_rfl) (by kernel_rfl) FBOK.nil)⟩
theorem ob_aes_Cipher_decrypt_0 (f g ks x : List (BitVec 8)) (n m : Nat) (hk : ks.length = m) (hp : n = 11 ∧ m = 176) : (wpFn E_aes_Cipher_decrypt 2000 (.mk [] [(0, .mk [(0, cntInv 11 fun j s => tplA s [(3, .int (10 - (j : Int)))] [(idU s 0 3, [.b8s 16 (decI g ks x j)])])] [])]) (f25.body.getD .skip) f25.ntmps f25.results.toList [.ip [.b8s 256 f, .b8s 256 g, .one (.sl 16 n (.b8s m ks))] 0, .agg [.b8s 16 x]] [] ⟨.agg [.b8s 16 (decI g ks x 11)], [], []⟩).holds = (inI64 ((↑n : Int) - (1 : Int)) ∧ ((0 : Nat) ≤ (11 : Nat) ∧ (↑n : Int) - (1 : Int) = (10 : Int) - (↑(0 : Nat) : Int) ∧ ((16 : Nat) = (16 : Nat) ∧ n = n ∧ Seg.b8s m ks = Seg.b8s m ks) ∧ (↑n : Int) = (↑n : Int) ∧ (↑n : Int) - (1 : Int) = (↑n : Int) - (1 : Int) ∧ ((16 : Nat) = (16 : Nat) ∧ n = n ∧ Seg.b8s m ks = Seg.b8s m ks) ∧ ((16 : Nat) = (16 : Nat) ∧ List.replicate (16 : Nat) (0 : BitVec (8 : Nat)) = List.replicate (16 : Nat) (0 : BitVec (8 : Nat))) ∧ ((16 : Nat) = (16 : Nat) ∧ x = decI g ks x (0 : Nat)) ∧ ([Seg.b8s (256 : Nat) f, Seg.b8s (256 : Nat) g, Seg.one (SV.sl (16 : Nat) n (Seg.b8s m ks))] = [Seg.b8s (256 : Nat) f, Seg.b8s (256 : Nat) g, Seg.one (SV.sl (16 : Nat) n (Seg.b8s m ks))] ∧ (0 : Nat) = (0 : Nat)) ∧ True) ∧ ∀ (i : Nat), i ≤ (11 : Nat) → bsplit (decide ((0 : Int) ≤ (10 : Int) - (↑i : Int))) (((0 : Int) ≤ (10 : Int) - (↑i : Int) ∧ (10 : Int) - (↑i : Int) < (↑n : Int)) ∧ ((10 : Int) - (↑i : Int)).toNat * (16 : Nat) + (16 : Nat) ≤ m ∧ bsplit (decide ((10 : Int) - (↑i : Int) = (0 : Int))) (inI64 ((10 : Int) - (↑i : Int) - (1 : Int)) ∧ (i + (1 : Nat) ≤ (11 : Nat) ∧ (11 : Nat) - (i + (1 : Nat)) < (11 : Nat) - i) ∧ (10 : Int) - (↑i : Int) - (1 : Int) = (10 : Int) - (↑(i + (1 : Nat)) : Int) ∧ ((16 : Nat) = (16 : Nat) ∧ n = n ∧ Seg.b8s m ks = Seg.b8s m ks) ∧ (↑n : Int) = (↑n : Int) ∧ (↑n : Int) - (1 : Int) = (↑n : Int) - (1 : Int) ∧ ((16 : Nat) = (16 : Nat) ∧ n = n ∧ Seg.b8s m ks = Seg.b8s m ks) ∧ ((16 : Nat) = (16 : Nat) ∧ List.replicate (16 : Nat) (0 : BitVec (8 : Nat)) = List.replicate (16 : Nat) (0 : BitVec (8 : Nat))) ∧ ((16 : Nat) = (16 : Nat) ∧ addIt (decI g ks x i) (List.take (16 : Nat) (List.drop (((10 : Int) - (↑i : Int)).toNat * (16 : Nat)) ks)) (16 : Nat) = decI g ks x (i + (1 : Nat))) ∧ ([Seg.b8s (256 : Nat) f, Seg.b8s (256 : Nat) g, Seg.one (SV.sl (16 : Nat) n (Seg.b8s m ks))] = [Seg.b8s (256 : Nat) f, Seg.b8s (256 : Nat) g, Seg.one (SV.sl (16 : Nat) n (Seg.b8s m ks))] ∧ (0 : Nat) = (0 : Nat)) ∧ True) (bsplit (decide ((10 : Int) - (↑i : Int) = (10 : Int))) (inI64 ((10 : Int) - (↑i : Int) - (1 : Int)) ∧ (i + (1 : Nat) ≤ (11 : Nat) ∧ (11 : Nat) - (i + (1 : Nat)) < (11 : Nat) - i) ∧ (10 : Int) - (↑i : Int) - (1 : Int) = (10 : Int) - (↑(i + (1 : Nat)) : Int) ∧ ((16 : Nat) = (16 : Nat) ∧ n = n ∧ Seg.b8s m ks = Seg.b8s m ks) ∧ (↑n : Int) = (↑n : Int) ∧ (↑n : Int) - (1 : Int) = (↑n : Int) - (1 : Int) ∧ ((16 : Nat) = (16 : Nat) ∧ n = n ∧ Seg.b8s m ks = Seg.b8s m ks) ∧ ((16 : Nat) = (16 : Nat) ∧ List.replicate (16 : Nat) (0 : BitVec (8 : Nat)) = List.replicate (16 : Nat) (0 : BitVec (8 : Nat))) ∧ ((16 : Nat) = (16 : Nat) ∧ subB g (unshB (addIt (decI g ks x i) (List.take (16 : Nat) (List.drop (((10 : Int) - (↑i : Int)).toNat * (16 : Nat)) ks)) (16 : Nat))) = decI g ks x (i + (1 : Nat))) ∧ ([Seg.b8s (256 : Nat) f, Seg.b8s (256 : Nat) g, Seg.one (SV.sl (16 : Nat) n (Seg.b8s m ks))] = [Seg.b8s (256 : Nat) f, Seg.b8s (256 : Nat) g, Seg.one (SV.sl (16 : Nat) n (Seg.b8s m ks))] ∧ (0 : Nat) = (0 : Nat)) ∧ True) (inI64 ((10 : Int) - (↑i : Int) - (1 : Int)) ∧ (i + (1 : Nat) ≤ (11 : Nat) ∧ (11 : Nat) - (i + (1 : Nat)) < (11 : Nat) - i) ∧ (10 : Int) - (↑i : Int) - (1 : Int) = (10 : Int) - (↑(i + (1 : Nat)) : Int) ∧ ((16 : Nat) = (16 : Nat) ∧ n = n ∧ Seg.b8s m ks = Seg.b8s m ks) ∧ (↑n : Int) = (↑n : Int) ∧ (↑n : Int) - (1 : Int) = (↑n : Int) - (1 : Int) ∧ ((16 : Nat) = (16 : Nat) ∧ n = n ∧ Seg.b8s m ks = Seg.b8s m ks) ∧ ((16 : Nat) = (16 : Nat) ∧ List.replicate (16 : Nat) (0 : BitVec (8 : Nat)) = List.replicate (16 : Nat) (0 : BitVec (8 : Nat))) ∧ ((16 : Nat) = (16 : Nat) ∧ subB g (unshB (unmixB (addIt (decI g ks x i) (List.take (16 : Nat) (List.drop (((10 : Int) - (↑i : Int)).toNat * (16 : Nat)) ks)) (16 : Nat)))) = decI g ks x (i + (1 : Nat))) ∧ ([Seg.b8s (256 : Nat) f, Seg.b8s (256 : Nat) g, Seg.one (SV.sl (16 : Nat) n (Seg.b8s m ks))] = [Seg.b8s (256 : Nat) f, Seg.b8s (256 : Nat) g, Seg.one (SV.sl (16 : Nat) n (Seg.b8s m ks))] ∧ (0 : Nat) = (0 : Nat)) ∧ True))) (((16 : Nat) = (16 : Nat) ∧ decI g ks x i = decI g ks x (11 : Nat)) ∧ True)) := by kernel_rfl
theorem vc_aes_Cipher_decrypt_0 (f g ks x : List (BitVec 8)) (n m : Nat) (hk : ks.length = m) (hp : n = 11 ∧ m = 176) : (wpFn E_aes_Cipher_decrypt 2000 (.mk [] [(0, .mk [(0, cntInv 11 fun j s => tplA s [(3, .int (10 - (j : Int)))] [(idU s 0 3, [.b8s 16 (decI g ks x j)])])] [])]) (f25.body.getD .skip) f25.ntmps f25.results.toList [.ip [.b8s 256 f, .b8s 256 g, .one (.sl 16 n (.b8s m ks))] 0, .agg [.b8s 16 x]] [] ⟨.agg [.b8s 16 (decI g ks x 11)], [], []⟩).Holds := by
  refine holdsI (ob_aes_Cipher_decrypt_0 f g ks x n m hk hp) ?_
  refine ⟨?a0, ⟨(by decide), (by omega), ⟨rfl, rfl, rfl⟩, rfl, rfl, ⟨rfl, rfl, rfl⟩, ⟨rfl, rfl⟩, ⟨rfl, ?_⟩, ⟨rfl, rfl⟩, trivial⟩, fun i0 => fun h1 => bsplit_dec (fun h2 => ⟨⟨(by omega), (by omega)⟩, (by omega), bsplit_dec (fun h3 => ⟨?a1, ⟨(by omega), (by omega)⟩, (by omega), ⟨rfl, rfl, rfl⟩, rfl, rfl, ⟨rfl, rfl, rfl⟩, ⟨rfl, rfl⟩, ⟨rfl, ?_⟩, ⟨rfl, rfl⟩, trivial⟩) (fun h4 => bsplit_dec (fun h5 => ⟨?a2, ⟨(by omega), (by omega)⟩, (by omega), ⟨rfl, rfl, rfl⟩, rfl, rfl, ⟨rfl, rfl, rfl⟩, ⟨rfl, rfl⟩, ⟨rfl, ?_⟩, ⟨rfl, rfl⟩, trivial⟩) (fun h6 => ⟨?a3, ⟨(by omega), (by omega)⟩, (by omega), ⟨rfl, rfl, rfl⟩, rfl, rfl, ⟨rfl, rfl, rfl⟩, ⟨rfl, rfl⟩, ⟨rfl, ?_⟩, ⟨rfl, rfl⟩, trivial⟩))⟩) (fun h7 => ⟨⟨rfl, ?_⟩, trivial⟩)⟩
  case a0 | a1 | a2 | a3 => (simp only [inI64]; omega)
  · exact (decI_zero _ _ _).symm
  · rw [decI_succ, unrnd_0 _ _ (by omega), keyD]
  · rw [decI_succ, unrnd_10 _ _ (by omega), keyD]
  · rw [decI_succ, unrnd_n _ _ (by omega) (by omega), keyD]
  · rw [show i0 = 11 by omega]
noncomputable def post_aes_Cipher_decrypt : List SV → List (List Seg) → FPost := fun L H => match L, H with
  | [.ip [.b8s 256 f, .b8s 256 g, .one (.sl 16 n (.b8s m ks))] 0, .agg [.b8s 16 x]], [] => .vc (n = 11 ∧ m = 176) (.ret ⟨.agg [.b8s 16 (decI g ks x 11)], [], []⟩)
  | _, _ => .fail
noncomputable def S_aes_Cipher_decrypt : SE.Spec := specOf false [.gen, .gen] post_aes_Cipher_decrypt
theorem cok_aes_Cipher_decrypt : CallOK prog Gl_aes_Cipher_decrypt 25 S_aes_Cipher_decrypt := by
  refine callOK_ofI (E := E_aes_Cipher_decrypt) (code := f25.body.getD .skip) E_aes_Cipher_decrypt_ok func25 (by kernel_rfl) (by kernel_rfl) fun L H out ht hp => ?_
  have hl := ht.lens
  clear ht
  unfold post_aes_Cipher_decrypt at hp
  split at hp
  · rename_i f g n m ks x
    obtain ⟨hpre, hp⟩ := hp
    obtain rfl := hp
    exact ⟨_, _, vc_aes_Cipher_decrypt_0 f g ks x n m (hl.1.1.2.2.1.1) hpre⟩
  · exact hp.elim
end Go.Proofs.Try
/-! aes_Cipher_checked__dec -/
namespace Go.Proofs.Try
open Go Go.SE
set_option maxRecDepth 100000
set_option maxHeartbeats 400000
set_option linter.unusedVariables false
attribute [local irreducible] mvI subI addIt mxC mxR mxK encI decI ksI nextK nk1 nk2 tm rl8 sbox ibox addB encB decB keyAt shB subB unshB mixB unmixB rnd unrnd
noncomputable def Gl_aes_Cipher_checked__dec : List (Nat × SV) := []
noncomputable def E_aes_Cipher_checked__dec : Env := ⟨T, [(27, S_aes_Cipher_none), (25, S_aes_Cipher_decrypt)], Gl_aes_Cipher_checked__dec, []⟩
theorem E_aes_Cipher_checked__dec_ok : EnvOK prog E_aes_Cipher_checked__dec := ⟨T_ok, (.cons cok_aes_Cipher_none (.cons cok_aes_Cipher_decrypt .nil)), mix_ok, FBOK.nil⟩
theorem ob_aes_Cipher_checked__dec_0 (b : List (BitVec 8)) (o : SV) : (wpFn E_aes_Cipher_checked__dec 2000 (.mk [] []) (f23.body.getD .skip) f23.ntmps f23.results.toList [.nilp, .sl 1 b.length (.b8s b.length b), o] [] ⟨.tup [.nils, .int 1], [], []⟩).holds = ((1 : Int) = (1 : Int) ∧ True) := by kernel_rfl
theorem vc_aes_Cipher_checked__dec_0 (b : List (BitVec 8)) (o : SV) : (wpFn E_aes_Cipher_checked__dec 2000 (.mk [] []) (f23.body.getD .skip) f23.ntmps f23.results.toList [.nilp, .sl 1 b.length (.b8s b.length b), o] [] ⟨.tup [.nils, .int 1], [], []⟩).Holds := by
  refine holdsI (ob_aes_Cipher_checked__dec_0 b o) ?_
  refine ⟨rfl, trivial⟩
theorem ob_aes_Cipher_checked__dec_1 (f g b : List (BitVec 8)) (o : SV) : (wpFn E_aes_Cipher_checked__dec 2000 (.mk [] []) (f23.body.getD .skip) f23.ntmps f23.results.toList [.ip [.b8s 256 f, .b8s 256 g, .one .nils] 0, .sl 1 b.length (.b8s b.length b), o] [] ⟨.tup [.nils, .int 1], [], []⟩).holds = ((1 : Int) = (1 : Int) ∧ True) := by kernel_rfl
theorem vc_aes_Cipher_checked__dec_1 (f g b : List (BitVec 8)) (o : SV) : (wpFn E_aes_Cipher_checked__dec 2000 (.mk [] []) (f23.body.getD .skip) f23.ntmps f23.results.toList [.ip [.b8s 256 f, .b8s 256 g, .one .nils] 0, .sl 1 b.length (.b8s b.length b), o] [] ⟨.tup [.nils, .int 1], [], []⟩).Holds := by
  refine holdsI (ob_aes_Cipher_checked__dec_1 f g b o) ?_
  refine ⟨rfl, trivial⟩
theorem ob_aes_Cipher_checked__dec_2t (f g ks f2 g2 ks2 b : List (BitVec 8)) (n m n2 m2 : Nat) (hp : n = 11 ∧ n2 = 11 ∧ m2 = 176) (hs : (decide (b.length = 16)) = true) : (wpFn E_aes_Cipher_checked__dec 2000 (.mk [] []) (f23.body.getD .skip) f23.ntmps f23.results.toList [.ip [.b8s 256 f, .b8s 256 g, .one (.sl 16 n (.b8s m ks))] 0, .sl 1 b.length (.b8s b.length b), .fn 25 [.ip [.b8s 256 f2, .b8s 256 g2, .one (.sl 16 n2 (.b8s m2 ks2))] 0] []] [] ⟨.tup [.osub 0 1 0 16, .int 0], [], [[.b8s 16 (decI g2 ks2 b 11)]]⟩).holds = (bsplit (decide ((↑n : Int) = (0 : Int))) ((16 : Nat) = (0 : Nat) ∧ (1 : Int) = (0 : Int) ∧ ((16 : Nat) = (0 : Nat) ∧ decI g2 ks2 b (11 : Nat) = nil8) ∧ True) (bsplit (!decide ((↑b.length : Int) = (16 : Int))) ((16 : Nat) = (0 : Nat) ∧ (2 : Int) = (0 : Int) ∧ ((16 : Nat) = (0 : Nat) ∧ decI g2 ks2 b (11 : Nat) = nil8) ∧ True) (((16 : Nat) ≤ b.length ∧ (0 : Nat) < (16 : Nat)) ∧ (n2 = (11 : Nat) ∧ m2 = (176 : Nat)) ∧ ((0 : Nat) = (0 : Nat) ∧ (16 : Nat) = (16 : Nat)) ∧ (0 : Int) = (0 : Int) ∧ ((16 : Nat) = (16 : Nat) ∧ decI g2 ks2 (List.take (16 : Nat) b) (11 : Nat) = decI g2 ks2 b (11 : Nat)) ∧ True))) := by kernel_rfl
theorem vc_aes_Cipher_checked__dec_2t (f g ks f2 g2 ks2 b : List (BitVec 8)) (n m n2 m2 : Nat) (hp : n = 11 ∧ n2 = 11 ∧ m2 = 176) (hs : (decide (b.length = 16)) = true) : (wpFn E_aes_Cipher_checked__dec 2000 (.mk [] []) (f23.body.getD .skip) f23.ntmps f23.results.toList [.ip [.b8s 256 f, .b8s 256 g, .one (.sl 16 n (.b8s m ks))] 0, .sl 1 b.length (.b8s b.length b), .fn 25 [.ip [.b8s 256 f2, .b8s 256 g2, .one (.sl 16 n2 (.b8s m2 ks2))] 0] []] [] ⟨.tup [.osub 0 1 0 16, .int 0], [], [[.b8s 16 (decI g2 ks2 b 11)]]⟩).Holds := by
  refine holdsI (ob_aes_Cipher_checked__dec_2t f g ks f2 g2 ks2 b n m n2 m2 hp hs) ?_
  refine bsplit_dec (fun h0 => (by exfalso; omega)) (fun h1 => bsplit_not (fun h2 => ⟨?a0, ?a1, ⟨?a2, ?a3⟩, trivial⟩) (fun h3 => ⟨⟨(by omega), (by decide)⟩, ⟨(by omega), (by omega)⟩, ⟨rfl, rfl⟩, rfl, ⟨rfl, ?a4⟩, trivial⟩))
  case a0 | a1 | a2 | a3 => (have h16 := of_decide_eq_true hs; omega)
  case a4 => (have h16 := of_decide_eq_true hs; rw [List.take_of_length_le (by omega)])
theorem ob_aes_Cipher_checked__dec_2f (f g ks f2 g2 ks2 b : List (BitVec 8)) (n m n2 m2 : Nat) (hp : n = 11 ∧ n2 = 11 ∧ m2 = 176) (hs : (decide (b.length = 16)) = false) : (wpFn E_aes_Cipher_checked__dec 2000 (.mk [] []) (f23.body.getD .skip) f23.ntmps f23.results.toList [.ip [.b8s 256 f, .b8s 256 g, .one (.sl 16 n (.b8s m ks))] 0, .sl 1 b.length (.b8s b.length b), .fn 25 [.ip [.b8s 256 f2, .b8s 256 g2, .one (.sl 16 n2 (.b8s m2 ks2))] 0] []] [] ⟨.tup [.nils, .int 2], [], []⟩).holds = (bsplit (decide ((↑n : Int) = (0 : Int))) ((1 : Int) = (2 : Int) ∧ True) (bsplit (!decide ((↑b.length : Int) = (16 : Int))) ((2 : Int) = (2 : Int) ∧ True) (((16 : Nat) ≤ b.length ∧ (0 : Nat) < (16 : Nat)) ∧ (n2 = (11 : Nat) ∧ m2 = (176 : Nat)) ∧ False))) := by kernel_rfl
theorem vc_aes_Cipher_checked__dec_2f (f g ks f2 g2 ks2 b : List (BitVec 8)) (n m n2 m2 : Nat) (hp : n = 11 ∧ n2 = 11 ∧ m2 = 176) (hs : (decide (b.length = 16)) = false) : (wpFn E_aes_Cipher_checked__dec 2000 (.mk [] []) (f23.body.getD .skip) f23.ntmps f23.results.toList [.ip [.b8s 256 f, .b8s 256 g, .one (.sl 16 n (.b8s m ks))] 0, .sl 1 b.length (.b8s b.length b), .fn 25 [.ip [.b8s 256 f2, .b8s 256 g2, .one (.sl 16 n2 (.b8s m2 ks2))] 0] []] [] ⟨.tup [.nils, .int 2], [], []⟩).Holds := by
  refine holdsI (ob_aes_Cipher_checked__dec_2f f g ks f2 g2 ks2 b n m n2 m2 hp hs) ?_
  refine bsplit_dec (fun h0 => (by exfalso; omega)) (fun h1 => bsplit_not (fun h2 => ⟨rfl, trivial⟩) (fun h3 => (by exfalso; (have h16 := of_decide_eq_false hs; omega))))
noncomputable def post_aes_Cipher_checked__dec : List SV → List (List Seg) → FPost := fun L H => match L, H with
  | [.nilp, .sl 1 b_n (.b8s b_m b), o], [] => .ret ⟨.tup [.nils, .int 1], [], []⟩
  | [.ip [.b8s 256 f, .b8s 256 g, .one .nils] 0, .sl 1 b_n (.b8s b_m b), o], [] => .ret ⟨.tup [.nils, .int 1], [], []⟩
  | [.ip [.b8s 256 f, .b8s 256 g, .one (.sl 16 n (.b8s m ks))] 0, .sl 1 b_n (.b8s b_m b), .fn 25 [.ip [.b8s 256 f2, .b8s 256 g2, .one (.sl 16 n2 (.b8s m2 ks2))] 0] []], [] => .vc (n = 11 ∧ n2 = 11 ∧ m2 = 176) (.split (decide (b.length = 16)) (.ret ⟨.tup [.osub 0 1 0 16, .int 0], [], [[.b8s 16 (decI g2 ks2 b 11)]]⟩) (.ret ⟨.tup [.nils, .int 2], [], []⟩))
  | _, _ => .fail
noncomputable def S_aes_Cipher_checked__dec : SE.Spec := specOf false [.gen, .bytes, .gen] post_aes_Cipher_checked__dec
theorem cok_aes_Cipher_checked__dec : CallOK prog Gl_aes_Cipher_checked__dec 23 S_aes_Cipher_checked__dec := by
  refine callOK_ofI (E := E_aes_Cipher_checked__dec) (code := f23.body.getD .skip) E_aes_Cipher_checked__dec_ok func23 (by kernel_rfl) (by kernel_rfl) fun L H out ht hp => ?_
  have hl := ht.lens
  clear ht
  unfold post_aes_Cipher_checked__dec at hp
  split at hp
  · rename_i b_n b_m b o
    have hm_b := hl.1.2.1.1
    have hn_b := hl.1.2.1.2
    obtain rfl : b_m = b.length := hm_b.symm
    obtain rfl : b_n = b.length := hn_b
    obtain rfl := hp
    exact ⟨_, _, vc_aes_Cipher_checked__dec_0 b o⟩
  · rename_i f g b_n b_m b o
    have hm_b := hl.1.2.1.1
    have hn_b := hl.1.2.1.2
    obtain rfl : b_m = b.length := hm_b.symm
    obtain rfl : b_n = b.length := hn_b
    obtain rfl := hp
    exact ⟨_, _, vc_aes_Cipher_checked__dec_1 f g b o⟩
  · rename_i f g n m ks b_n b_m b f2 g2 n2 m2 ks2
    have hm_b := hl.1.2.1.1
    have hn_b := hl.1.2.1.2
    obtain rfl : b_m = b.length := hm_b.symm
    obtain rfl : b_n = b.length := hn_b
    obtain ⟨hpre, hp⟩ := hp
    rcases FPost.ok_split hp with ⟨hs, rfl⟩ | ⟨hs, rfl⟩
    · exact ⟨_, _, vc_aes_Cipher_checked__dec_2t f g ks f2 g2 ks2 b n m n2 m2 hpre hs⟩
    · exact ⟨_, _, vc_aes_Cipher_checked__dec_2f f g ks f2 g2 ks2 b n m n2 m2 hpre hs⟩
  · exact hp.elim
end Go.Proofs.Try
/-! aes_Cipher_Decrypt -/
namespace Go.Proofs.Try
open Go Go.SE
set_option maxRecDepth 100000
set_option maxHeartbeats 400000
set_option linter.unusedVariables false
attribute [local irreducible] mvI subI addIt mxC mxR mxK encI decI ksI nextK nk1 nk2 tm rl8 sbox ibox addB encB decB keyAt shB subB unshB mixB unmixB rnd unrnd
noncomputable def Gl_aes_Cipher_Decrypt : List (Nat × SV) := []
noncomputable def E_aes_Cipher_Decrypt : Env := ⟨T, [(23, S_aes_Cipher_checked__dec)], Gl_aes_Cipher_Decrypt, []⟩
theorem E_aes_Cipher_Decrypt_ok : EnvOK prog E_aes_Cipher_Decrypt := ⟨T_ok, (.cons cok_aes_Cipher_checked__dec .nil), mix_ok, FBOK.nil⟩
theorem ob_aes_Cipher_Decrypt_0 (b : List (BitVec 8)) : (wpFn E_aes_Cipher_Decrypt 2000 (.mk [] []) (f11.body.getD .skip) f11.ntmps f11.results.toList [.nilp, .sl 1 b.length (.b8s b.length b)] [] ⟨.tup [.nils, .int 1], [], []⟩).holds = ((1 : Int) = (1 : Int) ∧ True) := by kernel_rfl
theorem vc_aes_Cipher_Decrypt_0 (b : List (BitVec 8)) : (wpFn E_aes_Cipher_Decrypt 2000 (.mk [] []) (f11.body.getD .skip) f11.ntmps f11.results.toList [.nilp, .sl 1 b.length (.b8s b.length b)] [] ⟨.tup [.nils, .int 1], [], []⟩).Holds := by
  refine holdsI (ob_aes_Cipher_Decrypt_0 b) ?_
  refine ⟨rfl, trivial⟩
theorem ob_aes_Cipher_Decrypt_1 (f g b : List (BitVec 8)) : (wpFn E_aes_Cipher_Decrypt 2000 (.mk [] []) (f11.body.getD .skip) f11.ntmps f11.results.toList [.ip [.b8s 256 f, .b8s 256 g, .one .nils] 0, .sl 1 b.length (.b8s b.length b)] [] ⟨.tup [.nils, .int 1], [], []⟩).holds = ((1 : Int) = (1 : Int) ∧ True) := by kernel_rfl
theorem vc_aes_Cipher_Decrypt_1 (f g b : List (BitVec 8)) : (wpFn E_aes_Cipher_Decrypt 2000 (.mk [] []) (f11.body.getD .skip) f11.ntmps f11.results.toList [.ip [.b8s 256 f, .b8s 256 g, .one .nils] 0, .sl 1 b.length (.b8s b.length b)] [] ⟨.tup [.nils, .int 1], [], []⟩).Holds := by
  refine holdsI (ob_aes_Cipher_Decrypt_1 f g b) ?_
  refine ⟨rfl, trivial⟩
theorem ob_aes_Cipher_Decrypt_2t (f g ks b : List (BitVec 8)) (n m : Nat) (hp : n = 11 ∧ m = 176) (hs : (decide (b.length = 16)) = true) : (wpFn E_aes_Cipher_Decrypt 2000 (.mk [] []) (f11.body.getD .skip) f11.ntmps f11.results.toList [.ip [.b8s 256 f, .b8s 256 g, .one (.sl 16 n (.b8s m ks))] 0, .sl 1 b.length (.b8s b.length b)] [] ⟨.tup [.osub 0 1 0 16, .int 0], [], [[.b8s 16 (decI g ks b 11)]]⟩).holds = ((n = (11 : Nat) ∧ n = (11 : Nat) ∧ m = (176 : Nat)) ∧ bsplit (decide (b.length = (16 : Nat))) (((0 : Nat) = (0 : Nat) ∧ (16 : Nat) = (16 : Nat)) ∧ (0 : Int) = (0 : Int) ∧ ((16 : Nat) = (16 : Nat) ∧ decI g ks b (11 : Nat) = decI g ks b (11 : Nat)) ∧ True) ((16 : Nat) = (0 : Nat) ∧ (2 : Int) = (0 : Int) ∧ ((16 : Nat) = (0 : Nat) ∧ decI g ks b (11 : Nat) = nil8) ∧ True)) := by kernel_rfl
theorem vc_aes_Cipher_Decrypt_2t (f g ks b : List (BitVec 8)) (n m : Nat) (hp : n = 11 ∧ m = 176) (hs : (decide (b.length = 16)) = true) : (wpFn E_aes_Cipher_Decrypt 2000 (.mk [] []) (f11.body.getD .skip) f11.ntmps f11.results.toList [.ip [.b8s 256 f, .b8s 256 g, .one (.sl 16 n (.b8s m ks))] 0, .sl 1 b.length (.b8s b.length b)] [] ⟨.tup [.osub 0 1 0 16, .int 0], [], [[.b8s 16 (decI g ks b 11)]]⟩).Holds := by
  refine holdsI (ob_aes_Cipher_Decrypt_2t f g ks b n m hp hs) ?_
  refine ⟨⟨(by omega), (by omega), (by omega)⟩, bsplit_dec (fun h0 => ⟨⟨rfl, rfl⟩, rfl, ⟨rfl, rfl⟩, trivial⟩) (fun h1 => ⟨?a0, ?a1, ⟨?a2, ?a3⟩, trivial⟩)⟩
  case a0 | a1 | a2 | a3 => (have h16 := of_decide_eq_true hs; omega)
theorem ob_aes_Cipher_Decrypt_2f (f g ks b : List (BitVec 8)) (n m : Nat) (hp : n = 11 ∧ m = 176) (hs : (decide (b.length = 16)) = false) : (wpFn E_aes_Cipher_Decrypt 2000 (.mk [] []) (f11.body.getD .skip) f11.ntmps f11.results.toList [.ip [.b8s 256 f, .b8s 256 g, .one (.sl 16 n (.b8s m ks))] 0, .sl 1 b.length (.b8s b.length b)] [] ⟨.tup [.nils, .int 2], [], []⟩).holds = ((n = (11 : Nat) ∧ n = (11 : Nat) ∧ m = (176 : Nat)) ∧ bsplit (decide (b.length = (16 : Nat))) False ((2 : Int) = (2 : Int) ∧ True)) := by kernel_rfl
theorem vc_aes_Cipher_Decrypt_2f (f g ks b : List (BitVec 8)) (n m : Nat) (hp : n = 11 ∧ m = 176) (hs : (decide (b.length = 16)) = false) : (wpFn E_aes_Cipher_Decrypt 2000 (.mk [] []) (f11.body.getD .skip) f11.ntmps f11.results.toList [.ip [.b8s 256 f, .b8s 256 g, .one (.sl 16 n (.b8s m ks))] 0, .sl 1 b.length (.b8s b.length b)] [] ⟨.tup [.nils, .int 2], [], []⟩).Holds := by
  refine holdsI (ob_aes_Cipher_Decrypt_2f f g ks b n m hp hs) ?_
  refine ⟨⟨(by omega), (by omega), (by omega)⟩, bsplit_dec (fun h0 => (by exfalso; (have h16 := of_decide_eq_false hs; omega))) (fun h1 => ⟨rfl, trivial⟩)⟩
noncomputable def post_aes_Cipher_Decrypt : List SV → List (List Seg) → FPost := fun L H => match L, H with
  | [.nilp, .sl 1 b_n (.b8s b_m b)], [] => .ret ⟨.tup [.nils, .int 1], [], []⟩
  | [.ip [.b8s 256 f, .b8s 256 g, .one .nils] 0, .sl 1 b_n (.b8s b_m b)], [] => .ret ⟨.tup [.nils, .int 1], [], []⟩
  | [.ip [.b8s 256 f, .b8s 256 g, .one (.sl 16 n (.b8s m ks))] 0, .sl 1 b_n (.b8s b_m b)], [] => .vc (n = 11 ∧ m = 176) (.split (decide (b.length = 16)) (.ret ⟨.tup [.osub 0 1 0 16, .int 0], [], [[.b8s 16 (decI g ks b 11)]]⟩) (.ret ⟨.tup [.nils, .int 2], [], []⟩))
  | _, _ => .fail
noncomputable def S_aes_Cipher_Decrypt : SE.Spec := specOf false [.gen, .bytes] post_aes_Cipher_Decrypt
theorem cok_aes_Cipher_Decrypt : CallOK prog Gl_aes_Cipher_Decrypt 11 S_aes_Cipher_Decrypt := by
  refine callOK_ofI (E := E_aes_Cipher_Decrypt) (code := f11.body.getD .skip) E_aes_Cipher_Decrypt_ok func11 (by kernel_rfl) (by kernel_rfl) fun L H out ht hp => ?_
  have hl := ht.lens
  clear ht
  unfold post_aes_Cipher_Decrypt at hp
  split at hp
  · rename_i b_n b_m b
    have hm_b := hl.1.2.1.1
    have hn_b := hl.1.2.1.2
    obtain rfl : b_m = b.length := hm_b.symm
    obtain rfl : b_n = b.length := hn_b
    obtain rfl := hp
    exact ⟨_, _, vc_aes_Cipher_Decrypt_0 b⟩
  · rename_i f g b_n b_m b
    have hm_b := hl.1.2.1.1
    have hn_b := hl.1.2.1.2
    obtain rfl : b_m = b.length := hm_b.symm
    obtain rfl : b_n = b.length := hn_b
    obtain rfl := hp
    exact ⟨_, _, vc_aes_Cipher_Decrypt_1 f g b⟩
  · rename_i f g n m ks b_n b_m b
    have hm_b := hl.1.2.1.1
    have hn_b := hl.1.2.1.2
    obtain rfl : b_m = b.length := hm_b.symm
    obtain rfl : b_n = b.length := hn_b
    obtain ⟨hpre, hp⟩ := hp
    rcases FPost.ok_split hp with ⟨hs, rfl⟩ | ⟨hs, rfl⟩
    · exact ⟨_, _, vc_aes_Cipher_Decrypt_2t f g ks b n m hpre hs⟩
    · exact ⟨_, _, vc_aes_Cipher_Decrypt_2f f g ks b n m hpre hs⟩
  · exact hp.elim
end Go.Proofs.Try
namespace Go.Proofs.Try
open Go Go.SE
noncomputable def Gl_aes_Cipher_Decrypt__frz : List (Nat × SV) := []
noncomputable def S_aes_Cipher_Decrypt__frz : SE.Spec := frzS S_aes_Cipher_Decrypt
theorem cok_aes_Cipher_Decrypt__frz : CallOK prog Gl_aes_Cipher_Decrypt__frz 11 S_aes_Cipher_Decrypt__frz := CallOK.frz cok_aes_Cipher_Decrypt
end Go.Proofs.Try
/-! cts_mode_unchain -/
namespace Go.Proofs.Try
open Go Go.SE
set_option maxRecDepth 100000
set_option maxHeartbeats 400000
set_option linter.unusedVariables false
attribute [local irreducible] mvI subI addIt mxC mxR mxK encI decI ksI nextK nk1 nk2 tm rl8 sbox ibox addB keyAt rsC rsR ruC ruR ivI encB decB shB subB unshB mixB unmixB rnd unrnd wI wK wJ lastJ lastW incB blkC lastC chC catC16 lastD unC ctsPad exch encF decC decF padN
noncomputable def Gl_cts_mode_unchain : List (Nat × SV) := []
noncomputable def E_cts_mode_unchain : Env := ⟨T, [(52, S_slices_Chunk), (11, S_aes_Cipher_Decrypt__frz), (49, S_cts_xor__frz)], Gl_cts_mode_unchain, [(60, ⟨f60.ntmps, f60.body.getD .skip⟩)]⟩
theorem E_cts_mode_unchain_ok : EnvOK prog E_cts_mode_unchain := ⟨T_ok, (.cons cok_slices_Chunk (.cons cok_aes_Cipher_Decrypt__frz (.cons cok_cts_xor__frz .nil))), mix_ok, (FBOK.cons func60 (by kernel_rfl) (by kernel_rfl) (by kernel_rfl) FBOK.nil)⟩
theorem ob_cts_mode_unchain_0 (f g ks iv p : List (BitVec 8)) (n m vn vm : Nat) (hp : f = sbox ∧ g = ibox ∧ n = 11 ∧ m = 176 ∧ vn = 16 ∧ vm = 16 ∧ iv.length = 16 ∧ p.length % 16 = 0 ∧ p.length ≤ 200000) : (wpFn E_cts_mode_unchain 4000 (.mk [] [(0, .mk [(0, cntInv (p.length / 16) fun k s => tplF 8 s [(4, .int ((16 * k : Nat) : Int))] [(idU s 0 4, [.one (.os s.next 1 (16 * k))]), (idU s 0 5, [.one (.sl 1 (lastD iv p k).length (.b8s (lastD iv p k).length (lastD iv p k)))]), (s.next, [.b8s (16 * k) (unC ks iv p k), .spare])])] [])]) (f54.body.getD .skip) f54.ntmps f54.results.toList [.agg [.one (.ip [.b8s 256 f, .b8s 256 g, .one (.sl 16 n (.b8s m ks))] 0), .one (.sl 1 vn (.b8s vm iv))], .sl 1 p.length (.b8s p.length p)] [] ⟨.osub 0 1 0 p.length, [], [[.b8s p.length (unC ks iv p (p.length / 16)), .spare]]⟩).holds = ((1 : Int) ≤ (16 : Int) ∧ ((0 : Nat) ≤ p.length / (16 : Nat) ∧ (0 : Int) = (↑((16 : Nat) * (0 : Nat)) : Int) ∧ (16 : Int) = (16 : Int) ∧ ((1 : Nat) = (1 : Nat) ∧ p.length = p.length ∧ Seg.b8s p.length p = Seg.b8s p.length p) ∧ ((1 : Nat) = (1 : Nat) ∧ vn = (lastD iv p (0 : Nat)).length ∧ Seg.b8s vm iv = Seg.b8s (lastD iv p (0 : Nat)).length (lastD iv p (0 : Nat))) ∧ (16 : Nat) * (0 : Nat) = (0 : Nat) ∧ ([Seg.b8s (256 : Nat) f, Seg.b8s (256 : Nat) g, Seg.one (SV.sl (16 : Nat) n (Seg.b8s m ks))] = [Seg.b8s (256 : Nat) f, Seg.b8s (256 : Nat) g, Seg.one (SV.sl (16 : Nat) n (Seg.b8s m ks))] ∧ (0 : Nat) = (0 : Nat)) ∧ ((1 : Nat) = (1 : Nat) ∧ vn = vn ∧ Seg.b8s vm iv = Seg.b8s vm iv) ∧ ((16 : Nat) * (0 : Nat) = (0 : Nat) ∧ unC ks iv p (0 : Nat) = nil8) ∧ True) ∧ ∀ (i : Nat), i ≤ p.length / (16 : Nat) → bsplit (decide ((↑((16 : Nat) * i) : Int) < (↑p.length : Int))) (((0 : Int) ≤ (↑((16 : Nat) * i) : Int) ∧ (↑((16 : Nat) * i) : Int) ≤ (↑p.length : Int)) ∧ inI64 ((↑((16 : Nat) * i) : Int) + if (↑(p.length - (↑((16 : Nat) * i) : Int).toNat) : Int) < (16 : Int) then (↑(p.length - (↑((16 : Nat) * i) : Int).toNat) : Int) else (16 : Int)) ∧ inI64 ((↑((16 : Nat) * i) : Int) + if (↑(p.length - (↑((16 : Nat) * i) : Int).toNat) : Int) < (16 : Int) then (↑(p.length - (↑((16 : Nat) * i) : Int).toNat) : Int) else (16 : Int)) ∧ (((0 : Int) ≤ (↑((16 : Nat) * i) : Int) + if (↑(p.length - (↑((16 : Nat) * i) : Int).toNat) : Int) < (16 : Int) then (↑(p.length - (↑((16 : Nat) * i) : Int).toNat) : Int) else (16 : Int)) ∧ ((↑((16 : Nat) * i) : Int) + if (↑(p.length - (↑((16 : Nat) * i) : Int).toNat) : Int) < (16 : Int) then (↑(p.length - (↑((16 : Nat) * i) : Int).toNat) : Int) else (16 : Int)) ≤ (↑p.length : Int)) ∧ (((0 : Int) ≤ (↑((16 : Nat) * i) : Int) + if (↑(p.length - (↑((16 : Nat) * i) : Int).toNat) : Int) < (16 : Int) then (↑(p.length - (↑((16 : Nat) * i) : Int).toNat) : Int) else (16 : Int)) ∧ ((↑((16 : Nat) * i) : Int) + if (↑(p.length - (↑((16 : Nat) * i) : Int).toNat) : Int) < (16 : Int) then (↑(p.length - (↑((16 : Nat) * i) : Int).toNat) : Int) else (16 : Int)) ≤ (↑((↑((16 : Nat) * i) : Int) + if (↑(p.length - (↑((16 : Nat) * i) : Int).toNat) : Int) < (16 : Int) then (↑(p.length - (↑((16 : Nat) * i) : Int).toNat) : Int) else (16 : Int)).toNat : Int)) ∧ ((0 : Int) ≤ (↑((16 : Nat) * i) : Int) ∧ (↑((16 : Nat) * i) : Int) ≤ (↑((↑((16 : Nat) * i) : Int) + if (↑(p.length - (↑((16 : Nat) * i) : Int).toNat) : Int) < (16 : Int) then (↑(p.length - (↑((16 : Nat) * i) : Int).toNat) : Int) else (16 : Int)).toNat : Int)) ∧ (n = (11 : Nat) ∧ m = (176 : Nat)) ∧ bsplit (decide ((List.take (((↑((16 : Nat) * i) : Int) + if (↑(p.length - (↑((16 : Nat) * i) : Int).toNat) : Int) < (16 : Int) then (↑(p.length - (↑((16 : Nat) * i) : Int).toNat) : Int) else (16 : Int)).toNat - (↑((16 : Nat) * i) : Int).toNat) (List.drop (↑((16 : Nat) * i) : Int).toNat p)).length = (16 : Nat))) (((16 : Nat) = (16 : Nat) ∧ (decI g ks (List.take (((↑((16 : Nat) * i) : Int) + if (↑(p.length - (↑((16 : Nat) * i) : Int).toNat) : Int) < (16 : Int) then (↑(p.length - (↑((16 : Nat) * i) : Int).toNat) : Int) else (16 : Int)).toNat - (↑((16 : Nat) * i) : Int).toNat) (List.drop (↑((16 : Nat) * i) : Int).toNat p)) (11 : Nat)).length = (16 : Nat)) ∧ ((decI g ks (List.take (((↑((16 : Nat) * i) : Int) + if (↑(p.length - (↑((16 : Nat) * i) : Int).toNat) : Int) < (16 : Int) then (↑(p.length - (↑((16 : Nat) * i) : Int).toNat) : Int) else (16 : Int)).toNat - (↑((16 : Nat) * i) : Int).toNat) (List.drop (↑((16 : Nat) * i) : Int).toNat p)) (11 : Nat)).length = (16 : Nat) ∧ (lastD iv p i).length = (16 : Nat)) ∧ ((16 : Nat) = (16 : Nat) ∧ (addB (decI g ks (List.take (((↑((16 : Nat) * i) : Int) + if (↑(p.length - (↑((16 : Nat) * i) : Int).toNat) : Int) < (16 : Int) then (↑(p.length - (↑((16 : Nat) * i) : Int).toNat) : Int) else (16 : Int)).toNat - (↑((16 : Nat) * i) : Int).toNat) (List.drop (↑((16 : Nat) * i) : Int).toNat p)) (11 : Nat)) (lastD iv p i)).length = (16 : Nat)) ∧ (16 : Nat) * i = (16 : Nat) * i ∧ (16 : Nat) * i + (addB (decI g ks (List.take (((↑((16 : Nat) * i) : Int) + if (↑(p.length - (↑((16 : Nat) * i) : Int).toNat) : Int) < (16 : Int) then (↑(p.length - (↑((16 : Nat) * i) : Int).toNat) : Int) else (16 : Int)).toNat - (↑((16 : Nat) * i) : Int).toNat) (List.drop (↑((16 : Nat) * i) : Int).toNat p)) (11 : Nat)) (lastD iv p i)).length ≤ (4294967296 : Nat) ∧ inI64 ((↑((16 : Nat) * i) : Int) + (16 : Int)) ∧ (i + (1 : Nat) ≤ p.length / (16 : Nat) ∧ p.length / (16 : Nat) - (i + (1 : Nat)) < p.length / (16 : Nat) - i) ∧ (↑((16 : Nat) * i) : Int) + (16 : Int) = (↑((16 : Nat) * (i + (1 : Nat))) : Int) ∧ (16 : Int) = (16 : Int) ∧ ((1 : Nat) = (1 : Nat) ∧ p.length = p.length ∧ Seg.b8s p.length p = Seg.b8s p.length p) ∧ ((1 : Nat) = (1 : Nat) ∧ ((↑((16 : Nat) * i) : Int) + if (↑(p.length - (↑((16 : Nat) * i) : Int).toNat) : Int) < (16 : Int) then (↑(p.length - (↑((16 : Nat) * i) : Int).toNat) : Int) else (16 : Int)).toNat - (↑((16 : Nat) * i) : Int).toNat = (lastD iv p (i + (1 : Nat))).length ∧ Seg.b8s (((↑((16 : Nat) * i) : Int) + if (↑(p.length - (↑((16 : Nat) * i) : Int).toNat) : Int) < (16 : Int) then (↑(p.length - (↑((16 : Nat) * i) : Int).toNat) : Int) else (16 : Int)).toNat - (↑((16 : Nat) * i) : Int).toNat) (List.take (((↑((16 : Nat) * i) : Int) + if (↑(p.length - (↑((16 : Nat) * i) : Int).toNat) : Int) < (16 : Int) then (↑(p.length - (↑((16 : Nat) * i) : Int).toNat) : Int) else (16 : Int)).toNat - (↑((16 : Nat) * i) : Int).toNat) (List.drop (↑((16 : Nat) * i) : Int).toNat p)) = Seg.b8s (lastD iv p (i + (1 : Nat))).length (lastD iv p (i + (1 : Nat)))) ∧ (16 : Nat) * i + (addB (decI g ks (List.take (((↑((16 : Nat) * i) : Int) + if (↑(p.length - (↑((16 : Nat) * i) : Int).toNat) : Int) < (16 : Int) then (↑(p.length - (↑((16 : Nat) * i) : Int).toNat) : Int) else (16 : Int)).toNat - (↑((16 : Nat) * i) : Int).toNat) (List.drop (↑((16 : Nat) * i) : Int).toNat p)) (11 : Nat)) (lastD iv p i)).length = (16 : Nat) * (i + (1 : Nat)) ∧ ([Seg.b8s (256 : Nat) f, Seg.b8s (256 : Nat) g, Seg.one (SV.sl (16 : Nat) n (Seg.b8s m ks))] = [Seg.b8s (256 : Nat) f, Seg.b8s (256 : Nat) g, Seg.one (SV.sl (16 : Nat) n (Seg.b8s m ks))] ∧ (0 : Nat) = (0 : Nat)) ∧ ((1 : Nat) = (1 : Nat) ∧ vn = vn ∧ Seg.b8s vm iv = Seg.b8s vm iv) ∧ ((16 : Nat) * i + (addB (decI g ks (List.take (((↑((16 : Nat) * i) : Int) + if (↑(p.length - (↑((16 : Nat) * i) : Int).toNat) : Int) < (16 : Int) then (↑(p.length - (↑((16 : Nat) * i) : Int).toNat) : Int) else (16 : Int)).toNat - (↑((16 : Nat) * i) : Int).toNat) (List.drop (↑((16 : Nat) * i) : Int).toNat p)) (11 : Nat)) (lastD iv p i)).length = (16 : Nat) * (i + (1 : Nat)) ∧ unC ks iv p i ++ addB (decI g ks (List.take (((↑((16 : Nat) * i) : Int) + if (↑(p.length - (↑((16 : Nat) * i) : Int).toNat) : Int) < (16 : Int) then (↑(p.length - (↑((16 : Nat) * i) : Int).toNat) : Int) else (16 : Int)).toNat - (↑((16 : Nat) * i) : Int).toNat) (List.drop (↑((16 : Nat) * i) : Int).toNat p)) (11 : Nat)) (lastD iv p i) = unC ks iv p (i + (1 : Nat))) ∧ True) ((nil8.length = (16 : Nat) ∧ (lastD iv p i).length = (16 : Nat)) ∧ ((16 : Nat) = (16 : Nat) ∧ (addB nil8 (lastD iv p i)).length = (16 : Nat)) ∧ (16 : Nat) * i = (16 : Nat) * i ∧ (16 : Nat) * i + (addB nil8 (lastD iv p i)).length ≤ (4294967296 : Nat) ∧ inI64 ((↑((16 : Nat) * i) : Int) + (16 : Int)) ∧ (i + (1 : Nat) ≤ p.length / (16 : Nat) ∧ p.length / (16 : Nat) - (i + (1 : Nat)) < p.length / (16 : Nat) - i) ∧ (↑((16 : Nat) * i) : Int) + (16 : Int) = (↑((16 : Nat) * (i + (1 : Nat))) : Int) ∧ (16 : Int) = (16 : Int) ∧ ((1 : Nat) = (1 : Nat) ∧ p.length = p.length ∧ Seg.b8s p.length p = Seg.b8s p.length p) ∧ ((1 : Nat) = (1 : Nat) ∧ ((↑((16 : Nat) * i) : Int) + if (↑(p.length - (↑((16 : Nat) * i) : Int).toNat) : Int) < (16 : Int) then (↑(p.length - (↑((16 : Nat) * i) : Int).toNat) : Int) else (16 : Int)).toNat - (↑((16 : Nat) * i) : Int).toNat = (lastD iv p (i + (1 : Nat))).length ∧ Seg.b8s (((↑((16 : Nat) * i) : Int) + if (↑(p.length - (↑((16 : Nat) * i) : Int).toNat) : Int) < (16 : Int) then (↑(p.length - (↑((16 : Nat) * i) : Int).toNat) : Int) else (16 : Int)).toNat - (↑((16 : Nat) * i) : Int).toNat) (List.take (((↑((16 : Nat) * i) : Int) + if (↑(p.length - (↑((16 : Nat) * i) : Int).toNat) : Int) < (16 : Int) then (↑(p.length - (↑((16 : Nat) * i) : Int).toNat) : Int) else (16 : Int)).toNat - (↑((16 : Nat) * i) : Int).toNat) (List.drop (↑((16 : Nat) * i) : Int).toNat p)) = Seg.b8s (lastD iv p (i + (1 : Nat))).length (lastD iv p (i + (1 : Nat)))) ∧ (16 : Nat) * i + (addB nil8 (lastD iv p i)).length = (16 : Nat) * (i + (1 : Nat)) ∧ ([Seg.b8s (256 : Nat) f, Seg.b8s (256 : Nat) g, Seg.one (SV.sl (16 : Nat) n (Seg.b8s m ks))] = [Seg.b8s (256 : Nat) f, Seg.b8s (256 : Nat) g, Seg.one (SV.sl (16 : Nat) n (Seg.b8s m ks))] ∧ (0 : Nat) = (0 : Nat)) ∧ ((1 : Nat) = (1 : Nat) ∧ vn = vn ∧ Seg.b8s vm iv = Seg.b8s vm iv) ∧ ((16 : Nat) * i + (addB nil8 (lastD iv p i)).length = (16 : Nat) * (i + (1 : Nat)) ∧ unC ks iv p i ++ addB nil8 (lastD iv p i) = unC ks iv p (i + (1 : Nat))) ∧ True)) (((0 : Nat) = (0 : Nat) ∧ (16 : Nat) * i = p.length) ∧ ((16 : Nat) * i = p.length ∧ unC ks iv p i = unC ks iv p (p.length / (16 : Nat))) ∧ True)) := by kernel_rfl
theorem vc_cts_mode_unchain_0 (f g ks iv p : List (BitVec 8)) (n m vn vm : Nat) (hp : f = sbox ∧ g = ibox ∧ n = 11 ∧ m = 176 ∧ vn = 16 ∧ vm = 16 ∧ iv.length = 16 ∧ p.length % 16 = 0 ∧ p.length ≤ 200000) : (wpFn E_cts_mode_unchain 4000 (.mk [] [(0, .mk [(0, cntInv (p.length / 16) fun k s => tplF 8 s [(4, .int ((16 * k : Nat) : Int))] [(idU s 0 4, [.one (.os s.next 1 (16 * k))]), (idU s 0 5, [.one (.sl 1 (lastD iv p k).length (.b8s (lastD iv p k).length (lastD iv p k)))]), (s.next, [.b8s (16 * k) (unC ks iv p k), .spare])])] [])]) (f54.body.getD .skip) f54.ntmps f54.results.toList [.agg [.one (.ip [.b8s 256 f, .b8s 256 g, .one (.sl 16 n (.b8s m ks))] 0), .one (.sl 1 vn (.b8s vm iv))], .sl 1 p.length (.b8s p.length p)] [] ⟨.osub 0 1 0 p.length, [], [[.b8s p.length (unC ks iv p (p.length / 16)), .spare]]⟩).Holds := by
  refine holdsI (ob_cts_mode_unchain_0 f g ks iv p n m vn vm hp) ?_
  refine ⟨(by decide), ⟨(by omega), (by decide), rfl, ⟨rfl, rfl, rfl⟩, ⟨rfl, ?_, ?_⟩, (by decide), ⟨rfl, rfl⟩, ⟨rfl, rfl, rfl⟩, ⟨(by decide), ?_⟩, trivial⟩, fun i0 => fun h1 => bsplit_dec (fun h2 => ⟨⟨(by omega), (by omega)⟩, ?a0, ?a1, ⟨(by omega), (by omega)⟩, ⟨(by omega), (by omega)⟩, ⟨(by omega), (by omega)⟩, ⟨(by omega), (by omega)⟩, bsplit_dec (fun h3 => ⟨⟨rfl, ?_⟩, ⟨?_, ?_⟩, ⟨rfl, ?_⟩, rfl, ?_, ?a2, ⟨(by omega), (by omega)⟩, (by omega), rfl, ⟨rfl, rfl, rfl⟩, ⟨rfl, ?_, ?_⟩, ?_, ⟨rfl, rfl⟩, ⟨rfl, rfl, rfl⟩, ⟨?_, ?_⟩, trivial⟩) (fun h4 => ⟨⟨?_, ?_⟩, ⟨rfl, ?_⟩, rfl, ?_, ?a3, ⟨(by omega), (by omega)⟩, (by omega), rfl, ⟨rfl, rfl, rfl⟩, ⟨rfl, ?_, ?_⟩, ?_, ⟨rfl, rfl⟩, ⟨rfl, rfl, rfl⟩, ⟨?_, ?_⟩, trivial⟩)⟩) (fun h5 => ⟨⟨rfl, (by omega)⟩, ⟨(by omega), ?_⟩, trivial⟩)⟩
  case a0 | a1 | a2 | a3 => (simp only [inI64]; omega)
  · obtain ⟨rfl, rfl, rfl, rfl, rfl, rfl, hv, hm, hb⟩ := hp
    rw [lastD_zero, hv]
  · obtain ⟨rfl, rfl, rfl, rfl, rfl, rfl, hv, hm, hb⟩ := hp
    rw [lastD_zero, hv]
  · rw [unC_zero]
  · obtain ⟨rfl, rfl, rfl, rfl, rfl, rfl, hv, hm, hb⟩ := hp
    have hi : 16 * i0 < p.length := by omega
    have h9 := CK3 p i0 hm hi
    first
      | exact absurd (show _ by rw [CK2 p i0 hm hi]; exact h9) h4
      | (rw [CK2 p i0 hm hi, dec_unC])
      | (rw [CK2 p i0 hm hi, CK1 _ _ hm hi, lastD_succ, h9])
      | (rw [CK1 _ _ hm hi, lastD_succ, h9])
      | (rw [CK2 p i0 hm hi, addB_len, decI_len _ _ _ h9]; omega)
      | (rw [CK2 p i0 hm hi, addB_len, decI_len _ _ _ h9])
      | (rw [CK2 p i0 hm hi, decI_len _ _ _ h9])
      | exact lastD_len _ _ hv _ (by omega)
  · obtain ⟨rfl, rfl, rfl, rfl, rfl, rfl, hv, hm, hb⟩ := hp
    have hi : 16 * i0 < p.length := by omega
    have h9 := CK3 p i0 hm hi
    first
      | exact absurd (show _ by rw [CK2 p i0 hm hi]; exact h9) h4
      | (rw [CK2 p i0 hm hi, dec_unC])
      | (rw [CK2 p i0 hm hi, CK1 _ _ hm hi, lastD_succ, h9])
      | (rw [CK1 _ _ hm hi, lastD_succ, h9])
      | (rw [CK2 p i0 hm hi, addB_len, decI_len _ _ _ h9]; omega)
      | (rw [CK2 p i0 hm hi, addB_len, decI_len _ _ _ h9])
      | (rw [CK2 p i0 hm hi, decI_len _ _ _ h9])
      | exact lastD_len _ _ hv _ (by omega)
  · obtain ⟨rfl, rfl, rfl, rfl, rfl, rfl, hv, hm, hb⟩ := hp
    have hi : 16 * i0 < p.length := by omega
    have h9 := CK3 p i0 hm hi
    first
      | exact absurd (show _ by rw [CK2 p i0 hm hi]; exact h9) h4
      | (rw [CK2 p i0 hm hi, dec_unC])
      | (rw [CK2 p i0 hm hi, CK1 _ _ hm hi, lastD_succ, h9])
      | (rw [CK1 _ _ hm hi, lastD_succ, h9])
      | (rw [CK2 p i0 hm hi, addB_len, decI_len _ _ _ h9]; omega)
      | (rw [CK2 p i0 hm hi, addB_len, decI_len _ _ _ h9])
      | (rw [CK2 p i0 hm hi, decI_len _ _ _ h9])
      | exact lastD_len _ _ hv _ (by omega)
  · obtain ⟨rfl, rfl, rfl, rfl, rfl, rfl, hv, hm, hb⟩ := hp
    have hi : 16 * i0 < p.length := by omega
    have h9 := CK3 p i0 hm hi
    first
      | exact absurd (show _ by rw [CK2 p i0 hm hi]; exact h9) h4
      | (rw [CK2 p i0 hm hi, dec_unC])
      | (rw [CK2 p i0 hm hi, CK1 _ _ hm hi, lastD_succ, h9])
      | (rw [CK1 _ _ hm hi, lastD_succ, h9])
      | (rw [CK2 p i0 hm hi, addB_len, decI_len _ _ _ h9]; omega)
      | (rw [CK2 p i0 hm hi, addB_len, decI_len _ _ _ h9])
      | (rw [CK2 p i0 hm hi, decI_len _ _ _ h9])
      | exact lastD_len _ _ hv _ (by omega)
  · obtain ⟨rfl, rfl, rfl, rfl, rfl, rfl, hv, hm, hb⟩ := hp
    have hi : 16 * i0 < p.length := by omega
    have h9 := CK3 p i0 hm hi
    first
      | exact absurd (show _ by rw [CK2 p i0 hm hi]; exact h9) h4
      | (rw [CK2 p i0 hm hi, dec_unC])
      | (rw [CK2 p i0 hm hi, CK1 _ _ hm hi, lastD_succ, h9])
      | (rw [CK1 _ _ hm hi, lastD_succ, h9])
      | (rw [CK2 p i0 hm hi, addB_len, decI_len _ _ _ h9]; omega)
      | (rw [CK2 p i0 hm hi, addB_len, decI_len _ _ _ h9])
      | (rw [CK2 p i0 hm hi, decI_len _ _ _ h9])
      | exact lastD_len _ _ hv _ (by omega)
  · obtain ⟨rfl, rfl, rfl, rfl, rfl, rfl, hv, hm, hb⟩ := hp
    have hi : 16 * i0 < p.length := by omega
    have h9 := CK3 p i0 hm hi
    first
      | exact absurd (show _ by rw [CK2 p i0 hm hi]; exact h9) h4
      | (rw [CK2 p i0 hm hi, dec_unC])
      | (rw [CK2 p i0 hm hi, CK1 _ _ hm hi, lastD_succ, h9])
      | (rw [CK1 _ _ hm hi, lastD_succ, h9])
      | (rw [CK2 p i0 hm hi, addB_len, decI_len _ _ _ h9]; omega)
      | (rw [CK2 p i0 hm hi, addB_len, decI_len _ _ _ h9])
      | (rw [CK2 p i0 hm hi, decI_len _ _ _ h9])
      | exact lastD_len _ _ hv _ (by omega)
  · obtain ⟨rfl, rfl, rfl, rfl, rfl, rfl, hv, hm, hb⟩ := hp
    have hi : 16 * i0 < p.length := by omega
    have h9 := CK3 p i0 hm hi
    first
      | exact absurd (show _ by rw [CK2 p i0 hm hi]; exact h9) h4
      | (rw [CK2 p i0 hm hi, dec_unC])
      | (rw [CK2 p i0 hm hi, CK1 _ _ hm hi, lastD_succ, h9])
      | (rw [CK1 _ _ hm hi, lastD_succ, h9])
      | (rw [CK2 p i0 hm hi, addB_len, decI_len _ _ _ h9]; omega)
      | (rw [CK2 p i0 hm hi, addB_len, decI_len _ _ _ h9])
      | (rw [CK2 p i0 hm hi, decI_len _ _ _ h9])
      | exact lastD_len _ _ hv _ (by omega)
  · obtain ⟨rfl, rfl, rfl, rfl, rfl, rfl, hv, hm, hb⟩ := hp
    have hi : 16 * i0 < p.length := by omega
    have h9 := CK3 p i0 hm hi
    first
      | exact absurd (show _ by rw [CK2 p i0 hm hi]; exact h9) h4
      | (rw [CK2 p i0 hm hi, dec_unC])
      | (rw [CK2 p i0 hm hi, CK1 _ _ hm hi, lastD_succ, h9])
      | (rw [CK1 _ _ hm hi, lastD_succ, h9])
      | (rw [CK2 p i0 hm hi, addB_len, decI_len _ _ _ h9]; omega)
      | (rw [CK2 p i0 hm hi, addB_len, decI_len _ _ _ h9])
      | (rw [CK2 p i0 hm hi, decI_len _ _ _ h9])
      | exact lastD_len _ _ hv _ (by omega)
  · obtain ⟨rfl, rfl, rfl, rfl, rfl, rfl, hv, hm, hb⟩ := hp
    have hi : 16 * i0 < p.length := by omega
    have h9 := CK3 p i0 hm hi
    first
      | exact absurd (show _ by rw [CK2 p i0 hm hi]; exact h9) h4
      | (rw [CK2 p i0 hm hi, dec_unC])
      | (rw [CK2 p i0 hm hi, CK1 _ _ hm hi, lastD_succ, h9])
      | (rw [CK1 _ _ hm hi, lastD_succ, h9])
      | (rw [CK2 p i0 hm hi, addB_len, decI_len _ _ _ h9]; omega)
      | (rw [CK2 p i0 hm hi, addB_len, decI_len _ _ _ h9])
      | (rw [CK2 p i0 hm hi, decI_len _ _ _ h9])
      | exact lastD_len _ _ hv _ (by omega)
  · obtain ⟨rfl, rfl, rfl, rfl, rfl, rfl, hv, hm, hb⟩ := hp
    have hi : 16 * i0 < p.length := by omega
    have h9 := CK3 p i0 hm hi
    first
      | exact absurd (show _ by rw [CK2 p i0 hm hi]; exact h9) h4
      | (rw [CK2 p i0 hm hi, dec_unC])
      | (rw [CK2 p i0 hm hi, CK1 _ _ hm hi, lastD_succ, h9])
      | (rw [CK1 _ _ hm hi, lastD_succ, h9])
      | (rw [CK2 p i0 hm hi, addB_len, decI_len _ _ _ h9]; omega)
      | (rw [CK2 p i0 hm hi, addB_len, decI_len _ _ _ h9])
      | (rw [CK2 p i0 hm hi, decI_len _ _ _ h9])
      | exact lastD_len _ _ hv _ (by omega)
  · obtain ⟨rfl, rfl, rfl, rfl, rfl, rfl, hv, hm, hb⟩ := hp
    have hi : 16 * i0 < p.length := by omega
    have h9 := CK3 p i0 hm hi
    first
      | exact absurd (show _ by rw [CK2 p i0 hm hi]; exact h9) h4
      | (rw [CK2 p i0 hm hi, dec_unC])
      | (rw [CK2 p i0 hm hi, CK1 _ _ hm hi, lastD_succ, h9])
      | (rw [CK1 _ _ hm hi, lastD_succ, h9])
      | (rw [CK2 p i0 hm hi, addB_len, decI_len _ _ _ h9]; omega)
      | (rw [CK2 p i0 hm hi, addB_len, decI_len _ _ _ h9])
      | (rw [CK2 p i0 hm hi, decI_len _ _ _ h9])
      | exact lastD_len _ _ hv _ (by omega)
  · obtain ⟨rfl, rfl, rfl, rfl, rfl, rfl, hv, hm, hb⟩ := hp
    have hi : 16 * i0 < p.length := by omega
    have h9 := CK3 p i0 hm hi
    first
      | exact absurd (show _ by rw [CK2 p i0 hm hi]; exact h9) h4
      | (rw [CK2 p i0 hm hi, dec_unC])
      | (rw [CK2 p i0 hm hi, CK1 _ _ hm hi, lastD_succ, h9])
      | (rw [CK1 _ _ hm hi, lastD_succ, h9])
      | (rw [CK2 p i0 hm hi, addB_len, decI_len _ _ _ h9]; omega)
      | (rw [CK2 p i0 hm hi, addB_len, decI_len _ _ _ h9])
      | (rw [CK2 p i0 hm hi, decI_len _ _ _ h9])
      | exact lastD_len _ _ hv _ (by omega)
  · obtain ⟨rfl, rfl, rfl, rfl, rfl, rfl, hv, hm, hb⟩ := hp
    have hi : 16 * i0 < p.length := by omega
    have h9 := CK3 p i0 hm hi
    first
      | exact absurd (show _ by rw [CK2 p i0 hm hi]; exact h9) h4
      | (rw [CK2 p i0 hm hi, dec_unC])
      | (rw [CK2 p i0 hm hi, CK1 _ _ hm hi, lastD_succ, h9])
      | (rw [CK1 _ _ hm hi, lastD_succ, h9])
      | (rw [CK2 p i0 hm hi, addB_len, decI_len _ _ _ h9]; omega)
      | (rw [CK2 p i0 hm hi, addB_len, decI_len _ _ _ h9])
      | (rw [CK2 p i0 hm hi, decI_len _ _ _ h9])
      | exact lastD_len _ _ hv _ (by omega)
  · obtain ⟨rfl, rfl, rfl, rfl, rfl, rfl, hv, hm, hb⟩ := hp
    have hi : 16 * i0 < p.length := by omega
    have h9 := CK3 p i0 hm hi
    first
      | exact absurd (show _ by rw [CK2 p i0 hm hi]; exact h9) h4
      | (rw [CK2 p i0 hm hi, dec_unC])
      | (rw [CK2 p i0 hm hi, CK1 _ _ hm hi, lastD_succ, h9])
      | (rw [CK1 _ _ hm hi, lastD_succ, h9])
      | (rw [CK2 p i0 hm hi, addB_len, decI_len _ _ _ h9]; omega)
      | (rw [CK2 p i0 hm hi, addB_len, decI_len _ _ _ h9])
      | (rw [CK2 p i0 hm hi, decI_len _ _ _ h9])
      | exact lastD_len _ _ hv _ (by omega)
  · obtain ⟨rfl, rfl, rfl, rfl, rfl, rfl, hv, hm, hb⟩ := hp
    have hi : 16 * i0 < p.length := by omega
    have h9 := CK3 p i0 hm hi
    first
      | exact absurd (show _ by rw [CK2 p i0 hm hi]; exact h9) h4
      | (rw [CK2 p i0 hm hi, dec_unC])
      | (rw [CK2 p i0 hm hi, CK1 _ _ hm hi, lastD_succ, h9])
      | (rw [CK1 _ _ hm hi, lastD_succ, h9])
      | (rw [CK2 p i0 hm hi, addB_len, decI_len _ _ _ h9]; omega)
      | (rw [CK2 p i0 hm hi, addB_len, decI_len _ _ _ h9])
      | (rw [CK2 p i0 hm hi, decI_len _ _ _ h9])
      | exact lastD_len _ _ hv _ (by omega)
  · obtain ⟨rfl, rfl, rfl, rfl, rfl, rfl, hv, hm, hb⟩ := hp
    have hi : 16 * i0 < p.length := by omega
    have h9 := CK3 p i0 hm hi
    first
      | exact absurd (show _ by rw [CK2 p i0 hm hi]; exact h9) h4
      | (rw [CK2 p i0 hm hi, dec_unC])
      | (rw [CK2 p i0 hm hi, CK1 _ _ hm hi, lastD_succ, h9])
      | (rw [CK1 _ _ hm hi, lastD_succ, h9])
      | (rw [CK2 p i0 hm hi, addB_len, decI_len _ _ _ h9]; omega)
      | (rw [CK2 p i0 hm hi, addB_len, decI_len _ _ _ h9])
      | (rw [CK2 p i0 hm hi, decI_len _ _ _ h9])
      | exact lastD_len _ _ hv _ (by omega)
  · obtain ⟨rfl, rfl, rfl, rfl, rfl, rfl, hv, hm, hb⟩ := hp
    have hi : 16 * i0 < p.length := by omega
    have h9 := CK3 p i0 hm hi
    first
      | exact absurd (show _ by rw [CK2 p i0 hm hi]; exact h9) h4
      | (rw [CK2 p i0 hm hi, dec_unC])
      | (rw [CK2 p i0 hm hi, CK1 _ _ hm hi, lastD_succ, h9])
      | (rw [CK1 _ _ hm hi, lastD_succ, h9])
      | (rw [CK2 p i0 hm hi, addB_len, decI_len _ _ _ h9]; omega)
      | (rw [CK2 p i0 hm hi, addB_len, decI_len _ _ _ h9])
      | (rw [CK2 p i0 hm hi, decI_len _ _ _ h9])
      | exact lastD_len _ _ hv _ (by omega)
  · obtain ⟨rfl, rfl, rfl, rfl, rfl, rfl, hv, hm, hb⟩ := hp
    have hi : 16 * i0 < p.length := by omega
    have h9 := CK3 p i0 hm hi
    first
      | exact absurd (show _ by rw [CK2 p i0 hm hi]; exact h9) h4
      | (rw [CK2 p i0 hm hi, dec_unC])
      | (rw [CK2 p i0 hm hi, CK1 _ _ hm hi, lastD_succ, h9])
      | (rw [CK1 _ _ hm hi, lastD_succ, h9])
      | (rw [CK2 p i0 hm hi, addB_len, decI_len _ _ _ h9]; omega)
      | (rw [CK2 p i0 hm hi, addB_len, decI_len _ _ _ h9])
      | (rw [CK2 p i0 hm hi, decI_len _ _ _ h9])
      | exact lastD_len _ _ hv _ (by omega)
  · obtain ⟨rfl, rfl, rfl, rfl, rfl, rfl, hv, hm, hb⟩ := hp
    have hi : 16 * i0 < p.length := by omega
    have h9 := CK3 p i0 hm hi
    first
      | exact absurd (show _ by rw [CK2 p i0 hm hi]; exact h9) h4
      | (rw [CK2 p i0 hm hi, dec_unC])
      | (rw [CK2 p i0 hm hi, CK1 _ _ hm hi, lastD_succ, h9])
      | (rw [CK1 _ _ hm hi, lastD_succ, h9])
      | (rw [CK2 p i0 hm hi, addB_len, decI_len _ _ _ h9]; omega)
      | (rw [CK2 p i0 hm hi, addB_len, decI_len _ _ _ h9])
      | (rw [CK2 p i0 hm hi, decI_len _ _ _ h9])
      | exact lastD_len _ _ hv _ (by omega)
  · obtain ⟨rfl, rfl, rfl, rfl, rfl, rfl, hv, hm, hb⟩ := hp
    rw [show i0 = p.length / 16 by omega]
noncomputable def post_cts_mode_unchain : List SV → List (List Seg) → FPost := fun L H => match L, H with
  | [.agg [.one (.ip [.b8s 256 f, .b8s 256 g, .one (.sl 16 n (.b8s m ks))] 0), .one (.sl 1 vn (.b8s vm iv))], .sl 1 p_n (.b8s p_m p)], [] => .vc (f = sbox ∧ g = ibox ∧ n = 11 ∧ m = 176 ∧ vn = 16 ∧ vm = 16 ∧ iv.length = 16 ∧ p.length % 16 = 0 ∧ p.length ≤ 200000) (.ret ⟨.osub 0 1 0 p.length, [], [[.b8s p.length (unC ks iv p (p.length / 16)), .spare]]⟩)
  | _, _ => .fail
noncomputable def S_cts_mode_unchain : SE.Spec := specOf false [.gen, .bytes] post_cts_mode_unchain
theorem cok_cts_mode_unchain : CallOK prog Gl_cts_mode_unchain 54 S_cts_mode_unchain := by
  refine callOK_ofI (E := E_cts_mode_unchain) (code := f54.body.getD .skip) E_cts_mode_unchain_ok func54 (by kernel_rfl) (by kernel_rfl) fun L H out ht hp => ?_
  have hl := ht.lens
  clear ht
  unfold post_cts_mode_unchain at hp
  split at hp
  · rename_i f g n m ks vn vm iv p_n p_m p
    have hm_p := hl.1.2.1.1
    have hn_p := hl.1.2.1.2
    obtain rfl : p_m = p.length := hm_p.symm
    obtain rfl : p_n = p.length := hn_p
    obtain ⟨hpre, hp⟩ := hp
    obtain rfl := hp
    exact ⟨_, _, vc_cts_mode_unchain_0 f g ks iv p n m vn vm hpre⟩
  · exact hp.elim
end Go.Proofs.Try
/-! cts_mode_decrypt -/
namespace Go.Proofs.Try
open Go Go.SE
set_option maxRecDepth 100000
set_option maxHeartbeats 400000
set_option linter.unusedVariables false
attribute [local irreducible] mvI subI addIt mxC mxR mxK encI decI ksI nextK nk1 nk2 tm rl8 sbox ibox addB keyAt rsC rsR ruC ruR ivI encB decB shB subB unshB mixB unmixB rnd unrnd wI wK wJ lastJ lastW incB blkC lastC chC catC16 lastD unC ctsPad exch encF decC decF padN
noncomputable def Gl_cts_mode_decrypt : List (Nat × SV) := []
noncomputable def E_cts_mode_decrypt : Env := ⟨T, [(54, S_cts_mode_unchain), (11, S_aes_Cipher_Decrypt__frz), (50, S_slices_Concat)], Gl_cts_mode_decrypt, []⟩
theorem E_cts_mode_decrypt_ok : EnvOK prog E_cts_mode_decrypt := ⟨T_ok, (.cons cok_cts_mode_unchain (.cons cok_aes_Cipher_Decrypt__frz (.cons cok_slices_Concat .nil))), mix_ok, FBOK.nil⟩
theorem ob_cts_mode_decrypt_0 (f g ks iv p : List (BitVec 8)) (n m vn vm : Nat) (hp : f = sbox ∧ g = ibox ∧ n = 11 ∧ m = 176 ∧ vn = 16 ∧ vm = 16 ∧ iv.length = 16 ∧ 16 ≤ p.length ∧ p.length ≤ 131072) : (wpFn E_cts_mode_decrypt 4000 (.mk [] []) (f35.body.getD .skip) f35.ntmps f35.results.toList [.agg [.one (.ip [.b8s 256 f, .b8s 256 g, .one (.sl 16 n (.b8s m ks))] 0), .one (.sl 1 vn (.b8s vm iv))], .sl 1 p.length (.b8s p.length p)] [] ⟨.osub 0 1 0 p.length, [], [[.b8s (padN p.length) (decF ks iv p), .spare]]⟩).holds = (bsplit (decide ((↑p.length : Int) = (16 : Int))) ((f = sbox ∧ g = ibox ∧ n = (11 : Nat) ∧ m = (176 : Nat) ∧ vn = (16 : Nat) ∧ vm = (16 : Nat) ∧ iv.length = (16 : Nat) ∧ p.length % (16 : Nat) = (0 : Nat) ∧ p.length ≤ (200000 : Nat)) ∧ ((0 : Nat) = (0 : Nat) ∧ p.length = p.length) ∧ (p.length = padN p.length ∧ unC ks iv p (p.length / (16 : Nat)) = decF ks iv p) ∧ True) (inI64 ((↑p.length : Int) - (1 : Int)) ∧ ((0 : Int) ≤ (↑p.length : Int) - (1 : Int) ∧ (↑p.length : Int) - (1 : Int) ≤ (9223372036854775807 : Int) ∧ (0 : Int) < (16 : Int)) ∧ inI64 (((↑p.length : Int) - (1 : Int)) / (16 : Int) * (16 : Int)) ∧ inI64 (((↑p.length : Int) - (1 : Int)) / (16 : Int) * (16 : Int) - (16 : Int)) ∧ inI64 (((↑p.length : Int) - (1 : Int)) / (16 : Int) * (16 : Int) - (16 : Int) + (16 : Int)) ∧ inI64 (((↑p.length : Int) - (1 : Int)) / (16 : Int) * (16 : Int) - (16 : Int) + (16 : Int)) ∧ ((0 : Int) ≤ ((↑p.length : Int) - (1 : Int)) / (16 : Int) * (16 : Int) - (16 : Int) + (16 : Int) ∧ ((↑p.length : Int) - (1 : Int)) / (16 : Int) * (16 : Int) - (16 : Int) + (16 : Int) ≤ (↑p.length : Int)) ∧ ((0 : Int) ≤ ((↑p.length : Int) - (1 : Int)) / (16 : Int) * (16 : Int) - (16 : Int) + (16 : Int) ∧ ((↑p.length : Int) - (1 : Int)) / (16 : Int) * (16 : Int) - (16 : Int) + (16 : Int) ≤ (↑(((↑p.length : Int) - (1 : Int)) / (16 : Int) * (16 : Int) - (16 : Int) + (16 : Int)).toNat : Int)) ∧ ((0 : Int) ≤ ((↑p.length : Int) - (1 : Int)) / (16 : Int) * (16 : Int) - (16 : Int) ∧ ((↑p.length : Int) - (1 : Int)) / (16 : Int) * (16 : Int) - (16 : Int) ≤ (↑(((↑p.length : Int) - (1 : Int)) / (16 : Int) * (16 : Int) - (16 : Int) + (16 : Int)).toNat : Int)) ∧ inI64 (((↑p.length : Int) - (1 : Int)) / (16 : Int) * (16 : Int) - (16 : Int) + (16 : Int)) ∧ ((0 : Int) ≤ ((↑p.length : Int) - (1 : Int)) / (16 : Int) * (16 : Int) - (16 : Int) + (16 : Int) ∧ ((↑p.length : Int) - (1 : Int)) / (16 : Int) * (16 : Int) - (16 : Int) + (16 : Int) ≤ (↑p.length : Int)) ∧ (n = (11 : Nat) ∧ m = (176 : Nat)) ∧ bsplit (decide ((List.take ((((↑p.length : Int) - (1 : Int)) / (16 : Int) * (16 : Int) - (16 : Int) + (16 : Int)).toNat - (((↑p.length : Int) - (1 : Int)) / (16 : Int) * (16 : Int) - (16 : Int)).toNat) (List.drop (((↑p.length : Int) - (1 : Int)) / (16 : Int) * (16 : Int) - (16 : Int)).toNat p)).length = (16 : Nat))) (((16 : Nat) = (16 : Nat) ∧ (decI g ks (List.take ((((↑p.length : Int) - (1 : Int)) / (16 : Int) * (16 : Int) - (16 : Int) + (16 : Int)).toNat - (((↑p.length : Int) - (1 : Int)) / (16 : Int) * (16 : Int) - (16 : Int)).toNat) (List.drop (((↑p.length : Int) - (1 : Int)) / (16 : Int) * (16 : Int) - (16 : Int)).toNat p)) (11 : Nat)).length = (16 : Nat)) ∧ ((0 : Int) ≤ ((↑p.length : Int) - (1 : Int)) / (16 : Int) * (16 : Int) - (16 : Int) ∧ ((↑p.length : Int) - (1 : Int)) / (16 : Int) * (16 : Int) - (16 : Int) ≤ (↑p.length : Int)) ∧ ((0 : Int) ≤ (↑(p.length - (((↑p.length : Int) - (1 : Int)) / (16 : Int) * (16 : Int) - (16 : Int) + (16 : Int)).toNat) : Int) ∧ (↑(p.length - (((↑p.length : Int) - (1 : Int)) / (16 : Int) * (16 : Int) - (16 : Int) + (16 : Int)).toNat) : Int) ≤ (↑(decI g ks (List.take ((((↑p.length : Int) - (1 : Int)) / (16 : Int) * (16 : Int) - (16 : Int) + (16 : Int)).toNat - (((↑p.length : Int) - (1 : Int)) / (16 : Int) * (16 : Int) - (16 : Int)).toNat) (List.drop (((↑p.length : Int) - (1 : Int)) / (16 : Int) * (16 : Int) - (16 : Int)).toNat p)) (11 : Nat)).length : Int)) ∧ [List.take (((↑p.length : Int) - (1 : Int)) / (16 : Int) * (16 : Int) - (16 : Int)).toNat p, List.drop (((↑p.length : Int) - (1 : Int)) / (16 : Int) * (16 : Int) - (16 : Int) + (16 : Int)).toNat p, List.drop (↑(p.length - (((↑p.length : Int) - (1 : Int)) / (16 : Int) * (16 : Int) - (16 : Int) + (16 : Int)).toNat) : Int).toNat (decI g ks (List.take ((((↑p.length : Int) - (1 : Int)) / (16 : Int) * (16 : Int) - (16 : Int) + (16 : Int)).toNat - (((↑p.length : Int) - (1 : Int)) / (16 : Int) * (16 : Int) - (16 : Int)).toNat) (List.drop (((↑p.length : Int) - (1 : Int)) / (16 : Int) * (16 : Int) - (16 : Int)).toNat p)) (11 : Nat)), List.take ((((↑p.length : Int) - (1 : Int)) / (16 : Int) * (16 : Int) - (16 : Int) + (16 : Int)).toNat - (((↑p.length : Int) - (1 : Int)) / (16 : Int) * (16 : Int) - (16 : Int)).toNat) (List.drop (((↑p.length : Int) - (1 : Int)) / (16 : Int) * (16 : Int) - (16 : Int)).toNat p)].length = (4 : Nat) ∧ ([List.take (((↑p.length : Int) - (1 : Int)) / (16 : Int) * (16 : Int) - (16 : Int)).toNat p, List.drop (((↑p.length : Int) - (1 : Int)) / (16 : Int) * (16 : Int) - (16 : Int) + (16 : Int)).toNat p, List.drop (↑(p.length - (((↑p.length : Int) - (1 : Int)) / (16 : Int) * (16 : Int) - (16 : Int) + (16 : Int)).toNat) : Int).toNat (decI g ks (List.take ((((↑p.length : Int) - (1 : Int)) / (16 : Int) * (16 : Int) - (16 : Int) + (16 : Int)).toNat - (((↑p.length : Int) - (1 : Int)) / (16 : Int) * (16 : Int) - (16 : Int)).toNat) (List.drop (((↑p.length : Int) - (1 : Int)) / (16 : Int) * (16 : Int) - (16 : Int)).toNat p)) (11 : Nat)), List.take ((((↑p.length : Int) - (1 : Int)) / (16 : Int) * (16 : Int) - (16 : Int) + (16 : Int)).toNat - (((↑p.length : Int) - (1 : Int)) / (16 : Int) * (16 : Int) - (16 : Int)).toNat) (List.drop (((↑p.length : Int) - (1 : Int)) / (16 : Int) * (16 : Int) - (16 : Int)).toNat p)].flatten.length ≤ (4294967296 : Nat) ∧ [List.take (((↑p.length : Int) - (1 : Int)) / (16 : Int) * (16 : Int) - (16 : Int)).toNat p, List.drop (((↑p.length : Int) - (1 : Int)) / (16 : Int) * (16 : Int) - (16 : Int) + (16 : Int)).toNat p, List.drop (↑(p.length - (((↑p.length : Int) - (1 : Int)) / (16 : Int) * (16 : Int) - (16 : Int) + (16 : Int)).toNat) : Int).toNat (decI g ks (List.take ((((↑p.length : Int) - (1 : Int)) / (16 : Int) * (16 : Int) - (16 : Int) + (16 : Int)).toNat - (((↑p.length : Int) - (1 : Int)) / (16 : Int) * (16 : Int) - (16 : Int)).toNat) (List.drop (((↑p.length : Int) - (1 : Int)) / (16 : Int) * (16 : Int) - (16 : Int)).toNat p)) (11 : Nat)), List.take ((((↑p.length : Int) - (1 : Int)) / (16 : Int) * (16 : Int) - (16 : Int) + (16 : Int)).toNat - (((↑p.length : Int) - (1 : Int)) / (16 : Int) * (16 : Int) - (16 : Int)).toNat) (List.drop (((↑p.length : Int) - (1 : Int)) / (16 : Int) * (16 : Int) - (16 : Int)).toNat p)].length ≤ (4294967296 : Nat)) ∧ (0 : Nat) + [List.take (((↑p.length : Int) - (1 : Int)) / (16 : Int) * (16 : Int) - (16 : Int)).toNat p, List.drop (((↑p.length : Int) - (1 : Int)) / (16 : Int) * (16 : Int) - (16 : Int) + (16 : Int)).toNat p, List.drop (↑(p.length - (((↑p.length : Int) - (1 : Int)) / (16 : Int) * (16 : Int) - (16 : Int) + (16 : Int)).toNat) : Int).toNat (decI g ks (List.take ((((↑p.length : Int) - (1 : Int)) / (16 : Int) * (16 : Int) - (16 : Int) + (16 : Int)).toNat - (((↑p.length : Int) - (1 : Int)) / (16 : Int) * (16 : Int) - (16 : Int)).toNat) (List.drop (((↑p.length : Int) - (1 : Int)) / (16 : Int) * (16 : Int) - (16 : Int)).toNat p)) (11 : Nat)), List.take ((((↑p.length : Int) - (1 : Int)) / (16 : Int) * (16 : Int) - (16 : Int) + (16 : Int)).toNat - (((↑p.length : Int) - (1 : Int)) / (16 : Int) * (16 : Int) - (16 : Int)).toNat) (List.drop (((↑p.length : Int) - (1 : Int)) / (16 : Int) * (16 : Int) - (16 : Int)).toNat p)].flatten.length ≤ [List.take (((↑p.length : Int) - (1 : Int)) / (16 : Int) * (16 : Int) - (16 : Int)).toNat p, List.drop (((↑p.length : Int) - (1 : Int)) / (16 : Int) * (16 : Int) - (16 : Int) + (16 : Int)).toNat p, List.drop (↑(p.length - (((↑p.length : Int) - (1 : Int)) / (16 : Int) * (16 : Int) - (16 : Int) + (16 : Int)).toNat) : Int).toNat (decI g ks (List.take ((((↑p.length : Int) - (1 : Int)) / (16 : Int) * (16 : Int) - (16 : Int) + (16 : Int)).toNat - (((↑p.length : Int) - (1 : Int)) / (16 : Int) * (16 : Int) - (16 : Int)).toNat) (List.drop (((↑p.length : Int) - (1 : Int)) / (16 : Int) * (16 : Int) - (16 : Int)).toNat p)) (11 : Nat)), List.take ((((↑p.length : Int) - (1 : Int)) / (16 : Int) * (16 : Int) - (16 : Int) + (16 : Int)).toNat - (((↑p.length : Int) - (1 : Int)) / (16 : Int) * (16 : Int) - (16 : Int)).toNat) (List.drop (((↑p.length : Int) - (1 : Int)) / (16 : Int) * (16 : Int) - (16 : Int)).toNat p)].flatten.length ∧ (f = sbox ∧ g = ibox ∧ n = (11 : Nat) ∧ m = (176 : Nat) ∧ vn = (16 : Nat) ∧ vm = (16 : Nat) ∧ iv.length = (16 : Nat) ∧ (List.take [List.take (((↑p.length : Int) - (1 : Int)) / (16 : Int) * (16 : Int) - (16 : Int)).toNat p, List.drop (((↑p.length : Int) - (1 : Int)) / (16 : Int) * (16 : Int) - (16 : Int) + (16 : Int)).toNat p, List.drop (↑(p.length - (((↑p.length : Int) - (1 : Int)) / (16 : Int) * (16 : Int) - (16 : Int) + (16 : Int)).toNat) : Int).toNat (decI g ks (List.take ((((↑p.length : Int) - (1 : Int)) / (16 : Int) * (16 : Int) - (16 : Int) + (16 : Int)).toNat - (((↑p.length : Int) - (1 : Int)) / (16 : Int) * (16 : Int) - (16 : Int)).toNat) (List.drop (((↑p.length : Int) - (1 : Int)) / (16 : Int) * (16 : Int) - (16 : Int)).toNat p)) (11 : Nat)), List.take ((((↑p.length : Int) - (1 : Int)) / (16 : Int) * (16 : Int) - (16 : Int) + (16 : Int)).toNat - (((↑p.length : Int) - (1 : Int)) / (16 : Int) * (16 : Int) - (16 : Int)).toNat) (List.drop (((↑p.length : Int) - (1 : Int)) / (16 : Int) * (16 : Int) - (16 : Int)).toNat p)].flatten.length (List.drop (0 : Nat) [List.take (((↑p.length : Int) - (1 : Int)) / (16 : Int) * (16 : Int) - (16 : Int)).toNat p, List.drop (((↑p.length : Int) - (1 : Int)) / (16 : Int) * (16 : Int) - (16 : Int) + (16 : Int)).toNat p, List.drop (↑(p.length - (((↑p.length : Int) - (1 : Int)) / (16 : Int) * (16 : Int) - (16 : Int) + (16 : Int)).toNat) : Int).toNat (decI g ks (List.take ((((↑p.length : Int) - (1 : Int)) / (16 : Int) * (16 : Int) - (16 : Int) + (16 : Int)).toNat - (((↑p.length : Int) - (1 : Int)) / (16 : Int) * (16 : Int) - (16 : Int)).toNat) (List.drop (((↑p.length : Int) - (1 : Int)) / (16 : Int) * (16 : Int) - (16 : Int)).toNat p)) (11 : Nat)), List.take ((((↑p.length : Int) - (1 : Int)) / (16 : Int) * (16 : Int) - (16 : Int) + (16 : Int)).toNat - (((↑p.length : Int) - (1 : Int)) / (16 : Int) * (16 : Int) - (16 : Int)).toNat) (List.drop (((↑p.length : Int) - (1 : Int)) / (16 : Int) * (16 : Int) - (16 : Int)).toNat p)].flatten)).length % (16 : Nat) = (0 : Nat) ∧ (List.take [List.take (((↑p.length : Int) - (1 : Int)) / (16 : Int) * (16 : Int) - (16 : Int)).toNat p, List.drop (((↑p.length : Int) - (1 : Int)) / (16 : Int) * (16 : Int) - (16 : Int) + (16 : Int)).toNat p, List.drop (↑(p.length - (((↑p.length : Int) - (1 : Int)) / (16 : Int) * (16 : Int) - (16 : Int) + (16 : Int)).toNat) : Int).toNat (decI g ks (List.take ((((↑p.length : Int) - (1 : Int)) / (16 : Int) * (16 : Int) - (16 : Int) + (16 : Int)).toNat - (((↑p.length : Int) - (1 : Int)) / (16 : Int) * (16 : Int) - (16 : Int)).toNat) (List.drop (((↑p.length : Int) - (1 : Int)) / (16 : Int) * (16 : Int) - (16 : Int)).toNat p)) (11 : Nat)), List.take ((((↑p.length : Int) - (1 : Int)) / (16 : Int) * (16 : Int) - (16 : Int) + (16 : Int)).toNat - (((↑p.length : Int) - (1 : Int)) / (16 : Int) * (16 : Int) - (16 : Int)).toNat) (List.drop (((↑p.length : Int) - (1 : Int)) / (16 : Int) * (16 : Int) - (16 : Int)).toNat p)].flatten.length (List.drop (0 : Nat) [List.take (((↑p.length : Int) - (1 : Int)) / (16 : Int) * (16 : Int) - (16 : Int)).toNat p, List.drop (((↑p.length : Int) - (1 : Int)) / (16 : Int) * (16 : Int) - (16 : Int) + (16 : Int)).toNat p, List.drop (↑(p.length - (((↑p.length : Int) - (1 : Int)) / (16 : Int) * (16 : Int) - (16 : Int) + (16 : Int)).toNat) : Int).toNat (decI g ks (List.take ((((↑p.length : Int) - (1 : Int)) / (16 : Int) * (16 : Int) - (16 : Int) + (16 : Int)).toNat - (((↑p.length : Int) - (1 : Int)) / (16 : Int) * (16 : Int) - (16 : Int)).toNat) (List.drop (((↑p.length : Int) - (1 : Int)) / (16 : Int) * (16 : Int) - (16 : Int)).toNat p)) (11 : Nat)), List.take ((((↑p.length : Int) - (1 : Int)) / (16 : Int) * (16 : Int) - (16 : Int) + (16 : Int)).toNat - (((↑p.length : Int) - (1 : Int)) / (16 : Int) * (16 : Int) - (16 : Int)).toNat) (List.drop (((↑p.length : Int) - (1 : Int)) / (16 : Int) * (16 : Int) - (16 : Int)).toNat p)].flatten)).length ≤ (200000 : Nat)) ∧ ((0 : Int) ≤ (↑p.length : Int) ∧ (↑p.length : Int) ≤ (↑(List.take [List.take (((↑p.length : Int) - (1 : Int)) / (16 : Int) * (16 : Int) - (16 : Int)).toNat p, List.drop (((↑p.length : Int) - (1 : Int)) / (16 : Int) * (16 : Int) - (16 : Int) + (16 : Int)).toNat p, List.drop (↑(p.length - (((↑p.length : Int) - (1 : Int)) / (16 : Int) * (16 : Int) - (16 : Int) + (16 : Int)).toNat) : Int).toNat (decI g ks (List.take ((((↑p.length : Int) - (1 : Int)) / (16 : Int) * (16 : Int) - (16 : Int) + (16 : Int)).toNat - (((↑p.length : Int) - (1 : Int)) / (16 : Int) * (16 : Int) - (16 : Int)).toNat) (List.drop (((↑p.length : Int) - (1 : Int)) / (16 : Int) * (16 : Int) - (16 : Int)).toNat p)) (11 : Nat)), List.take ((((↑p.length : Int) - (1 : Int)) / (16 : Int) * (16 : Int) - (16 : Int) + (16 : Int)).toNat - (((↑p.length : Int) - (1 : Int)) / (16 : Int) * (16 : Int) - (16 : Int)).toNat) (List.drop (((↑p.length : Int) - (1 : Int)) / (16 : Int) * (16 : Int) - (16 : Int)).toNat p)].flatten.length (List.drop (0 : Nat) [List.take (((↑p.length : Int) - (1 : Int)) / (16 : Int) * (16 : Int) - (16 : Int)).toNat p, List.drop (((↑p.length : Int) - (1 : Int)) / (16 : Int) * (16 : Int) - (16 : Int) + (16 : Int)).toNat p, List.drop (↑(p.length - (((↑p.length : Int) - (1 : Int)) / (16 : Int) * (16 : Int) - (16 : Int) + (16 : Int)).toNat) : Int).toNat (decI g ks (List.take ((((↑p.length : Int) - (1 : Int)) / (16 : Int) * (16 : Int) - (16 : Int) + (16 : Int)).toNat - (((↑p.length : Int) - (1 : Int)) / (16 : Int) * (16 : Int) - (16 : Int)).toNat) (List.drop (((↑p.length : Int) - (1 : Int)) / (16 : Int) * (16 : Int) - (16 : Int)).toNat p)) (11 : Nat)), List.take ((((↑p.length : Int) - (1 : Int)) / (16 : Int) * (16 : Int) - (16 : Int) + (16 : Int)).toNat - (((↑p.length : Int) - (1 : Int)) / (16 : Int) * (16 : Int) - (16 : Int)).toNat) (List.drop (((↑p.length : Int) - (1 : Int)) / (16 : Int) * (16 : Int) - (16 : Int)).toNat p)].flatten)).length : Int)) ∧ ((0 : Int) ≤ (↑p.length : Int) ∧ (↑p.length : Int) ≤ (↑(↑p.length : Int).toNat : Int)) ∧ ((0 : Nat) + (0 : Nat) = (0 : Nat) ∧ (↑p.length : Int).toNat = p.length) ∧ ((List.take [List.take (((↑p.length : Int) - (1 : Int)) / (16 : Int) * (16 : Int) - (16 : Int)).toNat p, List.drop (((↑p.length : Int) - (1 : Int)) / (16 : Int) * (16 : Int) - (16 : Int) + (16 : Int)).toNat p, List.drop (↑(p.length - (((↑p.length : Int) - (1 : Int)) / (16 : Int) * (16 : Int) - (16 : Int) + (16 : Int)).toNat) : Int).toNat (decI g ks (List.take ((((↑p.length : Int) - (1 : Int)) / (16 : Int) * (16 : Int) - (16 : Int) + (16 : Int)).toNat - (((↑p.length : Int) - (1 : Int)) / (16 : Int) * (16 : Int) - (16 : Int)).toNat) (List.drop (((↑p.length : Int) - (1 : Int)) / (16 : Int) * (16 : Int) - (16 : Int)).toNat p)) (11 : Nat)), List.take ((((↑p.length : Int) - (1 : Int)) / (16 : Int) * (16 : Int) - (16 : Int) + (16 : Int)).toNat - (((↑p.length : Int) - (1 : Int)) / (16 : Int) * (16 : Int) - (16 : Int)).toNat) (List.drop (((↑p.length : Int) - (1 : Int)) / (16 : Int) * (16 : Int) - (16 : Int)).toNat p)].flatten.length (List.drop (0 : Nat) [List.take (((↑p.length : Int) - (1 : Int)) / (16 : Int) * (16 : Int) - (16 : Int)).toNat p, List.drop (((↑p.length : Int) - (1 : Int)) / (16 : Int) * (16 : Int) - (16 : Int) + (16 : Int)).toNat p, List.drop (↑(p.length - (((↑p.length : Int) - (1 : Int)) / (16 : Int) * (16 : Int) - (16 : Int) + (16 : Int)).toNat) : Int).toNat (decI g ks (List.take ((((↑p.length : Int) - (1 : Int)) / (16 : Int) * (16 : Int) - (16 : Int) + (16 : Int)).toNat - (((↑p.length : Int) - (1 : Int)) / (16 : Int) * (16 : Int) - (16 : Int)).toNat) (List.drop (((↑p.length : Int) - (1 : Int)) / (16 : Int) * (16 : Int) - (16 : Int)).toNat p)) (11 : Nat)), List.take ((((↑p.length : Int) - (1 : Int)) / (16 : Int) * (16 : Int) - (16 : Int) + (16 : Int)).toNat - (((↑p.length : Int) - (1 : Int)) / (16 : Int) * (16 : Int) - (16 : Int)).toNat) (List.drop (((↑p.length : Int) - (1 : Int)) / (16 : Int) * (16 : Int) - (16 : Int)).toNat p)].flatten)).length = padN p.length ∧ unC ks iv (List.take [List.take (((↑p.length : Int) - (1 : Int)) / (16 : Int) * (16 : Int) - (16 : Int)).toNat p, List.drop (((↑p.length : Int) - (1 : Int)) / (16 : Int) * (16 : Int) - (16 : Int) + (16 : Int)).toNat p, List.drop (↑(p.length - (((↑p.length : Int) - (1 : Int)) / (16 : Int) * (16 : Int) - (16 : Int) + (16 : Int)).toNat) : Int).toNat (decI g ks (List.take ((((↑p.length : Int) - (1 : Int)) / (16 : Int) * (16 : Int) - (16 : Int) + (16 : Int)).toNat - (((↑p.length : Int) - (1 : Int)) / (16 : Int) * (16 : Int) - (16 : Int)).toNat) (List.drop (((↑p.length : Int) - (1 : Int)) / (16 : Int) * (16 : Int) - (16 : Int)).toNat p)) (11 : Nat)), List.take ((((↑p.length : Int) - (1 : Int)) / (16 : Int) * (16 : Int) - (16 : Int) + (16 : Int)).toNat - (((↑p.length : Int) - (1 : Int)) / (16 : Int) * (16 : Int) - (16 : Int)).toNat) (List.drop (((↑p.length : Int) - (1 : Int)) / (16 : Int) * (16 : Int) - (16 : Int)).toNat p)].flatten.length (List.drop (0 : Nat) [List.take (((↑p.length : Int) - (1 : Int)) / (16 : Int) * (16 : Int) - (16 : Int)).toNat p, List.drop (((↑p.length : Int) - (1 : Int)) / (16 : Int) * (16 : Int) - (16 : Int) + (16 : Int)).toNat p, List.drop (↑(p.length - (((↑p.length : Int) - (1 : Int)) / (16 : Int) * (16 : Int) - (16 : Int) + (16 : Int)).toNat) : Int).toNat (decI g ks (List.take ((((↑p.length : Int) - (1 : Int)) / (16 : Int) * (16 : Int) - (16 : Int) + (16 : Int)).toNat - (((↑p.length : Int) - (1 : Int)) / (16 : Int) * (16 : Int) - (16 : Int)).toNat) (List.drop (((↑p.length : Int) - (1 : Int)) / (16 : Int) * (16 : Int) - (16 : Int)).toNat p)) (11 : Nat)), List.take ((((↑p.length : Int) - (1 : Int)) / (16 : Int) * (16 : Int) - (16 : Int) + (16 : Int)).toNat - (((↑p.length : Int) - (1 : Int)) / (16 : Int) * (16 : Int) - (16 : Int)).toNat) (List.drop (((↑p.length : Int) - (1 : Int)) / (16 : Int) * (16 : Int) - (16 : Int)).toNat p)].flatten)) ((List.take [List.take (((↑p.length : Int) - (1 : Int)) / (16 : Int) * (16 : Int) - (16 : Int)).toNat p, List.drop (((↑p.length : Int) - (1 : Int)) / (16 : Int) * (16 : Int) - (16 : Int) + (16 : Int)).toNat p, List.drop (↑(p.length - (((↑p.length : Int) - (1 : Int)) / (16 : Int) * (16 : Int) - (16 : Int) + (16 : Int)).toNat) : Int).toNat (decI g ks (List.take ((((↑p.length : Int) - (1 : Int)) / (16 : Int) * (16 : Int) - (16 : Int) + (16 : Int)).toNat - (((↑p.length : Int) - (1 : Int)) / (16 : Int) * (16 : Int) - (16 : Int)).toNat) (List.drop (((↑p.length : Int) - (1 : Int)) / (16 : Int) * (16 : Int) - (16 : Int)).toNat p)) (11 : Nat)), List.take ((((↑p.length : Int) - (1 : Int)) / (16 : Int) * (16 : Int) - (16 : Int) + (16 : Int)).toNat - (((↑p.length : Int) - (1 : Int)) / (16 : Int) * (16 : Int) - (16 : Int)).toNat) (List.drop (((↑p.length : Int) - (1 : Int)) / (16 : Int) * (16 : Int) - (16 : Int)).toNat p)].flatten.length (List.drop (0 : Nat) [List.take (((↑p.length : Int) - (1 : Int)) / (16 : Int) * (16 : Int) - (16 : Int)).toNat p, List.drop (((↑p.length : Int) - (1 : Int)) / (16 : Int) * (16 : Int) - (16 : Int) + (16 : Int)).toNat p, List.drop (↑(p.length - (((↑p.length : Int) - (1 : Int)) / (16 : Int) * (16 : Int) - (16 : Int) + (16 : Int)).toNat) : Int).toNat (decI g ks (List.take ((((↑p.length : Int) - (1 : Int)) / (16 : Int) * (16 : Int) - (16 : Int) + (16 : Int)).toNat - (((↑p.length : Int) - (1 : Int)) / (16 : Int) * (16 : Int) - (16 : Int)).toNat) (List.drop (((↑p.length : Int) - (1 : Int)) / (16 : Int) * (16 : Int) - (16 : Int)).toNat p)) (11 : Nat)), List.take ((((↑p.length : Int) - (1 : Int)) / (16 : Int) * (16 : Int) - (16 : Int) + (16 : Int)).toNat - (((↑p.length : Int) - (1 : Int)) / (16 : Int) * (16 : Int) - (16 : Int)).toNat) (List.drop (((↑p.length : Int) - (1 : Int)) / (16 : Int) * (16 : Int) - (16 : Int)).toNat p)].flatten)).length / (16 : Nat)) = decF ks iv p) ∧ True) (((0 : Int) ≤ ((↑p.length : Int) - (1 : Int)) / (16 : Int) * (16 : Int) - (16 : Int) ∧ ((↑p.length : Int) - (1 : Int)) / (16 : Int) * (16 : Int) - (16 : Int) ≤ (↑p.length : Int)) ∧ ((0 : Int) ≤ (↑(p.length - (((↑p.length : Int) - (1 : Int)) / (16 : Int) * (16 : Int) - (16 : Int) + (16 : Int)).toNat) : Int) ∧ (↑(p.length - (((↑p.length : Int) - (1 : Int)) / (16 : Int) * (16 : Int) - (16 : Int) + (16 : Int)).toNat) : Int) ≤ (↑(0 : Nat) : Int)) ∧ [List.take (((↑p.length : Int) - (1 : Int)) / (16 : Int) * (16 : Int) - (16 : Int)).toNat p, List.drop (((↑p.length : Int) - (1 : Int)) / (16 : Int) * (16 : Int) - (16 : Int) + (16 : Int)).toNat p, nil8, List.take ((((↑p.length : Int) - (1 : Int)) / (16 : Int) * (16 : Int) - (16 : Int) + (16 : Int)).toNat - (((↑p.length : Int) - (1 : Int)) / (16 : Int) * (16 : Int) - (16 : Int)).toNat) (List.drop (((↑p.length : Int) - (1 : Int)) / (16 : Int) * (16 : Int) - (16 : Int)).toNat p)].length = (4 : Nat) ∧ ([List.take (((↑p.length : Int) - (1 : Int)) / (16 : Int) * (16 : Int) - (16 : Int)).toNat p, List.drop (((↑p.length : Int) - (1 : Int)) / (16 : Int) * (16 : Int) - (16 : Int) + (16 : Int)).toNat p, nil8, List.take ((((↑p.length : Int) - (1 : Int)) / (16 : Int) * (16 : Int) - (16 : Int) + (16 : Int)).toNat - (((↑p.length : Int) - (1 : Int)) / (16 : Int) * (16 : Int) - (16 : Int)).toNat) (List.drop (((↑p.length : Int) - (1 : Int)) / (16 : Int) * (16 : Int) - (16 : Int)).toNat p)].flatten.length ≤ (4294967296 : Nat) ∧ [List.take (((↑p.length : Int) - (1 : Int)) / (16 : Int) * (16 : Int) - (16 : Int)).toNat p, List.drop (((↑p.length : Int) - (1 : Int)) / (16 : Int) * (16 : Int) - (16 : Int) + (16 : Int)).toNat p, nil8, List.take ((((↑p.length : Int) - (1 : Int)) / (16 : Int) * (16 : Int) - (16 : Int) + (16 : Int)).toNat - (((↑p.length : Int) - (1 : Int)) / (16 : Int) * (16 : Int) - (16 : Int)).toNat) (List.drop (((↑p.length : Int) - (1 : Int)) / (16 : Int) * (16 : Int) - (16 : Int)).toNat p)].length ≤ (4294967296 : Nat)) ∧ (0 : Nat) + [List.take (((↑p.length : Int) - (1 : Int)) / (16 : Int) * (16 : Int) - (16 : Int)).toNat p, List.drop (((↑p.length : Int) - (1 : Int)) / (16 : Int) * (16 : Int) - (16 : Int) + (16 : Int)).toNat p, nil8, List.take ((((↑p.length : Int) - (1 : Int)) / (16 : Int) * (16 : Int) - (16 : Int) + (16 : Int)).toNat - (((↑p.length : Int) - (1 : Int)) / (16 : Int) * (16 : Int) - (16 : Int)).toNat) (List.drop (((↑p.length : Int) - (1 : Int)) / (16 : Int) * (16 : Int) - (16 : Int)).toNat p)].flatten.length ≤ [List.take (((↑p.length : Int) - (1 : Int)) / (16 : Int) * (16 : Int) - (16 : Int)).toNat p, List.drop (((↑p.length : Int) - (1 : Int)) / (16 : Int) * (16 : Int) - (16 : Int) + (16 : Int)).toNat p, nil8, List.take ((((↑p.length : Int) - (1 : Int)) / (16 : Int) * (16 : Int) - (16 : Int) + (16 : Int)).toNat - (((↑p.length : Int) - (1 : Int)) / (16 : Int) * (16 : Int) - (16 : Int)).toNat) (List.drop (((↑p.length : Int) - (1 : Int)) / (16 : Int) * (16 : Int) - (16 : Int)).toNat p)].flatten.length ∧ (f = sbox ∧ g = ibox ∧ n = (11 : Nat) ∧ m = (176 : Nat) ∧ vn = (16 : Nat) ∧ vm = (16 : Nat) ∧ iv.length = (16 : Nat) ∧ (List.take [List.take (((↑p.length : Int) - (1 : Int)) / (16 : Int) * (16 : Int) - (16 : Int)).toNat p, List.drop (((↑p.length : Int) - (1 : Int)) / (16 : Int) * (16 : Int) - (16 : Int) + (16 : Int)).toNat p, nil8, List.take ((((↑p.length : Int) - (1 : Int)) / (16 : Int) * (16 : Int) - (16 : Int) + (16 : Int)).toNat - (((↑p.length : Int) - (1 : Int)) / (16 : Int) * (16 : Int) - (16 : Int)).toNat) (List.drop (((↑p.length : Int) - (1 : Int)) / (16 : Int) * (16 : Int) - (16 : Int)).toNat p)].flatten.length (List.drop (0 : Nat) [List.take (((↑p.length : Int) - (1 : Int)) / (16 : Int) * (16 : Int) - (16 : Int)).toNat p, List.drop (((↑p.length : Int) - (1 : Int)) / (16 : Int) * (16 : Int) - (16 : Int) + (16 : Int)).toNat p, nil8, List.take ((((↑p.length : Int) - (1 : Int)) / (16 : Int) * (16 : Int) - (16 : Int) + (16 : Int)).toNat - (((↑p.length : Int) - (1 : Int)) / (16 : Int) * (16 : Int) - (16 : Int)).toNat) (List.drop (((↑p.length : Int) - (1 : Int)) / (16 : Int) * (16 : Int) - (16 : Int)).toNat p)].flatten)).length % (16 : Nat) = (0 : Nat) ∧ (List.take [List.take (((↑p.length : Int) - (1 : Int)) / (16 : Int) * (16 : Int) - (16 : Int)).toNat p, List.drop (((↑p.length : Int) - (1 : Int)) / (16 : Int) * (16 : Int) - (16 : Int) + (16 : Int)).toNat p, nil8, List.take ((((↑p.length : Int) - (1 : Int)) / (16 : Int) * (16 : Int) - (16 : Int) + (16 : Int)).toNat - (((↑p.length : Int) - (1 : Int)) / (16 : Int) * (16 : Int) - (16 : Int)).toNat) (List.drop (((↑p.length : Int) - (1 : Int)) / (16 : Int) * (16 : Int) - (16 : Int)).toNat p)].flatten.length (List.drop (0 : Nat) [List.take (((↑p.length : Int) - (1 : Int)) / (16 : Int) * (16 : Int) - (16 : Int)).toNat p, List.drop (((↑p.length : Int) - (1 : Int)) / (16 : Int) * (16 : Int) - (16 : Int) + (16 : Int)).toNat p, nil8, List.take ((((↑p.length : Int) - (1 : Int)) / (16 : Int) * (16 : Int) - (16 : Int) + (16 : Int)).toNat - (((↑p.length : Int) - (1 : Int)) / (16 : Int) * (16 : Int) - (16 : Int)).toNat) (List.drop (((↑p.length : Int) - (1 : Int)) / (16 : Int) * (16 : Int) - (16 : Int)).toNat p)].flatten)).length ≤ (200000 : Nat)) ∧ ((0 : Int) ≤ (↑p.length : Int) ∧ (↑p.length : Int) ≤ (↑(List.take [List.take (((↑p.length : Int) - (1 : Int)) / (16 : Int) * (16 : Int) - (16 : Int)).toNat p, List.drop (((↑p.length : Int) - (1 : Int)) / (16 : Int) * (16 : Int) - (16 : Int) + (16 : Int)).toNat p, nil8, List.take ((((↑p.length : Int) - (1 : Int)) / (16 : Int) * (16 : Int) - (16 : Int) + (16 : Int)).toNat - (((↑p.length : Int) - (1 : Int)) / (16 : Int) * (16 : Int) - (16 : Int)).toNat) (List.drop (((↑p.length : Int) - (1 : Int)) / (16 : Int) * (16 : Int) - (16 : Int)).toNat p)].flatten.length (List.drop (0 : Nat) [List.take (((↑p.length : Int) - (1 : Int)) / (16 : Int) * (16 : Int) - (16 : Int)).toNat p, List.drop (((↑p.length : Int) - (1 : Int)) / (16 : Int) * (16 : Int) - (16 : Int) + (16 : Int)).toNat p, nil8, List.take ((((↑p.length : Int) - (1 : Int)) / (16 : Int) * (16 : Int) - (16 : Int) + (16 : Int)).toNat - (((↑p.length : Int) - (1 : Int)) / (16 : Int) * (16 : Int) - (16 : Int)).toNat) (List.drop (((↑p.length : Int) - (1 : Int)) / (16 : Int) * (16 : Int) - (16 : Int)).toNat p)].flatten)).length : Int)) ∧ ((0 : Int) ≤ (↑p.length : Int) ∧ (↑p.length : Int) ≤ (↑(↑p.length : Int).toNat : Int)) ∧ ((0 : Nat) + (0 : Nat) = (0 : Nat) ∧ (↑p.length : Int).toNat = p.length) ∧ ((List.take [List.take (((↑p.length : Int) - (1 : Int)) / (16 : Int) * (16 : Int) - (16 : Int)).toNat p, List.drop (((↑p.length : Int) - (1 : Int)) / (16 : Int) * (16 : Int) - (16 : Int) + (16 : Int)).toNat p, nil8, List.take ((((↑p.length : Int) - (1 : Int)) / (16 : Int) * (16 : Int) - (16 : Int) + (16 : Int)).toNat - (((↑p.length : Int) - (1 : Int)) / (16 : Int) * (16 : Int) - (16 : Int)).toNat) (List.drop (((↑p.length : Int) - (1 : Int)) / (16 : Int) * (16 : Int) - (16 : Int)).toNat p)].flatten.length (List.drop (0 : Nat) [List.take (((↑p.length : Int) - (1 : Int)) / (16 : Int) * (16 : Int) - (16 : Int)).toNat p, List.drop (((↑p.length : Int) - (1 : Int)) / (16 : Int) * (16 : Int) - (16 : Int) + (16 : Int)).toNat p, nil8, List.take ((((↑p.length : Int) - (1 : Int)) / (16 : Int) * (16 : Int) - (16 : Int) + (16 : Int)).toNat - (((↑p.length : Int) - (1 : Int)) / (16 : Int) * (16 : Int) - (16 : Int)).toNat) (List.drop (((↑p.length : Int) - (1 : Int)) / (16 : Int) * (16 : Int) - (16 : Int)).toNat p)].flatten)).length = padN p.length ∧ unC ks iv (List.take [List.take (((↑p.length : Int) - (1 : Int)) / (16 : Int) * (16 : Int) - (16 : Int)).toNat p, List.drop (((↑p.length : Int) - (1 : Int)) / (16 : Int) * (16 : Int) - (16 : Int) + (16 : Int)).toNat p, nil8, List.take ((((↑p.length : Int) - (1 : Int)) / (16 : Int) * (16 : Int) - (16 : Int) + (16 : Int)).toNat - (((↑p.length : Int) - (1 : Int)) / (16 : Int) * (16 : Int) - (16 : Int)).toNat) (List.drop (((↑p.length : Int) - (1 : Int)) / (16 : Int) * (16 : Int) - (16 : Int)).toNat p)].flatten.length (List.drop (0 : Nat) [List.take (((↑p.length : Int) - (1 : Int)) / (16 : Int) * (16 : Int) - (16 : Int)).toNat p, List.drop (((↑p.length : Int) - (1 : Int)) / (16 : Int) * (16 : Int) - (16 : Int) + (16 : Int)).toNat p, nil8, List.take ((((↑p.length : Int) - (1 : Int)) / (16 : Int) * (16 : Int) - (16 : Int) + (16 : Int)).toNat - (((↑p.length : Int) - (1 : Int)) / (16 : Int) * (16 : Int) - (16 : Int)).toNat) (List.drop (((↑p.length : Int) - (1 : Int)) / (16 : Int) * (16 : Int) - (16 : Int)).toNat p)].flatten)) ((List.take [List.take (((↑p.length : Int) - (1 : Int)) / (16 : Int) * (16 : Int) - (16 : Int)).toNat p, List.drop (((↑p.length : Int) - (1 : Int)) / (16 : Int) * (16 : Int) - (16 : Int) + (16 : Int)).toNat p, nil8, List.take ((((↑p.length : Int) - (1 : Int)) / (16 : Int) * (16 : Int) - (16 : Int) + (16 : Int)).toNat - (((↑p.length : Int) - (1 : Int)) / (16 : Int) * (16 : Int) - (16 : Int)).toNat) (List.drop (((↑p.length : Int) - (1 : Int)) / (16 : Int) * (16 : Int) - (16 : Int)).toNat p)].flatten.length (List.drop (0 : Nat) [List.take (((↑p.length : Int) - (1 : Int)) / (16 : Int) * (16 : Int) - (16 : Int)).toNat p, List.drop (((↑p.length : Int) - (1 : Int)) / (16 : Int) * (16 : Int) - (16 : Int) + (16 : Int)).toNat p, nil8, List.take ((((↑p.length : Int) - (1 : Int)) / (16 : Int) * (16 : Int) - (16 : Int) + (16 : Int)).toNat - (((↑p.length : Int) - (1 : Int)) / (16 : Int) * (16 : Int) - (16 : Int)).toNat) (List.drop (((↑p.length : Int) - (1 : Int)) / (16 : Int) * (16 : Int) - (16 : Int)).toNat p)].flatten)).length / (16 : Nat)) = decF ks iv p) ∧ True))) := by kernel_rfl
theorem vc_cts_mode_decrypt_0 (f g ks iv p : List (BitVec 8)) (n m vn vm : Nat) (hp : f = sbox ∧ g = ibox ∧ n = 11 ∧ m = 176 ∧ vn = 16 ∧ vm = 16 ∧ iv.length = 16 ∧ 16 ≤ p.length ∧ p.length ≤ 131072) : (wpFn E_cts_mode_decrypt 4000 (.mk [] []) (f35.body.getD .skip) f35.ntmps f35.results.toList [.agg [.one (.ip [.b8s 256 f, .b8s 256 g, .one (.sl 16 n (.b8s m ks))] 0), .one (.sl 1 vn (.b8s vm iv))], .sl 1 p.length (.b8s p.length p)] [] ⟨.osub 0 1 0 p.length, [], [[.b8s (padN p.length) (decF ks iv p), .spare]]⟩).Holds := by
  refine holdsI (ob_cts_mode_decrypt_0 f g ks iv p n m vn vm hp) ?_
  refine bsplit_dec (fun h0 => ⟨⟨?_, ?_, (by omega), (by omega), (by omega), (by omega), (by omega), (by omega), (by omega)⟩, ⟨rfl, rfl⟩, ⟨?_, ?_⟩, trivial⟩) (fun h1 => ⟨?a0, ⟨(by omega), (by omega), (by decide)⟩, ?a1, ?a2, ?a3, ?a4, ⟨(by omega), (by omega)⟩, ⟨(by omega), (by omega)⟩, ⟨(by omega), (by omega)⟩, ?a5, ⟨(by omega), (by omega)⟩, ⟨(by omega), (by omega)⟩, bsplit_dec (fun h2 => ⟨⟨rfl, ?_⟩, ⟨(by omega), (by omega)⟩, ⟨(by omega), ?_⟩, rfl, ⟨?_, ?_⟩, (by omega), ⟨?_, ?_, (by omega), (by omega), (by omega), (by omega), (by omega), ?_, ?_⟩, ⟨(by omega), ?_⟩, ⟨(by omega), (by omega)⟩, ⟨(by decide), (by omega)⟩, ⟨?_, ?_⟩, trivial⟩) (fun h3 => ⟨⟨(by omega), (by omega)⟩, ⟨(by omega), ?_⟩, rfl, ⟨?_, ?_⟩, (by omega), ⟨?_, ?_, (by omega), (by omega), (by omega), (by omega), (by omega), ?_, ?_⟩, ⟨(by omega), ?_⟩, ⟨(by omega), (by omega)⟩, ⟨(by decide), (by omega)⟩, ⟨?_, ?_⟩, trivial⟩)⟩)
  case a0 | a1 | a2 | a3 | a4 | a5 => (simp only [inI64]; omega)
  · exact hp.1
  · exact hp.2.1
  · obtain ⟨rfl, rfl, rfl, rfl, rfl, rfl, hv, h16, hb⟩ := hp
    have hpl := padN_le p.length
    by_cases hn : p.length = 16
    · first
        | exact absurd (show (p.length : Int) = 16 by omega) (by assumption)
        | (rw [hn, padN_16])
        | exact (decF_16 _ _ _ hn).symm
        | (rw [decF_16 _ _ _ hn])
        | omega
    · have h32 := padN_big _ h16 hn
      have e1 := DA1 h16 hn
      have e2 := DA2 h16 hn
      have e3 := DA3 h32
      have hf := fin_len p h32
      have hm := padN_mod p.length
      try simp only [e1, e2, e3, tk_all, Int.toNat_natCast, dc_flat] at *
      first
        | done
        | rfl
        | omega
        | exact absurd hf (by assumption)
        | (show 4 ≤ 4294967296; decide)
        | (rw [decI_len _ _ _ hf]; omega)
        | (rw [decI_len _ _ _ hf])
        | (rw [decC_len _ _ h32]; omega)
        | (rw [decC_len _ _ h32, decF_n _ _ _ hn])
        | (rw [decC_len _ _ h32])
  · obtain ⟨rfl, rfl, rfl, rfl, rfl, rfl, hv, h16, hb⟩ := hp
    have hpl := padN_le p.length
    by_cases hn : p.length = 16
    · first
        | exact absurd (show (p.length : Int) = 16 by omega) (by assumption)
        | (rw [hn, padN_16])
        | exact (decF_16 _ _ _ hn).symm
        | (rw [decF_16 _ _ _ hn])
        | omega
    · have h32 := padN_big _ h16 hn
      have e1 := DA1 h16 hn
      have e2 := DA2 h16 hn
      have e3 := DA3 h32
      have hf := fin_len p h32
      have hm := padN_mod p.length
      try simp only [e1, e2, e3, tk_all, Int.toNat_natCast, dc_flat] at *
      first
        | done
        | rfl
        | omega
        | exact absurd hf (by assumption)
        | (show 4 ≤ 4294967296; decide)
        | (rw [decI_len _ _ _ hf]; omega)
        | (rw [decI_len _ _ _ hf])
        | (rw [decC_len _ _ h32]; omega)
        | (rw [decC_len _ _ h32, decF_n _ _ _ hn])
        | (rw [decC_len _ _ h32])
  · obtain ⟨rfl, rfl, rfl, rfl, rfl, rfl, hv, h16, hb⟩ := hp
    have hpl := padN_le p.length
    by_cases hn : p.length = 16
    · first
        | exact absurd (show (p.length : Int) = 16 by omega) (by assumption)
        | (rw [hn, padN_16])
        | exact (decF_16 _ _ _ hn).symm
        | (rw [decF_16 _ _ _ hn])
        | omega
    · have h32 := padN_big _ h16 hn
      have e1 := DA1 h16 hn
      have e2 := DA2 h16 hn
      have e3 := DA3 h32
      have hf := fin_len p h32
      have hm := padN_mod p.length
      try simp only [e1, e2, e3, tk_all, Int.toNat_natCast, dc_flat] at *
      first
        | done
        | rfl
        | omega
        | exact absurd hf (by assumption)
        | (show 4 ≤ 4294967296; decide)
        | (rw [decI_len _ _ _ hf]; omega)
        | (rw [decI_len _ _ _ hf])
        | (rw [decC_len _ _ h32]; omega)
        | (rw [decC_len _ _ h32, decF_n _ _ _ hn])
        | (rw [decC_len _ _ h32])
  · obtain ⟨rfl, rfl, rfl, rfl, rfl, rfl, hv, h16, hb⟩ := hp
    have hpl := padN_le p.length
    by_cases hn : p.length = 16
    · first
        | exact absurd (show (p.length : Int) = 16 by omega) (by assumption)
        | (rw [hn, padN_16])
        | exact (decF_16 _ _ _ hn).symm
        | (rw [decF_16 _ _ _ hn])
        | omega
    · have h32 := padN_big _ h16 hn
      have e1 := DA1 h16 hn
      have e2 := DA2 h16 hn
      have e3 := DA3 h32
      have hf := fin_len p h32
      have hm := padN_mod p.length
      try simp only [e1, e2, e3, tk_all, Int.toNat_natCast, dc_flat] at *
      first
        | done
        | rfl
        | omega
        | exact absurd hf (by assumption)
        | (show 4 ≤ 4294967296; decide)
        | (rw [decI_len _ _ _ hf]; omega)
        | (rw [decI_len _ _ _ hf])
        | (rw [decC_len _ _ h32]; omega)
        | (rw [decC_len _ _ h32, decF_n _ _ _ hn])
        | (rw [decC_len _ _ h32])
  · obtain ⟨rfl, rfl, rfl, rfl, rfl, rfl, hv, h16, hb⟩ := hp
    have hpl := padN_le p.length
    by_cases hn : p.length = 16
    · first
        | exact absurd (show (p.length : Int) = 16 by omega) (by assumption)
        | (rw [hn, padN_16])
        | exact (decF_16 _ _ _ hn).symm
        | (rw [decF_16 _ _ _ hn])
        | omega
    · have h32 := padN_big _ h16 hn
      have e1 := DA1 h16 hn
      have e2 := DA2 h16 hn
      have e3 := DA3 h32
      have hf := fin_len p h32
      have hm := padN_mod p.length
      try simp only [e1, e2, e3, tk_all, Int.toNat_natCast, dc_flat] at *
      first
        | done
        | rfl
        | omega
        | exact absurd hf (by assumption)
        | (show 4 ≤ 4294967296; decide)
        | (rw [decI_len _ _ _ hf]; omega)
        | (rw [decI_len _ _ _ hf])
        | (rw [decC_len _ _ h32]; omega)
        | (rw [decC_len _ _ h32, decF_n _ _ _ hn])
        | (rw [decC_len _ _ h32])
  · obtain ⟨rfl, rfl, rfl, rfl, rfl, rfl, hv, h16, hb⟩ := hp
    have hpl := padN_le p.length
    by_cases hn : p.length = 16
    · first
        | exact absurd (show (p.length : Int) = 16 by omega) (by assumption)
        | (rw [hn, padN_16])
        | exact (decF_16 _ _ _ hn).symm
        | (rw [decF_16 _ _ _ hn])
        | omega
    · have h32 := padN_big _ h16 hn
      have e1 := DA1 h16 hn
      have e2 := DA2 h16 hn
      have e3 := DA3 h32
      have hf := fin_len p h32
      have hm := padN_mod p.length
      try simp only [e1, e2, e3, tk_all, Int.toNat_natCast, dc_flat] at *
      first
        | done
        | rfl
        | omega
        | exact absurd hf (by assumption)
        | (show 4 ≤ 4294967296; decide)
        | (rw [decI_len _ _ _ hf]; omega)
        | (rw [decI_len _ _ _ hf])
        | (rw [decC_len _ _ h32]; omega)
        | (rw [decC_len _ _ h32, decF_n _ _ _ hn])
        | (rw [decC_len _ _ h32])
  · exact hp.1
  · exact hp.2.1
  · obtain ⟨rfl, rfl, rfl, rfl, rfl, rfl, hv, h16, hb⟩ := hp
    have hpl := padN_le p.length
    by_cases hn : p.length = 16
    · first
        | exact absurd (show (p.length : Int) = 16 by omega) (by assumption)
        | (rw [hn, padN_16])
        | exact (decF_16 _ _ _ hn).symm
        | (rw [decF_16 _ _ _ hn])
        | omega
    · have h32 := padN_big _ h16 hn
      have e1 := DA1 h16 hn
      have e2 := DA2 h16 hn
      have e3 := DA3 h32
      have hf := fin_len p h32
      have hm := padN_mod p.length
      try simp only [e1, e2, e3, tk_all, Int.toNat_natCast, dc_flat] at *
      first
        | done
        | rfl
        | omega
        | exact absurd hf (by assumption)
        | (show 4 ≤ 4294967296; decide)
        | (rw [decI_len _ _ _ hf]; omega)
        | (rw [decI_len _ _ _ hf])
        | (rw [decC_len _ _ h32]; omega)
        | (rw [decC_len _ _ h32, decF_n _ _ _ hn])
        | (rw [decC_len _ _ h32])
  · obtain ⟨rfl, rfl, rfl, rfl, rfl, rfl, hv, h16, hb⟩ := hp
    have hpl := padN_le p.length
    by_cases hn : p.length = 16
    · first
        | exact absurd (show (p.length : Int) = 16 by omega) (by assumption)
        | (rw [hn, padN_16])
        | exact (decF_16 _ _ _ hn).symm
        | (rw [decF_16 _ _ _ hn])
        | omega
    · have h32 := padN_big _ h16 hn
      have e1 := DA1 h16 hn
      have e2 := DA2 h16 hn
      have e3 := DA3 h32
      have hf := fin_len p h32
      have hm := padN_mod p.length
      try simp only [e1, e2, e3, tk_all, Int.toNat_natCast, dc_flat] at *
      first
        | done
        | rfl
        | omega
        | exact absurd hf (by assumption)
        | (show 4 ≤ 4294967296; decide)
        | (rw [decI_len _ _ _ hf]; omega)
        | (rw [decI_len _ _ _ hf])
        | (rw [decC_len _ _ h32]; omega)
        | (rw [decC_len _ _ h32, decF_n _ _ _ hn])
        | (rw [decC_len _ _ h32])
  · obtain ⟨rfl, rfl, rfl, rfl, rfl, rfl, hv, h16, hb⟩ := hp
    have hpl := padN_le p.length
    by_cases hn : p.length = 16
    · first
        | exact absurd (show (p.length : Int) = 16 by omega) (by assumption)
        | (rw [hn, padN_16])
        | exact (decF_16 _ _ _ hn).symm
        | (rw [decF_16 _ _ _ hn])
        | omega
    · have h32 := padN_big _ h16 hn
      have e1 := DA1 h16 hn
      have e2 := DA2 h16 hn
      have e3 := DA3 h32
      have hf := fin_len p h32
      have hm := padN_mod p.length
      try simp only [e1, e2, e3, tk_all, Int.toNat_natCast, dc_flat] at *
      first
        | done
        | rfl
        | omega
        | exact absurd hf (by assumption)
        | (show 4 ≤ 4294967296; decide)
        | (rw [decI_len _ _ _ hf]; omega)
        | (rw [decI_len _ _ _ hf])
        | (rw [decC_len _ _ h32]; omega)
        | (rw [decC_len _ _ h32, decF_n _ _ _ hn])
        | (rw [decC_len _ _ h32])
  · obtain ⟨rfl, rfl, rfl, rfl, rfl, rfl, hv, h16, hb⟩ := hp
    have hpl := padN_le p.length
    by_cases hn : p.length = 16
    · first
        | exact absurd (show (p.length : Int) = 16 by omega) (by assumption)
        | (rw [hn, padN_16])
        | exact (decF_16 _ _ _ hn).symm
        | (rw [decF_16 _ _ _ hn])
        | omega
    · have h32 := padN_big _ h16 hn
      have e1 := DA1 h16 hn
      have e2 := DA2 h16 hn
      have e3 := DA3 h32
      have hf := fin_len p h32
      have hm := padN_mod p.length
      try simp only [e1, e2, e3, tk_all, Int.toNat_natCast, dc_flat] at *
      first
        | done
        | rfl
        | omega
        | exact absurd hf (by assumption)
        | (show 4 ≤ 4294967296; decide)
        | (rw [decI_len _ _ _ hf]; omega)
        | (rw [decI_len _ _ _ hf])
        | (rw [decC_len _ _ h32]; omega)
        | (rw [decC_len _ _ h32, decF_n _ _ _ hn])
        | (rw [decC_len _ _ h32])
  · obtain ⟨rfl, rfl, rfl, rfl, rfl, rfl, hv, h16, hb⟩ := hp
    have hpl := padN_le p.length
    by_cases hn : p.length = 16
    · first
        | exact absurd (show (p.length : Int) = 16 by omega) (by assumption)
        | (rw [hn, padN_16])
        | exact (decF_16 _ _ _ hn).symm
        | (rw [decF_16 _ _ _ hn])
        | omega
    · have h32 := padN_big _ h16 hn
      have e1 := DA1 h16 hn
      have e2 := DA2 h16 hn
      have e3 := DA3 h32
      have hf := fin_len p h32
      have hm := padN_mod p.length
      try simp only [e1, e2, e3, tk_all, Int.toNat_natCast, dc_flat] at *
      first
        | done
        | rfl
        | omega
        | exact absurd hf (by assumption)
        | (show 4 ≤ 4294967296; decide)
        | (rw [decI_len _ _ _ hf]; omega)
        | (rw [decI_len _ _ _ hf])
        | (rw [decC_len _ _ h32]; omega)
        | (rw [decC_len _ _ h32, decF_n _ _ _ hn])
        | (rw [decC_len _ _ h32])
  · obtain ⟨rfl, rfl, rfl, rfl, rfl, rfl, hv, h16, hb⟩ := hp
    have hpl := padN_le p.length
    by_cases hn : p.length = 16
    · first
        | exact absurd (show (p.length : Int) = 16 by omega) (by assumption)
        | (rw [hn, padN_16])
        | exact (decF_16 _ _ _ hn).symm
        | (rw [decF_16 _ _ _ hn])
        | omega
    · have h32 := padN_big _ h16 hn
      have e1 := DA1 h16 hn
      have e2 := DA2 h16 hn
      have e3 := DA3 h32
      have hf := fin_len p h32
      have hm := padN_mod p.length
      try simp only [e1, e2, e3, tk_all, Int.toNat_natCast, dc_flat] at *
      first
        | done
        | rfl
        | omega
        | exact absurd hf (by assumption)
        | (show 4 ≤ 4294967296; decide)
        | (rw [decI_len _ _ _ hf]; omega)
        | (rw [decI_len _ _ _ hf])
        | (rw [decC_len _ _ h32]; omega)
        | (rw [decC_len _ _ h32, decF_n _ _ _ hn])
        | (rw [decC_len _ _ h32])
  · obtain ⟨rfl, rfl, rfl, rfl, rfl, rfl, hv, h16, hb⟩ := hp
    have hpl := padN_le p.length
    by_cases hn : p.length = 16
    · first
        | exact absurd (show (p.length : Int) = 16 by omega) (by assumption)
        | (rw [hn, padN_16])
        | exact (decF_16 _ _ _ hn).symm
        | (rw [decF_16 _ _ _ hn])
        | omega
    · have h32 := padN_big _ h16 hn
      have e1 := DA1 h16 hn
      have e2 := DA2 h16 hn
      have e3 := DA3 h32
      have hf := fin_len p h32
      have hm := padN_mod p.length
      try simp only [e1, e2, e3, tk_all, Int.toNat_natCast, dc_flat] at *
      first
        | done
        | rfl
        | omega
        | exact absurd hf (by assumption)
        | (show 4 ≤ 4294967296; decide)
        | (rw [decI_len _ _ _ hf]; omega)
        | (rw [decI_len _ _ _ hf])
        | (rw [decC_len _ _ h32]; omega)
        | (rw [decC_len _ _ h32, decF_n _ _ _ hn])
        | (rw [decC_len _ _ h32])
  · obtain ⟨rfl, rfl, rfl, rfl, rfl, rfl, hv, h16, hb⟩ := hp
    have hpl := padN_le p.length
    by_cases hn : p.length = 16
    · first
        | exact absurd (show (p.length : Int) = 16 by omega) (by assumption)
        | (rw [hn, padN_16])
        | exact (decF_16 _ _ _ hn).symm
        | (rw [decF_16 _ _ _ hn])
        | omega
    · have h32 := padN_big _ h16 hn
      have e1 := DA1 h16 hn
      have e2 := DA2 h16 hn
      have e3 := DA3 h32
      have hf := fin_len p h32
      have hm := padN_mod p.length
      try simp only [e1, e2, e3, tk_all, Int.toNat_natCast, dc_flat] at *
      first
        | done
        | rfl
        | omega
        | exact absurd hf (by assumption)
        | (show 4 ≤ 4294967296; decide)
        | (rw [decI_len _ _ _ hf]; omega)
        | (rw [decI_len _ _ _ hf])
        | (rw [decC_len _ _ h32]; omega)
        | (rw [decC_len _ _ h32, decF_n _ _ _ hn])
        | (rw [decC_len _ _ h32])
  · exact hp.1
  · exact hp.2.1
  · obtain ⟨rfl, rfl, rfl, rfl, rfl, rfl, hv, h16, hb⟩ := hp
    have hpl := padN_le p.length
    by_cases hn : p.length = 16
    · first
        | exact absurd (show (p.length : Int) = 16 by omega) (by assumption)
        | (rw [hn, padN_16])
        | exact (decF_16 _ _ _ hn).symm
        | (rw [decF_16 _ _ _ hn])
        | omega
    · have h32 := padN_big _ h16 hn
      have e1 := DA1 h16 hn
      have e2 := DA2 h16 hn
      have e3 := DA3 h32
      have hf := fin_len p h32
      have hm := padN_mod p.length
      try simp only [e1, e2, e3, tk_all, Int.toNat_natCast, dc_flat] at *
      first
        | done
        | rfl
        | omega
        | exact absurd hf (by assumption)
        | (show 4 ≤ 4294967296; decide)
        | (rw [decI_len _ _ _ hf]; omega)
        | (rw [decI_len _ _ _ hf])
        | (rw [decC_len _ _ h32]; omega)
        | (rw [decC_len _ _ h32, decF_n _ _ _ hn])
        | (rw [decC_len _ _ h32])
  · obtain ⟨rfl, rfl, rfl, rfl, rfl, rfl, hv, h16, hb⟩ := hp
    have hpl := padN_le p.length
    by_cases hn : p.length = 16
    · first
        | exact absurd (show (p.length : Int) = 16 by omega) (by assumption)
        | (rw [hn, padN_16])
        | exact (decF_16 _ _ _ hn).symm
        | (rw [decF_16 _ _ _ hn])
        | omega
    · have h32 := padN_big _ h16 hn
      have e1 := DA1 h16 hn
      have e2 := DA2 h16 hn
      have e3 := DA3 h32
      have hf := fin_len p h32
      have hm := padN_mod p.length
      try simp only [e1, e2, e3, tk_all, Int.toNat_natCast, dc_flat] at *
      first
        | done
        | rfl
        | omega
        | exact absurd hf (by assumption)
        | (show 4 ≤ 4294967296; decide)
        | (rw [decI_len _ _ _ hf]; omega)
        | (rw [decI_len _ _ _ hf])
        | (rw [decC_len _ _ h32]; omega)
        | (rw [decC_len _ _ h32, decF_n _ _ _ hn])
        | (rw [decC_len _ _ h32])
  · obtain ⟨rfl, rfl, rfl, rfl, rfl, rfl, hv, h16, hb⟩ := hp
    have hpl := padN_le p.length
    by_cases hn : p.length = 16
    · first
        | exact absurd (show (p.length : Int) = 16 by omega) (by assumption)
        | (rw [hn, padN_16])
        | exact (decF_16 _ _ _ hn).symm
        | (rw [decF_16 _ _ _ hn])
        | omega
    · have h32 := padN_big _ h16 hn
      have e1 := DA1 h16 hn
      have e2 := DA2 h16 hn
      have e3 := DA3 h32
      have hf := fin_len p h32
      have hm := padN_mod p.length
      try simp only [e1, e2, e3, tk_all, Int.toNat_natCast, dc_flat] at *
      first
        | done
        | rfl
        | omega
        | exact absurd hf (by assumption)
        | (show 4 ≤ 4294967296; decide)
        | (rw [decI_len _ _ _ hf]; omega)
        | (rw [decI_len _ _ _ hf])
        | (rw [decC_len _ _ h32]; omega)
        | (rw [decC_len _ _ h32, decF_n _ _ _ hn])
        | (rw [decC_len _ _ h32])
  · obtain ⟨rfl, rfl, rfl, rfl, rfl, rfl, hv, h16, hb⟩ := hp
    have hpl := padN_le p.length
    by_cases hn : p.length = 16
    · first
        | exact absurd (show (p.length : Int) = 16 by omega) (by assumption)
        | (rw [hn, padN_16])
        | exact (decF_16 _ _ _ hn).symm
        | (rw [decF_16 _ _ _ hn])
        | omega
    · have h32 := padN_big _ h16 hn
      have e1 := DA1 h16 hn
      have e2 := DA2 h16 hn
      have e3 := DA3 h32
      have hf := fin_len p h32
      have hm := padN_mod p.length
      try simp only [e1, e2, e3, tk_all, Int.toNat_natCast, dc_flat] at *
      first
        | done
        | rfl
        | omega
        | exact absurd hf (by assumption)
        | (show 4 ≤ 4294967296; decide)
        | (rw [decI_len _ _ _ hf]; omega)
        | (rw [decI_len _ _ _ hf])
        | (rw [decC_len _ _ h32]; omega)
        | (rw [decC_len _ _ h32, decF_n _ _ _ hn])
        | (rw [decC_len _ _ h32])
  · obtain ⟨rfl, rfl, rfl, rfl, rfl, rfl, hv, h16, hb⟩ := hp
    have hpl := padN_le p.length
    by_cases hn : p.length = 16
    · first
        | exact absurd (show (p.length : Int) = 16 by omega) (by assumption)
        | (rw [hn, padN_16])
        | exact (decF_16 _ _ _ hn).symm
        | (rw [decF_16 _ _ _ hn])
        | omega
    · have h32 := padN_big _ h16 hn
      have e1 := DA1 h16 hn
      have e2 := DA2 h16 hn
      have e3 := DA3 h32
      have hf := fin_len p h32
      have hm := padN_mod p.length
      try simp only [e1, e2, e3, tk_all, Int.toNat_natCast, dc_flat] at *
      first
        | done
        | rfl
        | omega
        | exact absurd hf (by assumption)
        | (show 4 ≤ 4294967296; decide)
        | (rw [decI_len _ _ _ hf]; omega)
        | (rw [decI_len _ _ _ hf])
        | (rw [decC_len _ _ h32]; omega)
        | (rw [decC_len _ _ h32, decF_n _ _ _ hn])
        | (rw [decC_len _ _ h32])
noncomputable def post_cts_mode_decrypt : List SV → List (List Seg) → FPost := fun L H => match L, H with
  | [.agg [.one (.ip [.b8s 256 f, .b8s 256 g, .one (.sl 16 n (.b8s m ks))] 0), .one (.sl 1 vn (.b8s vm iv))], .sl 1 p_n (.b8s p_m p)], [] => .vc (f = sbox ∧ g = ibox ∧ n = 11 ∧ m = 176 ∧ vn = 16 ∧ vm = 16 ∧ iv.length = 16 ∧ 16 ≤ p.length ∧ p.length ≤ 131072) (.ret ⟨.osub 0 1 0 p.length, [], [[.b8s (padN p.length) (decF ks iv p), .spare]]⟩)
  | _, _ => .fail
noncomputable def S_cts_mode_decrypt : SE.Spec := specOf false [.gen, .bytes] post_cts_mode_decrypt
theorem cok_cts_mode_decrypt : CallOK prog Gl_cts_mode_decrypt 35 S_cts_mode_decrypt := by
  refine callOK_ofI (E := E_cts_mode_decrypt) (code := f35.body.getD .skip) E_cts_mode_decrypt_ok func35 (by kernel_rfl) (by kernel_rfl) fun L H out ht hp => ?_
  have hl := ht.lens
  clear ht
  unfold post_cts_mode_decrypt at hp
  split at hp
  · rename_i f g n m ks vn vm iv p_n p_m p
    have hm_p := hl.1.2.1.1
    have hn_p := hl.1.2.1.2
    obtain rfl : p_m = p.length := hm_p.symm
    obtain rfl : p_n = p.length := hn_p
    obtain ⟨hpre, hp⟩ := hp
    obtain rfl := hp
    exact ⟨_, _, vc_cts_mode_decrypt_0 f g ks iv p n m vn vm hpre⟩
  · exact hp.elim
end Go.Proofs.Try
/-! cts_checked__dec -/
namespace Go.Proofs.Try
open Go Go.SE
set_option maxRecDepth 100000
set_option maxHeartbeats 400000
set_option linter.unusedVariables false
attribute [local irreducible] mvI subI addIt mxC mxR mxK encI decI ksI nextK nk1 nk2 tm rl8 sbox ibox addB keyAt rsC rsR ruC ruR ivI encB decB shB subB unshB mixB unmixB rnd unrnd wI wK wJ lastJ lastW incB blkC lastC chC catC16 lastD unC ctsPad exch encF decC decF padN
noncomputable def Gl_cts_checked__dec : List (Nat × SV) := []
noncomputable def E_cts_checked__dec : Env := ⟨T, [(29, S_cts_open), (35, S_cts_mode_decrypt)], Gl_cts_checked__dec, []⟩
theorem E_cts_checked__dec_ok : EnvOK prog E_cts_checked__dec := ⟨T_ok, (.cons cok_cts_open (.cons cok_cts_mode_decrypt .nil)), mix_ok, FBOK.nil⟩
theorem ob_cts_checked__dec_0t (key iv p : List (BitVec 8)) (hp : iv.length ≤ 200) (hs0 : (!decide (key.length = 16 ∧ iv.length = 16)) = true) : (wpFn E_cts_checked__dec 4000 (.mk [] []) (f33.body.getD .skip) f33.ntmps f33.results.toList [.sl 1 key.length (.b8s key.length key), .sl 1 iv.length (.b8s iv.length iv), .sl 1 p.length (.b8s p.length p), .fn 35 [] []] [] ⟨.tup [.nils, .int 2], [], []⟩).holds = (iv.length ≤ (200 : Nat) ∧ bsplit (decide (key.length = (16 : Nat))) (bsplit (!decide ((if iv.length = (16 : Nat) then (0 : Int) else (2 : Int)) = (0 : Int))) ((if iv.length = (16 : Nat) then (0 : Int) else (2 : Int)) = (2 : Int) ∧ True) (bsplit (decide ((↑p.length : Int) < (16 : Int))) ((4 : Int) = (2 : Int) ∧ True) (bsplit (decide ((131072 : Int) < (↑p.length : Int))) ((5 : Int) = (2 : Int) ∧ True) ((176 : Nat) = (11 : Nat) * (16 : Nat) ∧ (sbox = sbox ∧ ibox = ibox ∧ (11 : Nat) = (11 : Nat) ∧ (176 : Nat) = (176 : Nat) ∧ iv.length = (16 : Nat) ∧ iv.length = (16 : Nat) ∧ iv.length = (16 : Nat) ∧ (16 : Nat) ≤ p.length ∧ p.length ≤ (131072 : Nat)) ∧ False)))) ((2 : Int) = (2 : Int) ∧ True)) := by kernel_rfl
theorem vc_cts_checked__dec_0t (key iv p : List (BitVec 8)) (hp : iv.length ≤ 200) (hs0 : (!decide (key.length = 16 ∧ iv.length = 16)) = true) : (wpFn E_cts_checked__dec 4000 (.mk [] []) (f33.body.getD .skip) f33.ntmps f33.results.toList [.sl 1 key.length (.b8s key.length key), .sl 1 iv.length (.b8s iv.length iv), .sl 1 p.length (.b8s p.length p), .fn 35 [] []] [] ⟨.tup [.nils, .int 2], [], []⟩).Holds := by
  refine holdsI (ob_cts_checked__dec_0t key iv p hp hs0) ?_
  refine ⟨(by omega), bsplit_dec (fun h0 => bsplit_not (fun h1 => ⟨(by omega), trivial⟩) (fun h2 => (by exfalso; (simp at *; omega)))) (fun h3 => ⟨rfl, trivial⟩)⟩
theorem ob_cts_checked__dec_0f (key iv p : List (BitVec 8)) (hp : iv.length ≤ 200) (hs0 : (!decide (key.length = 16 ∧ iv.length = 16)) = false) (hs1 : (decide (p.length < 16)) = true) : (wpFn E_cts_checked__dec 4000 (.mk [] []) (f33.body.getD .skip) f33.ntmps f33.results.toList [.sl 1 key.length (.b8s key.length key), .sl 1 iv.length (.b8s iv.length iv), .sl 1 p.length (.b8s p.length p), .fn 35 [] []] [] ⟨.tup [.nils, .int 4], [], []⟩).holds = (iv.length ≤ (200 : Nat) ∧ bsplit (decide (key.length = (16 : Nat))) (bsplit (!decide ((if iv.length = (16 : Nat) then (0 : Int) else (2 : Int)) = (0 : Int))) ((if iv.length = (16 : Nat) then (0 : Int) else (2 : Int)) = (4 : Int) ∧ True) (bsplit (decide ((↑p.length : Int) < (16 : Int))) ((4 : Int) = (4 : Int) ∧ True) (bsplit (decide ((131072 : Int) < (↑p.length : Int))) ((5 : Int) = (4 : Int) ∧ True) ((176 : Nat) = (11 : Nat) * (16 : Nat) ∧ (sbox = sbox ∧ ibox = ibox ∧ (11 : Nat) = (11 : Nat) ∧ (176 : Nat) = (176 : Nat) ∧ iv.length = (16 : Nat) ∧ iv.length = (16 : Nat) ∧ iv.length = (16 : Nat) ∧ (16 : Nat) ≤ p.length ∧ p.length ≤ (131072 : Nat)) ∧ False)))) ((2 : Int) = (4 : Int) ∧ True)) := by kernel_rfl
theorem vc_cts_checked__dec_0f (key iv p : List (BitVec 8)) (hp : iv.length ≤ 200) (hs0 : (!decide (key.length = 16 ∧ iv.length = 16)) = false) (hs1 : (decide (p.length < 16)) = true) : (wpFn E_cts_checked__dec 4000 (.mk [] []) (f33.body.getD .skip) f33.ntmps f33.results.toList [.sl 1 key.length (.b8s key.length key), .sl 1 iv.length (.b8s iv.length iv), .sl 1 p.length (.b8s p.length p), .fn 35 [] []] [] ⟨.tup [.nils, .int 4], [], []⟩).Holds := by
  refine holdsI (ob_cts_checked__dec_0f key iv p hp hs0 hs1) ?_
  refine ⟨(by omega), bsplit_dec (fun h0 => bsplit_not (fun h1 => ⟨?a0, trivial⟩) (fun h2 => bsplit_dec (fun h3 => ⟨rfl, trivial⟩) (fun h4 => (by exfalso; (simp at *; omega))))) (fun h5 => ⟨?a1, trivial⟩)⟩
  case a0 | a1 => (simp at *; omega)
theorem ob_cts_checked__dec_0g (key iv p : List (BitVec 8)) (hp : iv.length ≤ 200) (hs0 : (!decide (key.length = 16 ∧ iv.length = 16)) = false) (hs1 : (decide (p.length < 16)) = false) (hs2 : (decide (131072 < p.length)) = true) : (wpFn E_cts_checked__dec 4000 (.mk [] []) (f33.body.getD .skip) f33.ntmps f33.results.toList [.sl 1 key.length (.b8s key.length key), .sl 1 iv.length (.b8s iv.length iv), .sl 1 p.length (.b8s p.length p), .fn 35 [] []] [] ⟨.tup [.nils, .int 5], [], []⟩).holds = (iv.length ≤ (200 : Nat) ∧ bsplit (decide (key.length = (16 : Nat))) (bsplit (!decide ((if iv.length = (16 : Nat) then (0 : Int) else (2 : Int)) = (0 : Int))) ((if iv.length = (16 : Nat) then (0 : Int) else (2 : Int)) = (5 : Int) ∧ True) (bsplit (decide ((↑p.length : Int) < (16 : Int))) ((4 : Int) = (5 : Int) ∧ True) (bsplit (decide ((131072 : Int) < (↑p.length : Int))) ((5 : Int) = (5 : Int) ∧ True) ((176 : Nat) = (11 : Nat) * (16 : Nat) ∧ (sbox = sbox ∧ ibox = ibox ∧ (11 : Nat) = (11 : Nat) ∧ (176 : Nat) = (176 : Nat) ∧ iv.length = (16 : Nat) ∧ iv.length = (16 : Nat) ∧ iv.length = (16 : Nat) ∧ (16 : Nat) ≤ p.length ∧ p.length ≤ (131072 : Nat)) ∧ False)))) ((2 : Int) = (5 : Int) ∧ True)) := by kernel_rfl
theorem vc_cts_checked__dec_0g (key iv p : List (BitVec 8)) (hp : iv.length ≤ 200) (hs0 : (!decide (key.length = 16 ∧ iv.length = 16)) = false) (hs1 : (decide (p.length < 16)) = false) (hs2 : (decide (131072 < p.length)) = true) : (wpFn E_cts_checked__dec 4000 (.mk [] []) (f33.body.getD .skip) f33.ntmps f33.results.toList [.sl 1 key.length (.b8s key.length key), .sl 1 iv.length (.b8s iv.length iv), .sl 1 p.length (.b8s p.length p), .fn 35 [] []] [] ⟨.tup [.nils, .int 5], [], []⟩).Holds := by
  refine holdsI (ob_cts_checked__dec_0g key iv p hp hs0 hs1 hs2) ?_
  refine ⟨(by omega), bsplit_dec (fun h0 => bsplit_not (fun h1 => ⟨?a0, trivial⟩) (fun h2 => bsplit_dec (fun h3 => ⟨?a1, trivial⟩) (fun h4 => bsplit_dec (fun h5 => ⟨rfl, trivial⟩) (fun h6 => (by exfalso; (simp at *; omega)))))) (fun h7 => ⟨?a2, trivial⟩)⟩
  case a0 | a1 | a2 => (simp at *; omega)
theorem ob_cts_checked__dec_0h (key iv p : List (BitVec 8)) (hp : iv.length ≤ 200) (hs0 : (!decide (key.length = 16 ∧ iv.length = 16)) = false) (hs1 : (decide (p.length < 16)) = false) (hs2 : (decide (131072 < p.length)) = false) : (wpFn E_cts_checked__dec 4000 (.mk [] []) (f33.body.getD .skip) f33.ntmps f33.results.toList [.sl 1 key.length (.b8s key.length key), .sl 1 iv.length (.b8s iv.length iv), .sl 1 p.length (.b8s p.length p), .fn 35 [] []] [] ⟨.tup [.osub 0 1 0 p.length, .int 0], [], [[.b8s (padN p.length) (decF (ksI sbox key 10) iv p), .spare]]⟩).holds = (iv.length ≤ (200 : Nat) ∧ bsplit (decide (key.length = (16 : Nat))) (bsplit (!decide ((if iv.length = (16 : Nat) then (0 : Int) else (2 : Int)) = (0 : Int))) (p.length = (0 : Nat) ∧ (if iv.length = (16 : Nat) then (0 : Int) else (2 : Int)) = (0 : Int) ∧ (padN p.length = (0 : Nat) ∧ decF (ksI sbox key (10 : Nat)) iv p = nil8) ∧ True) (bsplit (decide ((↑p.length : Int) < (16 : Int))) (p.length = (0 : Nat) ∧ (4 : Int) = (0 : Int) ∧ (padN p.length = (0 : Nat) ∧ decF (ksI sbox key (10 : Nat)) iv p = nil8) ∧ True) (bsplit (decide ((131072 : Int) < (↑p.length : Int))) (p.length = (0 : Nat) ∧ (5 : Int) = (0 : Int) ∧ (padN p.length = (0 : Nat) ∧ decF (ksI sbox key (10 : Nat)) iv p = nil8) ∧ True) ((176 : Nat) = (11 : Nat) * (16 : Nat) ∧ (sbox = sbox ∧ ibox = ibox ∧ (11 : Nat) = (11 : Nat) ∧ (176 : Nat) = (176 : Nat) ∧ iv.length = (16 : Nat) ∧ iv.length = (16 : Nat) ∧ iv.length = (16 : Nat) ∧ (16 : Nat) ≤ p.length ∧ p.length ≤ (131072 : Nat)) ∧ ((0 : Nat) = (0 : Nat) ∧ p.length = p.length) ∧ (0 : Int) = (0 : Int) ∧ (padN p.length = padN p.length ∧ decF (ksI sbox key (10 : Nat)) iv p = decF (ksI sbox key (10 : Nat)) iv p) ∧ True)))) (p.length = (0 : Nat) ∧ (2 : Int) = (0 : Int) ∧ (padN p.length = (0 : Nat) ∧ decF (ksI sbox key (10 : Nat)) iv p = nil8) ∧ True)) := by kernel_rfl
theorem vc_cts_checked__dec_0h (key iv p : List (BitVec 8)) (hp : iv.length ≤ 200) (hs0 : (!decide (key.length = 16 ∧ iv.length = 16)) = false) (hs1 : (decide (p.length < 16)) = false) (hs2 : (decide (131072 < p.length)) = false) : (wpFn E_cts_checked__dec 4000 (.mk [] []) (f33.body.getD .skip) f33.ntmps f33.results.toList [.sl 1 key.length (.b8s key.length key), .sl 1 iv.length (.b8s iv.length iv), .sl 1 p.length (.b8s p.length p), .fn 35 [] []] [] ⟨.tup [.osub 0 1 0 p.length, .int 0], [], [[.b8s (padN p.length) (decF (ksI sbox key 10) iv p), .spare]]⟩).Holds := by
  refine holdsI (ob_cts_checked__dec_0h key iv p hp hs0 hs1 hs2) ?_
  refine ⟨(by omega), bsplit_dec (fun h0 => bsplit_not (fun h1 => ⟨?a0, ?a1, ⟨?a2, ?a3⟩, trivial⟩) (fun h2 => bsplit_dec (fun h3 => ⟨?a4, ?a5, ⟨?a6, ?a7⟩, trivial⟩) (fun h4 => bsplit_dec (fun h5 => ⟨?a8, ?a9, ⟨?a10, ?a11⟩, trivial⟩) (fun h6 => ⟨(by decide), ⟨rfl, rfl, rfl, rfl, (by omega), (by omega), (by omega), (by omega), (by omega)⟩, ⟨rfl, rfl⟩, rfl, ⟨rfl, rfl⟩, trivial⟩)))) (fun h7 => ⟨?a12, ?a13, ⟨?a14, ?a15⟩, trivial⟩)⟩
  case a0 | a1 | a2 | a3 | a4 | a5 | a6 | a7 | a8 | a9 | a10 | a11 | a12 | a13 | a14 | a15 => (simp at *; omega)
noncomputable def post_cts_checked__dec : List SV → List (List Seg) → FPost := fun L H => match L, H with
  | [.sl 1 key_n (.b8s key_m key), .sl 1 iv_n (.b8s iv_m iv), .sl 1 p_n (.b8s p_m p), .fn 35 [] []], [] => .vc (iv.length ≤ 200) (.split (!decide (key.length = 16 ∧ iv.length = 16)) (.ret ⟨.tup [.nils, .int 2], [], []⟩) (.split (decide (p.length < 16)) (.ret ⟨.tup [.nils, .int 4], [], []⟩) (.split (decide (131072 < p.length)) (.ret ⟨.tup [.nils, .int 5], [], []⟩) (.ret ⟨.tup [.osub 0 1 0 p.length, .int 0], [], [[.b8s (padN p.length) (decF (ksI sbox key 10) iv p), .spare]]⟩))))
  | _, _ => .fail
noncomputable def S_cts_checked__dec : SE.Spec := specOf false [.bytes, .bytes, .bytes, .gen] post_cts_checked__dec
theorem cok_cts_checked__dec : CallOK prog Gl_cts_checked__dec 33 S_cts_checked__dec := by
  refine callOK_ofI (E := E_cts_checked__dec) (code := f33.body.getD .skip) E_cts_checked__dec_ok func33 (by kernel_rfl) (by kernel_rfl) fun L H out ht hp => ?_
  have hl := ht.lens
  clear ht
  unfold post_cts_checked__dec at hp
  split at hp
  · rename_i key_n key_m key iv_n iv_m iv p_n p_m p
    have hm_key := hl.1.1.1
    have hn_key := hl.1.1.2
    have hm_iv := hl.1.2.1.1
    have hn_iv := hl.1.2.1.2
    have hm_p := hl.1.2.2.1.1
    have hn_p := hl.1.2.2.1.2
    obtain rfl : key_m = key.length := hm_key.symm
    obtain rfl : key_n = key.length := hn_key
    obtain rfl : iv_m = iv.length := hm_iv.symm
    obtain rfl : iv_n = iv.length := hn_iv
    obtain rfl : p_m = p.length := hm_p.symm
    obtain rfl : p_n = p.length := hn_p
    obtain ⟨hpre, hp⟩ := hp
    rcases FPost.ok_split hp with ⟨hs0, rfl⟩ | ⟨hs0, hp⟩
    · exact ⟨_, _, vc_cts_checked__dec_0t key iv p hpre hs0⟩
    rcases FPost.ok_split hp with ⟨hs1, rfl⟩ | ⟨hs1, hp⟩
    · exact ⟨_, _, vc_cts_checked__dec_0f key iv p hpre hs0 hs1⟩
    rcases FPost.ok_split hp with ⟨hs2, rfl⟩ | ⟨hs2, hp⟩
    · exact ⟨_, _, vc_cts_checked__dec_0g key iv p hpre hs0 hs1 hs2⟩
    obtain rfl := hp
    exact ⟨_, _, vc_cts_checked__dec_0h key iv p hpre hs0 hs1 hs2⟩
  · exact hp.elim
end Go.Proofs.Try
/-! cts_Decrypt__ok -/
namespace Go.Proofs.Try
open Go Go.SE
set_option maxRecDepth 100000
set_option maxHeartbeats 400000
set_option linter.unusedVariables false
attribute [local irreducible] mvI subI addIt mxC mxR mxK encI decI ksI nextK nk1 nk2 tm rl8 sbox ibox addB keyAt rsC rsR ruC ruR ivI encB decB shB subB unshB mixB unmixB rnd unrnd wI wK wJ lastJ lastW incB blkC lastC chC catC16 lastD unC ctsPad exch encF decC decF padN
noncomputable def Gl_cts_Decrypt__ok : List (Nat × SV) := []
noncomputable def E_cts_Decrypt__ok : Env := ⟨T, [(33, S_cts_checked__dec)], Gl_cts_Decrypt__ok, []⟩
theorem E_cts_Decrypt__ok_ok : EnvOK prog E_cts_Decrypt__ok := ⟨T_ok, (.cons cok_cts_checked__dec .nil), mix_ok, FBOK.nil⟩
theorem ob_cts_Decrypt__ok_0 (key iv p : List (BitVec 8)) (hp : key.length = 16 ∧ iv.length = 16 ∧ 16 ≤ p.length ∧ p.length ≤ 131072) : (wpFn E_cts_Decrypt__ok 2000 (.mk [] []) (f17.body.getD .skip) f17.ntmps f17.results.toList [.sl 1 key.length (.b8s key.length key), .sl 1 iv.length (.b8s iv.length iv), .sl 1 p.length (.b8s p.length p)] [] ⟨.tup [.osub 0 1 0 p.length, .int 0], [], [[.b8s (padN p.length) (decF (ksI sbox key 10) iv p), .spare]]⟩).holds = (iv.length ≤ (200 : Nat) ∧ bsplit (!decide (key.length = (16 : Nat) ∧ iv.length = (16 : Nat))) (p.length = (0 : Nat) ∧ (2 : Int) = (0 : Int) ∧ (padN p.length = (0 : Nat) ∧ decF (ksI sbox key (10 : Nat)) iv p = nil8) ∧ True) (bsplit (decide (p.length < (16 : Nat))) (p.length = (0 : Nat) ∧ (4 : Int) = (0 : Int) ∧ (padN p.length = (0 : Nat) ∧ decF (ksI sbox key (10 : Nat)) iv p = nil8) ∧ True) (bsplit (decide ((131072 : Nat) < p.length)) (p.length = (0 : Nat) ∧ (5 : Int) = (0 : Int) ∧ (padN p.length = (0 : Nat) ∧ decF (ksI sbox key (10 : Nat)) iv p = nil8) ∧ True) (((0 : Nat) = (0 : Nat) ∧ p.length = p.length) ∧ (0 : Int) = (0 : Int) ∧ (padN p.length = padN p.length ∧ decF (ksI sbox key (10 : Nat)) iv p = decF (ksI sbox key (10 : Nat)) iv p) ∧ True)))) := by kernel_rfl
theorem vc_cts_Decrypt__ok_0 (key iv p : List (BitVec 8)) (hp : key.length = 16 ∧ iv.length = 16 ∧ 16 ≤ p.length ∧ p.length ≤ 131072) : (wpFn E_cts_Decrypt__ok 2000 (.mk [] []) (f17.body.getD .skip) f17.ntmps f17.results.toList [.sl 1 key.length (.b8s key.length key), .sl 1 iv.length (.b8s iv.length iv), .sl 1 p.length (.b8s p.length p)] [] ⟨.tup [.osub 0 1 0 p.length, .int 0], [], [[.b8s (padN p.length) (decF (ksI sbox key 10) iv p), .spare]]⟩).Holds := by
  refine holdsI (ob_cts_Decrypt__ok_0 key iv p hp) ?_
  refine ⟨(by omega), bsplit_not (fun h0 => (by exfalso; omega)) (fun h1 => bsplit_dec (fun h2 => (by exfalso; omega)) (fun h3 => bsplit_dec (fun h4 => (by exfalso; omega)) (fun h5 => ⟨⟨rfl, rfl⟩, rfl, ⟨rfl, rfl⟩, trivial⟩)))⟩
noncomputable def post_cts_Decrypt__ok : List SV → List (List Seg) → FPost := fun L H => match L, H with
  | [.sl 1 key_n (.b8s key_m key), .sl 1 iv_n (.b8s iv_m iv), .sl 1 p_n (.b8s p_m p)], [] => .vc (key.length = 16 ∧ iv.length = 16 ∧ 16 ≤ p.length ∧ p.length ≤ 131072) (.ret ⟨.tup [.osub 0 1 0 p.length, .int 0], [], [[.b8s (padN p.length) (decF (ksI sbox key 10) iv p), .spare]]⟩)
  | _, _ => .fail
noncomputable def S_cts_Decrypt__ok : SE.Spec := specOf false [.bytes, .bytes, .bytes] post_cts_Decrypt__ok
theorem cok_cts_Decrypt__ok : CallOK prog Gl_cts_Decrypt__ok 17 S_cts_Decrypt__ok := by
  refine callOK_ofI (E := E_cts_Decrypt__ok) (code := f17.body.getD .skip) E_cts_Decrypt__ok_ok func17 (by kernel_rfl) (by kernel_rfl) fun L H out ht hp => ?_
  have hl := ht.lens
  clear ht
  unfold post_cts_Decrypt__ok at hp
  split at hp
  · rename_i key_n key_m key iv_n iv_m iv p_n p_m p
    have hm_key := hl.1.1.1
    have hn_key := hl.1.1.2
    have hm_iv := hl.1.2.1.1
    have hn_iv := hl.1.2.1.2
    have hm_p := hl.1.2.2.1.1
    have hn_p := hl.1.2.2.1.2
    obtain rfl : key_m = key.length := hm_key.symm
    obtain rfl : key_n = key.length := hn_key
    obtain rfl : iv_m = iv.length := hm_iv.symm
    obtain rfl : iv_n = iv.length := hn_iv
    obtain rfl : p_m = p.length := hm_p.symm
    obtain rfl : p_n = p.length := hn_p
    obtain ⟨hpre, hp⟩ := hp
    obtain rfl := hp
    exact ⟨_, _, vc_cts_Decrypt__ok_0 key iv p hpre⟩
  · exact hp.elim
end Go.Proofs.Try
/-! law07_CtsInverts -/
namespace Go.Proofs.Try
open Go Go.SE
set_option maxRecDepth 100000
set_option maxHeartbeats 400000
set_option linter.unusedVariables false
attribute [local irreducible] mvI subI addIt mxC mxR mxK encI decI ksI nextK nk1 nk2 tm rl8 sbox ibox addB keyAt rsC rsR ruC ruR ivI encB decB shB subB unshB mixB unmixB rnd unrnd wI wK wJ lastJ lastW incB blkC lastC chC catC16 lastD unC ctsPad exch encF decC decF padN addX
noncomputable def Gl_law07_CtsInverts : List (Nat × SV) := []
noncomputable def E_law07_CtsInverts : Env := ⟨T, [(13, S_law07_known), (16, S_cts_Encrypt__ok), (17, S_cts_Decrypt__ok)], Gl_law07_CtsInverts, []⟩
theorem E_law07_CtsInverts_ok : EnvOK prog E_law07_CtsInverts := ⟨T_ok, (.cons cok_law07_known (.cons cok_cts_Encrypt__ok (.cons cok_cts_Decrypt__ok .nil))), mix_ok, FBOK.nil⟩
theorem ob_law07_CtsInverts_0 (key iv b other : List (BitVec 8)) : (wpFn E_law07_CtsInverts 4000 (.mk [] []) (f7.body.getD .skip) f7.ntmps f7.results.toList [.sl 1 key.length (.b8s key.length key), .sl 1 iv.length (.b8s iv.length iv), .sl 1 b.length (.b8s b.length b), .sl 1 other.length (.b8s other.length other)] [] ⟨.bool true, [], []⟩).holds = (bsplit (!decide ((↑key.length : Int) = (16 : Int))) (true = true ∧ True) (bsplit (!decide ((↑iv.length : Int) = (16 : Int))) (true = true ∧ True) (bsplit (decide ((↑b.length : Int) < (16 : Int))) (true = true ∧ True) (bsplit (decide ((200 : Int) < (↑b.length : Int))) (true = true ∧ True) ((key.length = (16 : Nat) ∧ iv.length = (16 : Nat) ∧ (16 : Nat) ≤ b.length ∧ b.length ≤ (131072 : Nat)) ∧ (0 : Nat) + b.length ≤ padN b.length ∧ (key.length = (16 : Nat) ∧ iv.length = (16 : Nat) ∧ (16 : Nat) ≤ (List.take b.length (List.drop (0 : Nat) (encF (ksI sbox key (10 : Nat)) iv b))).length ∧ (List.take b.length (List.drop (0 : Nat) (encF (ksI sbox key (10 : Nat)) iv b))).length ≤ (131072 : Nat)) ∧ (key.length = (16 : Nat) ∧ iv.length = (16 : Nat) ∧ (16 : Nat) ≤ b.length ∧ b.length ≤ (131072 : Nat)) ∧ (0 : Nat) + b.length ≤ padN b.length ∧ (key.length = (16 : Nat) ∧ iv.length = (16 : Nat) ∧ (16 : Nat) ≤ (List.take b.length (List.drop (0 : Nat) (decF (ksI sbox key (10 : Nat)) iv b))).length ∧ (List.take b.length (List.drop (0 : Nat) (decF (ksI sbox key (10 : Nat)) iv b))).length ≤ (131072 : Nat)) ∧ bsplit (!decide ((↑b.length : Int) = (↑b.length : Int))) (false = true ∧ True) (bsplit (!decide ((↑b.length : Int) = (↑b.length : Int))) (false = true ∧ True) ((0 : Nat) + (List.take b.length (List.drop (0 : Nat) (encF (ksI sbox key (10 : Nat)) iv b))).length ≤ padN (List.take b.length (List.drop (0 : Nat) (encF (ksI sbox key (10 : Nat)) iv b))).length ∧ bsplit (!decide (List.take (List.take b.length (List.drop (0 : Nat) (encF (ksI sbox key (10 : Nat)) iv b))).length (List.drop (0 : Nat) (decF (ksI sbox key (10 : Nat)) iv (List.take b.length (List.drop (0 : Nat) (encF (ksI sbox key (10 : Nat)) iv b))))) = b)) (false = true ∧ True) ((0 : Nat) + (List.take b.length (List.drop (0 : Nat) (decF (ksI sbox key (10 : Nat)) iv b))).length ≤ padN (List.take b.length (List.drop (0 : Nat) (decF (ksI sbox key (10 : Nat)) iv b))).length ∧ bsplit (!decide (List.take (List.take b.length (List.drop (0 : Nat) (decF (ksI sbox key (10 : Nat)) iv b))).length (List.drop (0 : Nat) (encF (ksI sbox key (10 : Nat)) iv (List.take b.length (List.drop (0 : Nat) (decF (ksI sbox key (10 : Nat)) iv b))))) = b)) (false = true ∧ True) (inI64 ((↑b.length : Int) + (15 : Int)) ∧ ((0 : Int) ≤ (↑b.length : Int) + (15 : Int) ∧ (↑b.length : Int) + (15 : Int) ≤ (9223372036854775807 : Int) ∧ (0 : Int) < (16 : Int)) ∧ inI64 (((↑b.length : Int) + (15 : Int)) / (16 : Int) - (2 : Int)) ∧ bsplit (decide (((↑b.length : Int) + (15 : Int)) / (16 : Int) - (2 : Int) < (1 : Int))) (true = true ∧ True) (bsplit (decide ((↑other.length : Int) < (↑b.length : Int))) (true = true ∧ True) (inI64 ((16 : Int) * (((↑b.length : Int) + (15 : Int)) / (16 : Int) - (2 : Int))) ∧ ((0 : Int) ≤ (16 : Int) * (((↑b.length : Int) + (15 : Int)) / (16 : Int) - (2 : Int)) ∧ (16 : Int) * (((↑b.length : Int) + (15 : Int)) / (16 : Int) - (2 : Int)) ≤ (↑b.length : Int)) ∧ (0 : Nat) = (0 : Nat) ∧ (0 : Nat) + ((16 : Int) * (((↑b.length : Int) + (15 : Int)) / (16 : Int) - (2 : Int))).toNat ≤ (4294967296 : Nat) ∧ inI64 ((16 : Int) * (((↑b.length : Int) + (15 : Int)) / (16 : Int) - (2 : Int))) ∧ ((0 : Int) ≤ (↑b.length : Int) ∧ (↑b.length : Int) ≤ (↑other.length : Int)) ∧ ((0 : Int) ≤ (16 : Int) * (((↑b.length : Int) + (15 : Int)) / (16 : Int) - (2 : Int)) ∧ (16 : Int) * (((↑b.length : Int) + (15 : Int)) / (16 : Int) - (2 : Int)) ≤ (↑(↑b.length : Int).toNat : Int)) ∧ (0 : Nat) + ((16 : Int) * (((↑b.length : Int) + (15 : Int)) / (16 : Int) - (2 : Int))).toNat = (0 : Nat) + ((16 : Int) * (((↑b.length : Int) + (15 : Int)) / (16 : Int) - (2 : Int))).toNat ∧ (0 : Nat) + ((16 : Int) * (((↑b.length : Int) + (15 : Int)) / (16 : Int) - (2 : Int))).toNat + ((↑b.length : Int).toNat - ((16 : Int) * (((↑b.length : Int) + (15 : Int)) / (16 : Int) - (2 : Int))).toNat) ≤ (4294967296 : Nat) ∧ (0 : Nat) + ((16 : Int) * (((↑b.length : Int) + (15 : Int)) / (16 : Int) - (2 : Int))).toNat + ((↑b.length : Int).toNat - ((16 : Int) * (((↑b.length : Int) + (15 : Int)) / (16 : Int) - (2 : Int))).toNat) = (0 : Nat) + ((16 : Int) * (((↑b.length : Int) + (15 : Int)) / (16 : Int) - (2 : Int))).toNat + ((↑b.length : Int).toNat - ((16 : Int) * (((↑b.length : Int) + (15 : Int)) / (16 : Int) - (2 : Int))).toNat) ∧ (key.length = (16 : Nat) ∧ iv.length = (16 : Nat) ∧ (16 : Nat) ≤ (nil8 ++ List.take ((16 : Int) * (((↑b.length : Int) + (15 : Int)) / (16 : Int) - (2 : Int))).toNat b ++ List.take ((↑b.length : Int).toNat - ((16 : Int) * (((↑b.length : Int) + (15 : Int)) / (16 : Int) - (2 : Int))).toNat) (List.drop ((16 : Int) * (((↑b.length : Int) + (15 : Int)) / (16 : Int) - (2 : Int))).toNat other)).length ∧ (nil8 ++ List.take ((16 : Int) * (((↑b.length : Int) + (15 : Int)) / (16 : Int) - (2 : Int))).toNat b ++ List.take ((↑b.length : Int).toNat - ((16 : Int) * (((↑b.length : Int) + (15 : Int)) / (16 : Int) - (2 : Int))).toNat) (List.drop ((16 : Int) * (((↑b.length : Int) + (15 : Int)) / (16 : Int) - (2 : Int))).toNat other)).length ≤ (131072 : Nat)) ∧ bsplit (decide ((↑(nil8 ++ List.take ((16 : Int) * (((↑b.length : Int) + (15 : Int)) / (16 : Int) - (2 : Int))).toNat b ++ List.take ((↑b.length : Int).toNat - ((16 : Int) * (((↑b.length : Int) + (15 : Int)) / (16 : Int) - (2 : Int))).toNat) (List.drop ((16 : Int) * (((↑b.length : Int) + (15 : Int)) / (16 : Int) - (2 : Int))).toNat other)).length : Int) = (↑b.length : Int))) (inI64 ((16 : Int) * (((↑b.length : Int) + (15 : Int)) / (16 : Int) - (2 : Int))) ∧ ((0 : Int) ≤ (16 : Int) * (((↑b.length : Int) + (15 : Int)) / (16 : Int) - (2 : Int)) ∧ (16 : Int) * (((↑b.length : Int) + (15 : Int)) / (16 : Int) - (2 : Int)) ≤ (↑(nil8 ++ List.take ((16 : Int) * (((↑b.length : Int) + (15 : Int)) / (16 : Int) - (2 : Int))).toNat b ++ List.take ((↑b.length : Int).toNat - ((16 : Int) * (((↑b.length : Int) + (15 : Int)) / (16 : Int) - (2 : Int))).toNat) (List.drop ((16 : Int) * (((↑b.length : Int) + (15 : Int)) / (16 : Int) - (2 : Int))).toNat other)).length : Int)) ∧ (0 : Nat) + (0 : Nat) + ((16 : Int) * (((↑b.length : Int) + (15 : Int)) / (16 : Int) - (2 : Int))).toNat ≤ padN (nil8 ++ List.take ((16 : Int) * (((↑b.length : Int) + (15 : Int)) / (16 : Int) - (2 : Int))).toNat b ++ List.take ((↑b.length : Int).toNat - ((16 : Int) * (((↑b.length : Int) + (15 : Int)) / (16 : Int) - (2 : Int))).toNat) (List.drop ((16 : Int) * (((↑b.length : Int) + (15 : Int)) / (16 : Int) - (2 : Int))).toNat other)).length ∧ inI64 ((16 : Int) * (((↑b.length : Int) + (15 : Int)) / (16 : Int) - (2 : Int))) ∧ ((0 : Int) ≤ (16 : Int) * (((↑b.length : Int) + (15 : Int)) / (16 : Int) - (2 : Int)) ∧ (16 : Int) * (((↑b.length : Int) + (15 : Int)) / (16 : Int) - (2 : Int)) ≤ (↑b.length : Int)) ∧ (0 : Nat) + (0 : Nat) + ((16 : Int) * (((↑b.length : Int) + (15 : Int)) / (16 : Int) - (2 : Int))).toNat ≤ padN b.length ∧ bsplit (decide (List.take ((16 : Int) * (((↑b.length : Int) + (15 : Int)) / (16 : Int) - (2 : Int))).toNat (List.drop ((0 : Nat) + (0 : Nat)) (encF (ksI sbox key (10 : Nat)) iv (nil8 ++ List.take ((16 : Int) * (((↑b.length : Int) + (15 : Int)) / (16 : Int) - (2 : Int))).toNat b ++ List.take ((↑b.length : Int).toNat - ((16 : Int) * (((↑b.length : Int) + (15 : Int)) / (16 : Int) - (2 : Int))).toNat) (List.drop ((16 : Int) * (((↑b.length : Int) + (15 : Int)) / (16 : Int) - (2 : Int))).toNat other)))) = List.take ((16 : Int) * (((↑b.length : Int) + (15 : Int)) / (16 : Int) - (2 : Int))).toNat (List.drop ((0 : Nat) + (0 : Nat)) (encF (ksI sbox key (10 : Nat)) iv b)))) (true = true ∧ True) (false = true ∧ True)) (false = true ∧ True)))))))))))) := by kernel_rfl
theorem vc_law07_CtsInverts_0 (key iv b other : List (BitVec 8)) : (wpFn E_law07_CtsInverts 4000 (.mk [] []) (f7.body.getD .skip) f7.ntmps f7.results.toList [.sl 1 key.length (.b8s key.length key), .sl 1 iv.length (.b8s iv.length iv), .sl 1 b.length (.b8s b.length b), .sl 1 other.length (.b8s other.length other)] [] ⟨.bool true, [], []⟩).Holds := by
  refine holdsI (ob_law07_CtsInverts_0 key iv b other) ?_
  refine bsplit_not (fun h0 => ⟨rfl, trivial⟩) (fun h1 => bsplit_not (fun h2 => ⟨rfl, trivial⟩) (fun h3 => bsplit_dec (fun h4 => ⟨rfl, trivial⟩) (fun h5 => bsplit_dec (fun h6 => ⟨rfl, trivial⟩) (fun h7 => ⟨⟨(by omega), (by omega), (by omega), (by omega)⟩, ?_, ⟨(by omega), (by omega), ?_, ?_⟩, ⟨(by omega), (by omega), (by omega), (by omega)⟩, ?_, ⟨(by omega), (by omega), ?_, ?_⟩, bsplit_not (fun h8 => (by exfalso; omega)) (fun h9 => bsplit_not (fun h10 => (by exfalso; omega)) (fun h11 => ⟨?_, bsplit_not (fun h12 => ⟨?_, trivial⟩) (fun h13 => ⟨?_, bsplit_not (fun h14 => ⟨?_, trivial⟩) (fun h15 => ⟨?a0, ⟨(by omega), (by omega), (by decide)⟩, ?a1, bsplit_dec (fun h16 => ⟨rfl, trivial⟩) (fun h17 => bsplit_dec (fun h18 => ⟨rfl, trivial⟩) (fun h19 => ⟨?a2, ⟨(by omega), (by omega)⟩, rfl, (by omega), ?a3, ⟨(by omega), (by omega)⟩, ⟨(by omega), (by omega)⟩, rfl, (by omega), rfl, ⟨(by omega), (by omega), ?_, ?_⟩, bsplit_dec (fun h20 => ⟨?a4, ⟨(by omega), (by omega)⟩, ?_, ?a5, ⟨(by omega), (by omega)⟩, ?_, bsplit_dec (fun h21 => ⟨rfl, trivial⟩) (fun h22 => ⟨?_, trivial⟩)⟩) (fun h23 => ⟨?_, trivial⟩)⟩))⟩)⟩)⟩))⟩))))
  case a0 | a1 | a2 | a3 | a4 | a5 => (simp only [inI64]; omega)
  · have hk : key.length = 16 := by omega
    have hv : iv.length = 16 := by omega
    have h16 : 16 ≤ b.length := by omega
    have hpl := padN_le b.length
    have lx := encX_len (ksI sbox key 10) iv b hv h16
    have lz := decX_len (ksI sbox key 10) iv b h16
    first
      | omega
      | (rw [lx]; omega)
      | (rw [lz]; omega)
      | exact absurd (dec_encX _ _ _ hv h16) (by assumption)
      | exact absurd (enc_decX _ _ _ hv h16) (by assumption)
      | (obtain ⟨k1, k2⟩ := KI b.length (by assumption)
         have lc := CI_len b other (by assumption) (by assumption) _ k1
         simp only [List.nil_append, Int.toNat_natCast, List.drop_zero, Nat.add_zero] at *
         have e := enc_prefix (ksI sbox key 10) iv b (List.take (b.length - ((16 : Int) * (((b.length : Int) + 15) / 16 - 2)).toNat) (List.drop ((16 : Int) * (((b.length : Int) + 15) / 16 - 2)).toNat other)) hv ((b.length + 15) / 16 - 2) h16 (by omega)
         rw [← k1] at e
         first
           | omega
           | (rw [lc]; omega)
           | exact absurd (e lc) (by assumption))
  · have hk : key.length = 16 := by omega
    have hv : iv.length = 16 := by omega
    have h16 : 16 ≤ b.length := by omega
    have hpl := padN_le b.length
    have lx := encX_len (ksI sbox key 10) iv b hv h16
    have lz := decX_len (ksI sbox key 10) iv b h16
    first
      | omega
      | (rw [lx]; omega)
      | (rw [lz]; omega)
      | exact absurd (dec_encX _ _ _ hv h16) (by assumption)
      | exact absurd (enc_decX _ _ _ hv h16) (by assumption)
      | (obtain ⟨k1, k2⟩ := KI b.length (by assumption)
         have lc := CI_len b other (by assumption) (by assumption) _ k1
         simp only [List.nil_append, Int.toNat_natCast, List.drop_zero, Nat.add_zero] at *
         have e := enc_prefix (ksI sbox key 10) iv b (List.take (b.length - ((16 : Int) * (((b.length : Int) + 15) / 16 - 2)).toNat) (List.drop ((16 : Int) * (((b.length : Int) + 15) / 16 - 2)).toNat other)) hv ((b.length + 15) / 16 - 2) h16 (by omega)
         rw [← k1] at e
         first
           | omega
           | (rw [lc]; omega)
           | exact absurd (e lc) (by assumption))
  · have hk : key.length = 16 := by omega
    have hv : iv.length = 16 := by omega
    have h16 : 16 ≤ b.length := by omega
    have hpl := padN_le b.length
    have lx := encX_len (ksI sbox key 10) iv b hv h16
    have lz := decX_len (ksI sbox key 10) iv b h16
    first
      | omega
      | (rw [lx]; omega)
      | (rw [lz]; omega)
      | exact absurd (dec_encX _ _ _ hv h16) (by assumption)
      | exact absurd (enc_decX _ _ _ hv h16) (by assumption)
      | (obtain ⟨k1, k2⟩ := KI b.length (by assumption)
         have lc := CI_len b other (by assumption) (by assumption) _ k1
         simp only [List.nil_append, Int.toNat_natCast, List.drop_zero, Nat.add_zero] at *
         have e := enc_prefix (ksI sbox key 10) iv b (List.take (b.length - ((16 : Int) * (((b.length : Int) + 15) / 16 - 2)).toNat) (List.drop ((16 : Int) * (((b.length : Int) + 15) / 16 - 2)).toNat other)) hv ((b.length + 15) / 16 - 2) h16 (by omega)
         rw [← k1] at e
         first
           | omega
           | (rw [lc]; omega)
           | exact absurd (e lc) (by assumption))
  · have hk : key.length = 16 := by omega
    have hv : iv.length = 16 := by omega
    have h16 : 16 ≤ b.length := by omega
    have hpl := padN_le b.length
    have lx := encX_len (ksI sbox key 10) iv b hv h16
    have lz := decX_len (ksI sbox key 10) iv b h16
    first
      | omega
      | (rw [lx]; omega)
      | (rw [lz]; omega)
      | exact absurd (dec_encX _ _ _ hv h16) (by assumption)
      | exact absurd (enc_decX _ _ _ hv h16) (by assumption)
      | (obtain ⟨k1, k2⟩ := KI b.length (by assumption)
         have lc := CI_len b other (by assumption) (by assumption) _ k1
         simp only [List.nil_append, Int.toNat_natCast, List.drop_zero, Nat.add_zero] at *
         have e := enc_prefix (ksI sbox key 10) iv b (List.take (b.length - ((16 : Int) * (((b.length : Int) + 15) / 16 - 2)).toNat) (List.drop ((16 : Int) * (((b.length : Int) + 15) / 16 - 2)).toNat other)) hv ((b.length + 15) / 16 - 2) h16 (by omega)
         rw [← k1] at e
         first
           | omega
           | (rw [lc]; omega)
           | exact absurd (e lc) (by assumption))
  · have hk : key.length = 16 := by omega
    have hv : iv.length = 16 := by omega
    have h16 : 16 ≤ b.length := by omega
    have hpl := padN_le b.length
    have lx := encX_len (ksI sbox key 10) iv b hv h16
    have lz := decX_len (ksI sbox key 10) iv b h16
    first
      | omega
      | (rw [lx]; omega)
      | (rw [lz]; omega)
      | exact absurd (dec_encX _ _ _ hv h16) (by assumption)
      | exact absurd (enc_decX _ _ _ hv h16) (by assumption)
      | (obtain ⟨k1, k2⟩ := KI b.length (by assumption)
         have lc := CI_len b other (by assumption) (by assumption) _ k1
         simp only [List.nil_append, Int.toNat_natCast, List.drop_zero, Nat.add_zero] at *
         have e := enc_prefix (ksI sbox key 10) iv b (List.take (b.length - ((16 : Int) * (((b.length : Int) + 15) / 16 - 2)).toNat) (List.drop ((16 : Int) * (((b.length : Int) + 15) / 16 - 2)).toNat other)) hv ((b.length + 15) / 16 - 2) h16 (by omega)
         rw [← k1] at e
         first
           | omega
           | (rw [lc]; omega)
           | exact absurd (e lc) (by assumption))
  · have hk : key.length = 16 := by omega
    have hv : iv.length = 16 := by omega
    have h16 : 16 ≤ b.length := by omega
    have hpl := padN_le b.length
    have lx := encX_len (ksI sbox key 10) iv b hv h16
    have lz := decX_len (ksI sbox key 10) iv b h16
    first
      | omega
      | (rw [lx]; omega)
      | (rw [lz]; omega)
      | exact absurd (dec_encX _ _ _ hv h16) (by assumption)
      | exact absurd (enc_decX _ _ _ hv h16) (by assumption)
      | (obtain ⟨k1, k2⟩ := KI b.length (by assumption)
         have lc := CI_len b other (by assumption) (by assumption) _ k1
         simp only [List.nil_append, Int.toNat_natCast, List.drop_zero, Nat.add_zero] at *
         have e := enc_prefix (ksI sbox key 10) iv b (List.take (b.length - ((16 : Int) * (((b.length : Int) + 15) / 16 - 2)).toNat) (List.drop ((16 : Int) * (((b.length : Int) + 15) / 16 - 2)).toNat other)) hv ((b.length + 15) / 16 - 2) h16 (by omega)
         rw [← k1] at e
         first
           | omega
           | (rw [lc]; omega)
           | exact absurd (e lc) (by assumption))
  · have hk : key.length = 16 := by omega
    have hv : iv.length = 16 := by omega
    have h16 : 16 ≤ b.length := by omega
    have hpl := padN_le b.length
    have lx := encX_len (ksI sbox key 10) iv b hv h16
    have lz := decX_len (ksI sbox key 10) iv b h16
    first
      | omega
      | (rw [lx]; omega)
      | (rw [lz]; omega)
      | exact absurd (dec_encX _ _ _ hv h16) (by assumption)
      | exact absurd (enc_decX _ _ _ hv h16) (by assumption)
      | (obtain ⟨k1, k2⟩ := KI b.length (by assumption)
         have lc := CI_len b other (by assumption) (by assumption) _ k1
         simp only [List.nil_append, Int.toNat_natCast, List.drop_zero, Nat.add_zero] at *
         have e := enc_prefix (ksI sbox key 10) iv b (List.take (b.length - ((16 : Int) * (((b.length : Int) + 15) / 16 - 2)).toNat) (List.drop ((16 : Int) * (((b.length : Int) + 15) / 16 - 2)).toNat other)) hv ((b.length + 15) / 16 - 2) h16 (by omega)
         rw [← k1] at e
         first
           | omega
           | (rw [lc]; omega)
           | exact absurd (e lc) (by assumption))
  · have hk : key.length = 16 := by omega
    have hv : iv.length = 16 := by omega
    have h16 : 16 ≤ b.length := by omega
    have hpl := padN_le b.length
    have lx := encX_len (ksI sbox key 10) iv b hv h16
    have lz := decX_len (ksI sbox key 10) iv b h16
    first
      | omega
      | (rw [lx]; omega)
      | (rw [lz]; omega)
      | exact absurd (dec_encX _ _ _ hv h16) (by assumption)
      | exact absurd (enc_decX _ _ _ hv h16) (by assumption)
      | (obtain ⟨k1, k2⟩ := KI b.length (by assumption)
         have lc := CI_len b other (by assumption) (by assumption) _ k1
         simp only [List.nil_append, Int.toNat_natCast, List.drop_zero, Nat.add_zero] at *
         have e := enc_prefix (ksI sbox key 10) iv b (List.take (b.length - ((16 : Int) * (((b.length : Int) + 15) / 16 - 2)).toNat) (List.drop ((16 : Int) * (((b.length : Int) + 15) / 16 - 2)).toNat other)) hv ((b.length + 15) / 16 - 2) h16 (by omega)
         rw [← k1] at e
         first
           | omega
           | (rw [lc]; omega)
           | exact absurd (e lc) (by assumption))
  · have hk : key.length = 16 := by omega
    have hv : iv.length = 16 := by omega
    have h16 : 16 ≤ b.length := by omega
    have hpl := padN_le b.length
    have lx := encX_len (ksI sbox key 10) iv b hv h16
    have lz := decX_len (ksI sbox key 10) iv b h16
    first
      | omega
      | (rw [lx]; omega)
      | (rw [lz]; omega)
      | exact absurd (dec_encX _ _ _ hv h16) (by assumption)
      | exact absurd (enc_decX _ _ _ hv h16) (by assumption)
      | (obtain ⟨k1, k2⟩ := KI b.length (by assumption)
         have lc := CI_len b other (by assumption) (by assumption) _ k1
         simp only [List.nil_append, Int.toNat_natCast, List.drop_zero, Nat.add_zero] at *
         have e := enc_prefix (ksI sbox key 10) iv b (List.take (b.length - ((16 : Int) * (((b.length : Int) + 15) / 16 - 2)).toNat) (List.drop ((16 : Int) * (((b.length : Int) + 15) / 16 - 2)).toNat other)) hv ((b.length + 15) / 16 - 2) h16 (by omega)
         rw [← k1] at e
         first
           | omega
           | (rw [lc]; omega)
           | exact absurd (e lc) (by assumption))
  · have hk : key.length = 16 := by omega
    have hv : iv.length = 16 := by omega
    have h16 : 16 ≤ b.length := by omega
    have hpl := padN_le b.length
    have lx := encX_len (ksI sbox key 10) iv b hv h16
    have lz := decX_len (ksI sbox key 10) iv b h16
    first
      | omega
      | (rw [lx]; omega)
      | (rw [lz]; omega)
      | exact absurd (dec_encX _ _ _ hv h16) (by assumption)
      | exact absurd (enc_decX _ _ _ hv h16) (by assumption)
      | (obtain ⟨k1, k2⟩ := KI b.length (by assumption)
         have lc := CI_len b other (by assumption) (by assumption) _ k1
         simp only [List.nil_append, Int.toNat_natCast, List.drop_zero, Nat.add_zero] at *
         have e := enc_prefix (ksI sbox key 10) iv b (List.take (b.length - ((16 : Int) * (((b.length : Int) + 15) / 16 - 2)).toNat) (List.drop ((16 : Int) * (((b.length : Int) + 15) / 16 - 2)).toNat other)) hv ((b.length + 15) / 16 - 2) h16 (by omega)
         rw [← k1] at e
         first
           | omega
           | (rw [lc]; omega)
           | exact absurd (e lc) (by assumption))
  · have hk : key.length = 16 := by omega
    have hv : iv.length = 16 := by omega
    have h16 : 16 ≤ b.length := by omega
    have hpl := padN_le b.length
    have lx := encX_len (ksI sbox key 10) iv b hv h16
    have lz := decX_len (ksI sbox key 10) iv b h16
    first
      | omega
      | (rw [lx]; omega)
      | (rw [lz]; omega)
      | exact absurd (dec_encX _ _ _ hv h16) (by assumption)
      | exact absurd (enc_decX _ _ _ hv h16) (by assumption)
      | (obtain ⟨k1, k2⟩ := KI b.length (by assumption)
         have lc := CI_len b other (by assumption) (by assumption) _ k1
         simp only [List.nil_append, Int.toNat_natCast, List.drop_zero, Nat.add_zero] at *
         have e := enc_prefix (ksI sbox key 10) iv b (List.take (b.length - ((16 : Int) * (((b.length : Int) + 15) / 16 - 2)).toNat) (List.drop ((16 : Int) * (((b.length : Int) + 15) / 16 - 2)).toNat other)) hv ((b.length + 15) / 16 - 2) h16 (by omega)
         rw [← k1] at e
         first
           | omega
           | (rw [lc]; omega)
           | exact absurd (e lc) (by assumption))
  · have hk : key.length = 16 := by omega
    have hv : iv.length = 16 := by omega
    have h16 : 16 ≤ b.length := by omega
    have hpl := padN_le b.length
    have lx := encX_len (ksI sbox key 10) iv b hv h16
    have lz := decX_len (ksI sbox key 10) iv b h16
    first
      | omega
      | (rw [lx]; omega)
      | (rw [lz]; omega)
      | exact absurd (dec_encX _ _ _ hv h16) (by assumption)
      | exact absurd (enc_decX _ _ _ hv h16) (by assumption)
      | (obtain ⟨k1, k2⟩ := KI b.length (by assumption)
         have lc := CI_len b other (by assumption) (by assumption) _ k1
         simp only [List.nil_append, Int.toNat_natCast, List.drop_zero, Nat.add_zero] at *
         have e := enc_prefix (ksI sbox key 10) iv b (List.take (b.length - ((16 : Int) * (((b.length : Int) + 15) / 16 - 2)).toNat) (List.drop ((16 : Int) * (((b.length : Int) + 15) / 16 - 2)).toNat other)) hv ((b.length + 15) / 16 - 2) h16 (by omega)
         rw [← k1] at e
         first
           | omega
           | (rw [lc]; omega)
           | exact absurd (e lc) (by assumption))
  · have hk : key.length = 16 := by omega
    have hv : iv.length = 16 := by omega
    have h16 : 16 ≤ b.length := by omega
    have hpl := padN_le b.length
    have lx := encX_len (ksI sbox key 10) iv b hv h16
    have lz := decX_len (ksI sbox key 10) iv b h16
    first
      | omega
      | (rw [lx]; omega)
      | (rw [lz]; omega)
      | exact absurd (dec_encX _ _ _ hv h16) (by assumption)
      | exact absurd (enc_decX _ _ _ hv h16) (by assumption)
      | (obtain ⟨k1, k2⟩ := KI b.length (by assumption)
         have lc := CI_len b other (by assumption) (by assumption) _ k1
         simp only [List.nil_append, Int.toNat_natCast, List.drop_zero, Nat.add_zero] at *
         have e := enc_prefix (ksI sbox key 10) iv b (List.take (b.length - ((16 : Int) * (((b.length : Int) + 15) / 16 - 2)).toNat) (List.drop ((16 : Int) * (((b.length : Int) + 15) / 16 - 2)).toNat other)) hv ((b.length + 15) / 16 - 2) h16 (by omega)
         rw [← k1] at e
         first
           | omega
           | (rw [lc]; omega)
           | exact absurd (e lc) (by assumption))
  · have hk : key.length = 16 := by omega
    have hv : iv.length = 16 := by omega
    have h16 : 16 ≤ b.length := by omega
    have hpl := padN_le b.length
    have lx := encX_len (ksI sbox key 10) iv b hv h16
    have lz := decX_len (ksI sbox key 10) iv b h16
    first
      | omega
      | (rw [lx]; omega)
      | (rw [lz]; omega)
      | exact absurd (dec_encX _ _ _ hv h16) (by assumption)
      | exact absurd (enc_decX _ _ _ hv h16) (by assumption)
      | (obtain ⟨k1, k2⟩ := KI b.length (by assumption)
         have lc := CI_len b other (by assumption) (by assumption) _ k1
         simp only [List.nil_append, Int.toNat_natCast, List.drop_zero, Nat.add_zero] at *
         have e := enc_prefix (ksI sbox key 10) iv b (List.take (b.length - ((16 : Int) * (((b.length : Int) + 15) / 16 - 2)).toNat) (List.drop ((16 : Int) * (((b.length : Int) + 15) / 16 - 2)).toNat other)) hv ((b.length + 15) / 16 - 2) h16 (by omega)
         rw [← k1] at e
         first
           | omega
           | (rw [lc]; omega)
           | exact absurd (e lc) (by assumption))
  · have hk : key.length = 16 := by omega
    have hv : iv.length = 16 := by omega
    have h16 : 16 ≤ b.length := by omega
    have hpl := padN_le b.length
    have lx := encX_len (ksI sbox key 10) iv b hv h16
    have lz := decX_len (ksI sbox key 10) iv b h16
    first
      | omega
      | (rw [lx]; omega)
      | (rw [lz]; omega)
      | exact absurd (dec_encX _ _ _ hv h16) (by assumption)
      | exact absurd (enc_decX _ _ _ hv h16) (by assumption)
      | (obtain ⟨k1, k2⟩ := KI b.length (by assumption)
         have lc := CI_len b other (by assumption) (by assumption) _ k1
         simp only [List.nil_append, Int.toNat_natCast, List.drop_zero, Nat.add_zero] at *
         have e := enc_prefix (ksI sbox key 10) iv b (List.take (b.length - ((16 : Int) * (((b.length : Int) + 15) / 16 - 2)).toNat) (List.drop ((16 : Int) * (((b.length : Int) + 15) / 16 - 2)).toNat other)) hv ((b.length + 15) / 16 - 2) h16 (by omega)
         rw [← k1] at e
         first
           | omega
           | (rw [lc]; omega)
           | exact absurd (e lc) (by assumption))
  · have hk : key.length = 16 := by omega
    have hv : iv.length = 16 := by omega
    have h16 : 16 ≤ b.length := by omega
    have hpl := padN_le b.length
    have lx := encX_len (ksI sbox key 10) iv b hv h16
    have lz := decX_len (ksI sbox key 10) iv b h16
    first
      | omega
      | (rw [lx]; omega)
      | (rw [lz]; omega)
      | exact absurd (dec_encX _ _ _ hv h16) (by assumption)
      | exact absurd (enc_decX _ _ _ hv h16) (by assumption)
      | (obtain ⟨k1, k2⟩ := KI b.length (by assumption)
         have lc := CI_len b other (by assumption) (by assumption) _ k1
         simp only [List.nil_append, Int.toNat_natCast, List.drop_zero, Nat.add_zero] at *
         have e := enc_prefix (ksI sbox key 10) iv b (List.take (b.length - ((16 : Int) * (((b.length : Int) + 15) / 16 - 2)).toNat) (List.drop ((16 : Int) * (((b.length : Int) + 15) / 16 - 2)).toNat other)) hv ((b.length + 15) / 16 - 2) h16 (by omega)
         rw [← k1] at e
         first
           | omega
           | (rw [lc]; omega)
           | exact absurd (e lc) (by assumption))
noncomputable def post_law07_CtsInverts : List SV → List (List Seg) → FPost := fun L H => match L, H with
  | [.sl 1 key_n (.b8s key_m key), .sl 1 iv_n (.b8s iv_m iv), .sl 1 b_n (.b8s b_m b), .sl 1 other_n (.b8s other_m other)], [] => .ret ⟨.bool true, [], []⟩
  | _, _ => .fail
noncomputable def S_law07_CtsInverts : SE.Spec := specOf false [.bytes, .bytes, .bytes, .bytes] post_law07_CtsInverts
theorem cok_law07_CtsInverts : CallOK prog Gl_law07_CtsInverts 7 S_law07_CtsInverts := by
  refine callOK_ofI (E := E_law07_CtsInverts) (code := f7.body.getD .skip) E_law07_CtsInverts_ok func7 (by kernel_rfl) (by kernel_rfl) fun L H out ht hp => ?_
  have hl := ht.lens
  clear ht
  unfold post_law07_CtsInverts at hp
  split at hp
  · rename_i key_n key_m key iv_n iv_m iv b_n b_m b other_n other_m other
    have hm_key := hl.1.1.1
    have hn_key := hl.1.1.2
    have hm_iv := hl.1.2.1.1
    have hn_iv := hl.1.2.1.2
    have hm_b := hl.1.2.2.1.1
    have hn_b := hl.1.2.2.1.2
    have hm_other := hl.1.2.2.2.1.1
    have hn_other := hl.1.2.2.2.1.2
    obtain rfl : key_m = key.length := hm_key.symm
    obtain rfl : key_n = key.length := hn_key
    obtain rfl : iv_m = iv.length := hm_iv.symm
    obtain rfl : iv_n = iv.length := hn_iv
    obtain rfl : b_m = b.length := hm_b.symm
    obtain rfl : b_n = b.length := hn_b
    obtain rfl : other_m = other.length := hm_other.symm
    obtain rfl : other_n = other.length := hn_other
    obtain rfl := hp
    exact ⟨_, _, vc_law07_CtsInverts_0 key iv b other⟩
  · exact hp.elim
end Go.Proofs.Try
