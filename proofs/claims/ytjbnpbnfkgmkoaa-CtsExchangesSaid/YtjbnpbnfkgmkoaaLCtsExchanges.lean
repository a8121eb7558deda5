/- For every input the law CtsExchanges of the program answers true, and its arguments read behind the call as they read before; no condition. -/
import Derived.Test.YtjbnpbnfkgmkoaaFCtsExchanges2
import Derived.Test.YtjbnpbnfkgmkoaaS6
import Derived.Test.YtjbnpbnfkgmkoaaRows
import Derived.ProofKit
import Derived.OpenShut
import Derived.Stop.Joined
import Derived.SevenTiedAt
set_option linter.all false
namespace Go.Proofs.Ytjbnpbnfkgmkoaa
open Go Go.SE Go.ChangeShapes Go.WideShapes Go.ChangeAt Go.RowKit
set_option maxRecDepth 100000
set_option linter.unusedVariables false
theorem lawCtsExchanges_own : ownKnob Try.prog.godebug = none := by kernel_rfl
theorem lawCtsExchanges_laidOut : laidOutB Try.prog = true := by kernel_rfl
theorem lawCtsExchanges_rowed : mapsRowed Try.prog = true := by kernel_rfl
theorem lawCtsExchanges_sized {t e : TypeId} (ht : t < Try.prog.types.size) (hu : Try.prog.underlying t = some (.slice e)) : 0 < Try.prog.cellsOf e := by
  have hall : ((List.range Try.prog.types.size).all fun t => match Try.prog.underlying t with
    | some (.slice e) => decide (0 < Try.prog.cellsOf e)
    | _ => true) = true := by kernel_rfl
  have := List.all_eq_true.1 hall t (List.mem_range.2 ht)
  rw [hu] at this
  exact of_decide_eq_true this
theorem lawCtsExchanges_lifted (os : Os) (started : os.Started) (H : Type) (enc : TypeId × Value → H) :
    ReturnsInHanded {} Try.checked os 5 .any (Rows.ctsExchangesSpec.pre6 enc Try.prog Try.f5 Rows.ctsExchangesRow.domain false)
      (Rows.ctsExchangesSpec.post enc Try.prog Try.f5 false true false false) := by
  refine returnsInHanded_of_change (C := Try.checked) lawCtsExchanges_own started (by kernel_rfl) Try.func5
    (ChangeSpec.witness6 (enc := enc) (C := Try.checked) false ⟨#[], #[.slice none 0 0, .slice none 0 0, .slice none 0 0], []⟩ 8 (by kernel_rfl) (by kernel_rfl) (by kernel_rfl) (by kernel_rfl)) ?_
  intro W base args ds gs before hval0 hW _ _
  have hval : ∀ (j : Nat) t v, Try.f5.params[j]? = some t → args[j]? = some v → Value.okWide Try.prog W .any base t v := hval0
  have hW' := hW
  obtain ⟨p, q, hA0, hV, rfl, _, _⟩ := hW
  have hA : DataW.TrodAll enc Try.prog W 0 (fun _ => true) true Try.f5.params.toList args.toList ds p := hA0
  have hlt : ∀ x ∈ p, x.block < W.heap.size := fun x hx => by simpa using hW'.lt x (List.mem_append_left _ hx)
  have hargsK := fun (W' : World) (hk : Kept W W') => trodAll_kept (W' := W') lawCtsExchanges_laidOut lawCtsExchanges_rowed lawCtsExchanges_sized (of_decide_eq_true (by kernel_rfl)) hA hk hlt
  rw [Try.params5] at hA hval
  obtain ⟨v0, vs0, d0, ds0, p0, q0, hargs, rfl, rfl, h0, r0⟩ := trodAll_cons hA
  obtain ⟨v1, vs1, d1, ds1, p1, q1, rfl, rfl, rfl, h1, r1⟩ := trodAll_cons r0
  obtain ⟨v2, vs2, d2, ds2, p2, q2, rfl, rfl, rfl, h2, r2⟩ := trodAll_cons r1
  obtain ⟨rfl, rfl, rfl⟩ := trodAll_nil r2
  obtain rfl : args = #[v0, v1, v2] := by
    apply Array.ext'
    exact hargs
  obtain ⟨rfl, rfl⟩ := trodVars_none hV
  obtain ⟨x0, e0⟩ := den_bytes not_own00 Try.underlying22 Try.underlying5 (by kernel_rfl) (hval 0 22 v0 rfl rfl) h0
  obtain ⟨x1, e1⟩ := den_bytes not_own00 Try.underlying22 Try.underlying5 (by kernel_rfl) (hval 1 22 v1 rfl rfl) h1
  obtain ⟨x2, e2⟩ := den_bytes not_own00 Try.underlying22 Try.underlying5 (by kernel_rfl) (hval 2 22 v2 rfl rfl) h2
  have hok : ((Try.S_law07_CtsExchanges 0 [.sl 1 x0.length (.b8s x0.length x0), .sl 1 x1.length (.b8s x1.length x1), .sl 1 x2.length (.b8s x2.length x2)]).Ok s00.blk ⟨.bool true, [], [], []⟩ []) = (((⟨.bool true, [], [], []⟩ : Eff) = ⟨.bool true, [], [], []⟩) ∧ ([] : List Nat) = []) := by kernel_rfl
  refine (law_call Try.cok_law07_CtsExchanges (fun _ _ h => by cases h) (vs := #[v0, v1, v2]) (sv := .bool true) (rd := []) (.cons e0 (.cons e1 (.cons e2 .nil))) (by rw [hok]; exact ⟨rfl, rfl⟩)).mono fun e W' ⟨v, he, ⟨own, ρ, lh, hv⟩, _, hk, hm⟩ => ?_
  subst he
  obtain rfl := den_true hv
  exact ⟨_, rfl, ⟨_, _, _, [], _, [], hW', trodAll_mk1 (shut_bool Try.underlying4 _), hargsK W' hk, rfl, kept_of hk hm _, fun h => by cases h⟩⟩
theorem lawCtsExchanges_holds : Rows.CtsExchangesSaid :=
  OpenClaim.holds_of_wide 5 Try.f5 rfl rfl rfl rfl rfl rfl rfl ⟨rfl, rfl, rfl, rfl, rfl⟩ rfl rfl rfl rfl rfl (by kernel_rfl) Try.func5 (by kernel_rfl)
    (of_decide_eq_true (by kernel_rfl)) (by unfold Func.isWrapper; first | (rw [if_pos (by decide +kernel)]; kernel_rfl) | (rw [if_neg (by decide +kernel)]; exact ⟨rfl, rfl⟩))
    (fun os started H enc _ => lawCtsExchanges_lifted os started H enc)
#print axioms lawCtsExchanges_holds
end Go.Proofs.Ytjbnpbnfkgmkoaa
