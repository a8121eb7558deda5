/- For every input the law ShaBlocks of the program answers true, and its arguments read behind the call as they read before; no condition. -/
import Derived.Test.YtjbnpbnfkgmkoaaDoorFShaBlocks1
import Derived.Test.YtjbnpbnfkgmkoaaDoorS6
import Derived.Test.YtjbnpbnfkgmkoaaDoorRows
import Derived.Test.YtjbnpbnfkgmkoaaDoorTie
import Derived.Test.YtjbnpbnfkgmkoaaDoorCards
import Derived.ProofKit
import Derived.OpenShut
import Derived.Stop.Joined
import Derived.SevenTiedAt
set_option linter.all false
namespace Go.Proofs.YtjbnpbnfkgmkoaaDoor
open Go Go.SE Go.ChangeShapes Go.WideShapes Go.ChangeAt Go.RowKit
set_option maxRecDepth 100000
set_option linter.unusedVariables false
theorem lawShaBlocks_own : ownKnob Tryd.prog.godebug = none := by kernel_rfl
theorem lawShaBlocks_laidOut : laidOutB Tryd.prog = true := by kernel_rfl
theorem lawShaBlocks_rowed : mapsRowed Tryd.prog = true := by kernel_rfl
theorem lawShaBlocks_sized {t e : TypeId} (ht : t < Tryd.prog.types.size) (hu : Tryd.prog.underlying t = some (.slice e)) : 0 < Tryd.prog.cellsOf e := by
  have hall : ((List.range Tryd.prog.types.size).all fun t => match Tryd.prog.underlying t with
    | some (.slice e) => decide (0 < Tryd.prog.cellsOf e)
    | _ => true) = true := by kernel_rfl
  have := List.all_eq_true.1 hall t (List.mem_range.2 ht)
  rw [hu] at this
  exact of_decide_eq_true this
theorem lawShaBlocks_met (os : Os) (args : Array Value) : laidMetH Tryd.prog [("watchword/sha.constants", Rows.laid_watchword_sha_constants)] ((World.doorLaid Tryd.prog 400 os).forCall (fun _ _ => 0) ⟨#[], args, []⟩).memory :=
  laidMetH_of_parts (laidMet_of_run' 8 (by kernel_rfl) (by kernel_rfl)) (by kernel_rfl)
theorem lawShaBlocks_vars {W : World} (h : laidMetH Tryd.prog [("watchword/sha.constants", Rows.laid_watchword_sha_constants)] W) : ∀ g sv, (g, sv) ∈ Tryd.Gl_law04_ShaBlocks → Den0 W own00 sv (.pointer (some ⟨g, 0, none⟩)) := by
  rw [MakeChecks.laidMetH_plain _ _ _ (by kernel_rfl)] at h
  obtain ⟨ps, ⟨g0, t0, cs0, f0, p0, q0, hg0, ht0, hv0, hd0, _, _⟩, _, _⟩ := h
  obtain rfl := Option.some.inj ((show Tryd.prog.globalNamed "watchword/sha.constants" = some 1 by kernel_rfl).symm.trans hg0)
  obtain ⟨tt0, fr0, hb0⟩ := var?_heap hg0 hv0
  obtain rfl := Option.some.inj ((show (Tryd.prog.globals[1]?).map (·.type) = some 92 by kernel_rfl).symm.trans ht0)
  have hc0 : cs0.toList = shaK.map v32 := by
    have := ints_of_array (zs := shaK.map fun x => (x.toNat : Int)) (k := .u32) (n := 64) (e := 42) (by kernel_rfl) (by kernel_rfl) (by kernel_rfl) (by kernel_rfl) (show DataW.trod _ Tryd.prog W _ _ _ _ _ cs0.toList = some (.agg ((shaK.map fun x => (x.toNat : Int)).map fun z => .lit (.int .u32 z)), p0) from hd0.trans (by kernel_rfl))
    rw [this, List.map_map]; rfl
  intro g sv hm
  simp only [Tryd.Gl_law04_ShaBlocks, List.mem_cons, List.not_mem_nil, or_false, Prod.mk.injEq] at hm
  obtain ⟨rfl, rfl⟩ := hm
  exact den_b32var not_own00 hb0 (by rfl) hc0
theorem lawShaBlocks_lifted (os : Os) (started : os.Started) (H : Type) (enc : TypeId × Value → H) :
    ReturnsInHanded {} Tryd.checked os 4 .any (fun w args => (Rows.shaBlocksSpec.pre enc Tryd.prog Tryd.f4 [] false w args ∧ laidMetH Tryd.prog [("watchword/sha.constants", Rows.laid_watchword_sha_constants)] w) ∧ sizedMet enc Tryd.prog Tryd.f4 (OpenSpec.ofChange Rows.shaBlocksSpec) false w args)
      (Rows.shaBlocksSpec.post enc Tryd.prog Tryd.f4 false true false false) := by
  refine returnsInHanded_of_change_and (C := Tryd.checked) (X := fun w _ => laidMetH Tryd.prog [("watchword/sha.constants", Rows.laid_watchword_sha_constants)] w) (fun _ _ _ hh h => h.of_heap hh) lawShaBlocks_own started (by kernel_rfl) Tryd.func4
    (ChangeSpec.witness_shaped (enc := enc) (C := Tryd.checked) (os := os) (X := fun w _ => laidMetH Tryd.prog [("watchword/sha.constants", Rows.laid_watchword_sha_constants)] w) false (World.doorLaid Tryd.prog 400 os) #[.slice none 0 0, .int .i64 0] 8 rfl (World.shaped_of_RefB (by kernel_rfl) (by kernel_rfl)) (by kernel_rfl) (by kernel_rfl) (by kernel_rfl) (lawShaBlocks_met os _)) ?_
  intro W base args ds gs before hval0 hW _ _ hL _
  have hval : ∀ (j : Nat) t v, Tryd.f4.params[j]? = some t → args[j]? = some v → Value.okWide Tryd.prog W .any base t v := hval0
  have hW' := hW
  obtain ⟨p, q, hA0, hV, rfl, _, _⟩ := hW
  have hA : DataW.TrodAll enc Tryd.prog W 0 (fun _ => true) true Tryd.f4.params.toList args.toList ds p := hA0
  have hlt : ∀ x ∈ p, x.block < W.heap.size := fun x hx => by simpa using hW'.lt x (List.mem_append_left _ hx)
  have hargsK := fun (W' : World) (hk : Kept W W') => trodAll_kept (W' := W') lawShaBlocks_laidOut lawShaBlocks_rowed lawShaBlocks_sized (of_decide_eq_true (by kernel_rfl)) hA hk hlt
  rw [Tryd.params4] at hA hval
  obtain ⟨v0, vs0, d0, ds0, p0, q0, hargs, rfl, rfl, h0, r0⟩ := trodAll_cons hA
  obtain ⟨v1, vs1, d1, ds1, p1, q1, rfl, rfl, rfl, h1, r1⟩ := trodAll_cons r0
  obtain ⟨rfl, rfl, rfl⟩ := trodAll_nil r1
  obtain rfl : args = #[v0, v1] := by
    apply Array.ext'
    exact hargs
  obtain ⟨rfl, rfl⟩ := trodVars_none hV
  obtain ⟨x0, e0⟩ := den_bytes not_own00 Tryd.underlying22 Tryd.underlying5 (by kernel_rfl) (hval 0 22 v0 rfl rfl) h0
  obtain ⟨x1, e1, hx1⟩ := den_i64 (W := W) (own := own00) Tryd.underlying3 (hval 1 3 v1 rfl rfl) h1
  have hok : ((Tryd.S_law04_ShaBlocks 0 [.sl 1 x0.length (.b8s x0.length x0), .int x1]).Ok s00.blk ⟨.bool true, [], [], []⟩ []) = (((⟨.bool true, [], [], []⟩ : Eff) = ⟨.bool true, [], [], []⟩) ∧ ([] : List Nat) = []) := by kernel_rfl
  refine (law_call Tryd.cok_law04_ShaBlocks (lawShaBlocks_vars hL) (vs := #[v0, v1]) (sv := .bool true) (rd := []) (.cons e0 (.cons e1 .nil)) (by rw [hok]; exact ⟨rfl, rfl⟩)).mono fun e W' ⟨v, he, ⟨own, ρ, lh, hv⟩, _, hk, hm⟩ => ?_
  subst he
  obtain rfl := den_true hv
  exact ⟨_, rfl, ⟨_, _, _, [], _, [], hW', trodAll_mk1 (shut_bool Tryd.underlying4 _), hargsK W' hk, rfl, kept_of hk hm _, fun h => by cases h⟩⟩
theorem lawShaBlocks_holds : Rows.ShaBlocksSaid :=
  OpenClaim.holds_of_wide 4 Tryd.f4 rfl rfl rfl rfl rfl rfl rfl ⟨rfl, rfl, rfl, rfl, rfl⟩ rfl rfl rfl rfl rfl (by kernel_rfl) Tryd.func4 (by kernel_rfl)
    (of_decide_eq_true (by kernel_rfl)) (by unfold Func.isWrapper; first | (rw [if_pos (by decide +kernel)]; kernel_rfl) | (rw [if_neg (by decide +kernel)]; exact ⟨rfl, rfl⟩))
    (fun os started H enc _ => lawShaBlocks_lifted os started H enc)
theorem lawShaBlocks_card : Rows.ShaBlocksCardSaid :=
  Claim7.holds_tied_plain_at .later [] [.data] true (true, "16ce78daa0961ec664670db8e2f1363ee5fd5dd4ac313eb7bdf8da11aab23067") false
    lawShaBlocks_holds (fun _ h => by cases h) (by kernel_rfl) (fun _ h => by cases h) shaBlocks_row_tie rfl ⟨rfl, rfl⟩ (by kernel_rfl) rfl
    (fun f fn hf hfn => by
      obtain rfl : f = 4 := Option.some.inj ((show Tryd.prog.funcNamed "watchword/watchwordlaw04.ShaBlocks" = some 4 by kernel_rfl).symm.trans hf) |>.symm
      obtain rfl : fn = Tryd.f4 := (Option.some.inj (Tryd.func4.symm.trans hfn)).symm
      exact ⟨by kernel_rfl, fun j t ht => by
        rw [Tryd.params4] at ht
        have hm : t ∈ [22, 3] := by simpa using Array.mem_of_getElem? ht
        have hall : ([22, 3].all fun u => !Tryd.prog.wantsStandIn u) = true := by kernel_rfl
        exact (show Tryd.prog.wantsStandIn t = false by simpa using List.all_eq_true.1 hall t hm)⟩)
    (by kernel_rfl)
#print axioms lawShaBlocks_card
end Go.Proofs.YtjbnpbnfkgmkoaaDoor
