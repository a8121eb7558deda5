/- For every input the law CtsTexts of the program answers true, and its arguments read behind the call as they read before; no condition. -/
import Derived.Test.YtjbnpbnfkgmkoaaDoorFCtsTexts3
import Derived.Test.YtjbnpbnfkgmkoaaDoorS6
import Derived.Test.YtjbnpbnfkgmkoaaDoorRows
import Derived.Test.YtjbnpbnfkgmkoaaDoorTie
import Derived.Test.YtjbnpbnfkgmkoaaDoorCards
import Derived.ProofKit
import Derived.OpenShut
import Derived.Stop.Joined
import Derived.SevenTiedAt
set_option linter.all false
namespace Go.Proofs.YtjbnpbnfkgmkoaaDoor
open Go Go.SE Go.ChangeShapes Go.WideShapes Go.ChangeAt Go.RowKit
set_option maxRecDepth 100000
set_option linter.unusedVariables false
theorem lawCtsTexts_own : ownKnob Tryd.prog.godebug = none := by kernel_rfl
theorem lawCtsTexts_laidOut : laidOutB Tryd.prog = true := by kernel_rfl
theorem lawCtsTexts_rowed : mapsRowed Tryd.prog = true := by kernel_rfl
theorem lawCtsTexts_sized {t e : TypeId} (ht : t < Tryd.prog.types.size) (hu : Tryd.prog.underlying t = some (.slice e)) : 0 < Tryd.prog.cellsOf e := by
  have hall : ((List.range Tryd.prog.types.size).all fun t => match Tryd.prog.underlying t with
    | some (.slice e) => decide (0 < Tryd.prog.cellsOf e)
    | _ => true) = true := by kernel_rfl
  have := List.all_eq_true.1 hall t (List.mem_range.2 ht)
  rw [hu] at this
  exact of_decide_eq_true this
theorem lawCtsTexts_met (os : Os) (args : Array Value) : laidMetH Tryd.prog [("watchword/watchwordref06.substitutes", Rows.laid_watchword_watchwordref06_substitutes)] ((World.doorLaid Tryd.prog 400 os).forCall (fun _ _ => 0) ⟨#[], args, []⟩).memory :=
  laidMetH_of_parts (laidMet_of_run' 8 (by kernel_rfl) (by kernel_rfl)) (by kernel_rfl)
theorem lawCtsTexts_vars {W : World} (h : laidMetH Tryd.prog [("watchword/watchwordref06.substitutes", Rows.laid_watchword_watchwordref06_substitutes)] W) : ∀ g sv, (g, sv) ∈ Tryd.Gl_law07_CtsTexts → Den0 W own00 sv (.pointer (some ⟨g, 0, none⟩)) := by
  rw [MakeChecks.laidMetH_plain _ _ _ (by kernel_rfl)] at h
  obtain ⟨ps, ⟨g0, t0, cs0, f0, p0, q0, hg0, ht0, hv0, hd0, _, _⟩, _, _⟩ := h
  obtain rfl := Option.some.inj ((show Tryd.prog.globalNamed "watchword/watchwordref06.substitutes" = some 0 by kernel_rfl).symm.trans hg0)
  obtain ⟨tt0, fr0, hb0⟩ := var?_heap hg0 hv0
  obtain rfl := Option.some.inj ((show (Tryd.prog.globals[0]?).map (·.type) = some 70 by kernel_rfl).symm.trans ht0)
  have hc0 : cs0.toList = sbox.map v8 := by
    have := ints_of_array (zs := sbox.map fun x => (x.toNat : Int)) (k := .u8) (n := 256) (e := 5) (by kernel_rfl) (by kernel_rfl) (by kernel_rfl) (by kernel_rfl) (show DataW.trod _ Tryd.prog W _ _ _ _ _ cs0.toList = some (.agg ((sbox.map fun x => (x.toNat : Int)).map fun z => .lit (.int .u8 z)), p0) from hd0.trans (by kernel_rfl))
    rw [this, List.map_map]; rfl
  intro g sv hm
  simp only [Tryd.Gl_law07_CtsTexts, List.mem_cons, List.not_mem_nil, or_false, Prod.mk.injEq] at hm
  obtain ⟨rfl, rfl⟩ := hm
  exact den_b8var not_own00 hb0 (by rfl) hc0
theorem lawCtsTexts_lifted (os : Os) (started : os.Started) (H : Type) (enc : TypeId × Value → H) :
    ReturnsInHanded {} Tryd.checked os 11 .any (fun w args => (Rows.ctsTextsSpec.pre enc Tryd.prog Tryd.f11 [] false w args ∧ laidMetH Tryd.prog [("watchword/watchwordref06.substitutes", Rows.laid_watchword_watchwordref06_substitutes)] w) ∧ sizedMet enc Tryd.prog Tryd.f11 (OpenSpec.ofChange Rows.ctsTextsSpec) false w args)
      (Rows.ctsTextsSpec.post enc Tryd.prog Tryd.f11 false true false false) := by
  refine returnsInHanded_of_change_and (C := Tryd.checked) (X := fun w _ => laidMetH Tryd.prog [("watchword/watchwordref06.substitutes", Rows.laid_watchword_watchwordref06_substitutes)] w) (fun _ _ _ hh h => h.of_heap hh) lawCtsTexts_own started (by kernel_rfl) Tryd.func11
    (ChangeSpec.witness_shaped (enc := enc) (C := Tryd.checked) (os := os) (X := fun w _ => laidMetH Tryd.prog [("watchword/watchwordref06.substitutes", Rows.laid_watchword_watchwordref06_substitutes)] w) false (World.doorLaid Tryd.prog 400 os) #[.slice none 0 0, .slice none 0 0, .slice none 0 0] 8 rfl (World.shaped_of_RefB (by kernel_rfl) (by kernel_rfl)) (by kernel_rfl) (by kernel_rfl) (by kernel_rfl) (lawCtsTexts_met os _)) ?_
  intro W base args ds gs before hval0 hW _ _ hL _
  have hval : ∀ (j : Nat) t v, Tryd.f11.params[j]? = some t → args[j]? = some v → Value.okWide Tryd.prog W .any base t v := hval0
  have hW' := hW
  obtain ⟨p, q, hA0, hV, rfl, _, _⟩ := hW
  have hA : DataW.TrodAll enc Tryd.prog W 0 (fun _ => true) true Tryd.f11.params.toList args.toList ds p := hA0
  have hlt : ∀ x ∈ p, x.block < W.heap.size := fun x hx => by simpa using hW'.lt x (List.mem_append_left _ hx)
  have hargsK := fun (W' : World) (hk : Kept W W') => trodAll_kept (W' := W') lawCtsTexts_laidOut lawCtsTexts_rowed lawCtsTexts_sized (of_decide_eq_true (by kernel_rfl)) hA hk hlt
  rw [Tryd.params11] at hA hval
  obtain ⟨v0, vs0, d0, ds0, p0, q0, hargs, rfl, rfl, h0, r0⟩ := trodAll_cons hA
  obtain ⟨v1, vs1, d1, ds1, p1, q1, rfl, rfl, rfl, h1, r1⟩ := trodAll_cons r0
  obtain ⟨v2, vs2, d2, ds2, p2, q2, rfl, rfl, rfl, h2, r2⟩ := trodAll_cons r1
  obtain ⟨rfl, rfl, rfl⟩ := trodAll_nil r2
  obtain rfl : args = #[v0, v1, v2] := by
    apply Array.ext'
    exact hargs
  obtain ⟨rfl, rfl⟩ := trodVars_none hV
  obtain ⟨x0, e0⟩ := den_bytes not_own00 Tryd.underlying22 Tryd.underlying5 (by kernel_rfl) (hval 0 22 v0 rfl rfl) h0
  obtain ⟨x1, e1⟩ := den_bytes not_own00 Tryd.underlying22 Tryd.underlying5 (by kernel_rfl) (hval 1 22 v1 rfl rfl) h1
  obtain ⟨x2, e2⟩ := den_bytes not_own00 Tryd.underlying22 Tryd.underlying5 (by kernel_rfl) (hval 2 22 v2 rfl rfl) h2
  have hok : ((Tryd.S_law07_CtsTexts 0 [.sl 1 x0.length (.b8s x0.length x0), .sl 1 x1.length (.b8s x1.length x1), .sl 1 x2.length (.b8s x2.length x2)]).Ok s00.blk ⟨.bool true, [], [], []⟩ []) = (((⟨.bool true, [], [], []⟩ : Eff) = ⟨.bool true, [], [], []⟩) ∧ ([] : List Nat) = []) := by kernel_rfl
  refine (law_call Tryd.cok_law07_CtsTexts (lawCtsTexts_vars hL) (vs := #[v0, v1, v2]) (sv := .bool true) (rd := []) (.cons e0 (.cons e1 (.cons e2 .nil))) (by rw [hok]; exact ⟨rfl, rfl⟩)).mono fun e W' ⟨v, he, ⟨own, ρ, lh, hv⟩, _, hk, hm⟩ => ?_
  subst he
  obtain rfl := den_true hv
  exact ⟨_, rfl, ⟨_, _, _, [], _, [], hW', trodAll_mk1 (shut_bool Tryd.underlying4 _), hargsK W' hk, rfl, kept_of hk hm _, fun h => by cases h⟩⟩
theorem lawCtsTexts_holds : Rows.CtsTextsSaid :=
  OpenClaim.holds_of_wide 11 Tryd.f11 rfl rfl rfl rfl rfl rfl rfl ⟨rfl, rfl, rfl, rfl, rfl⟩ rfl rfl rfl rfl rfl (by kernel_rfl) Tryd.func11 (by kernel_rfl)
    (of_decide_eq_true (by kernel_rfl)) (by unfold Func.isWrapper; first | (rw [if_pos (by decide +kernel)]; kernel_rfl) | (rw [if_neg (by decide +kernel)]; exact ⟨rfl, rfl⟩))
    (fun os started H enc _ => lawCtsTexts_lifted os started H enc)
theorem lawCtsTexts_card : Rows.CtsTextsCardSaid :=
  Claim7.holds_tied_plain_at .later [] [.data] true (true, "16ce78daa0961ec664670db8e2f1363ee5fd5dd4ac313eb7bdf8da11aab23067") false
    lawCtsTexts_holds (fun _ h => by cases h) (by kernel_rfl) (fun _ h => by cases h) ctsTexts_row_tie rfl ⟨rfl, rfl⟩ (by kernel_rfl) rfl
    (fun f fn hf hfn => by
      obtain rfl : f = 11 := Option.some.inj ((show Tryd.prog.funcNamed "watchword/watchwordlaw07.CtsTexts" = some 11 by kernel_rfl).symm.trans hf) |>.symm
      obtain rfl : fn = Tryd.f11 := (Option.some.inj (Tryd.func11.symm.trans hfn)).symm
      exact ⟨by kernel_rfl, fun j t ht => by
        rw [Tryd.params11] at ht
        have hm : t ∈ [22, 22, 22] := by simpa using Array.mem_of_getElem? ht
        have hall : ([22, 22, 22].all fun u => !Tryd.prog.wantsStandIn u) = true := by kernel_rfl
        exact (show Tryd.prog.wantsStandIn t = false by simpa using List.all_eq_true.1 hall t hm)⟩)
    (by kernel_rfl)
#print axioms lawCtsTexts_card
end Go.Proofs.YtjbnpbnfkgmkoaaDoor
