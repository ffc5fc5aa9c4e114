/- The statement on paths, for every input: the law RollPaths answers true; its card (the listed variables start as the program's text lays them). -/
import Derived.Test.YtfeohgeipcjbnaaDoorA4
import Derived.SevenTiedAt
set_option autoImplicit false
set_option maxRecDepth 100000
namespace GoX
open Go Go.Proofs

theorem rollPaths_sim (us : List V) (h : FitAs Tryd.prog ety1 Tryd.f3.params.toList us) : Sim Tryd.prog 3 us [] [] (.val (.b true)) [] := by
  rw [Tryd.params3] at h
  obtain ⟨v0, us, rfl, h0, h⟩ := h.uncons
  obtain ⟨v1, us, rfl, h1, h⟩ := h.uncons
  obtain rfl := h.done
  obtain ⟨x0, rfl⟩ := fit_roll h0
  obtain ⟨x1, rfl⟩ := fit_changes h1
  rw [← S_P]
  exact c3 x0 x1

theorem rollPaths_lifted (os : Os) (started : os.Started) (H : Type) (en : TypeId × Value → H) :
    ReturnsInHanded {} Tryd.checked os 3 .any (fun w args => (YtfeohgeipcjbnaaDoor.Rows.rollPathsSpec.pre en Tryd.prog Tryd.f3 [] false w args ∧ laidMetH Tryd.prog laidR w) ∧ sizedMet en Tryd.prog Tryd.f3 (OpenSpec.ofChange YtfeohgeipcjbnaaDoor.Rows.rollPathsSpec) false w args)
      (YtfeohgeipcjbnaaDoor.Rows.rollPathsSpec.post en Tryd.prog Tryd.f3 false true false false) := by
  refine returnsInHanded_of_change_and (C := Tryd.checked) (X := fun w _ => laidMetH Tryd.prog laidR w) (fun _ _ _ hh h => h.of_heap hh) own1 started (by kernel_rfl) Tryd.func3
    (ChangeSpec.witness_shaped (enc := en) (C := Tryd.checked) (os := os) (X := fun w _ => laidMetH Tryd.prog laidR w) false (World.doorLaid Tryd.prog 100000 os) #[.agg #[.int .i64 0, .int .u16 3], .slice none 0 0] 8 rfl (World.shaped_of_RefB (by kernel_rfl) (by kernel_rfl)) (by kernel_rfl) (by kernel_rfl) (by kernel_rfl) (door_met os _)) ?_
  intro W base args ds gs before hval hW _ _ hL _
  exact law_post (ety := ety1) (tb := 4) Tryd.func3 (by kernel_rfl) (by kernel_rfl) rfl (fun ds h => by
      rw [Tryd.params3] at h
      match ds, h with
      | [d0, d1], _ => rfl) (by kernel_rfl) Tryd.underlying4 laid1 (by rw [Tryd.params3]; intro t ht; simp only [List.mem_cons, List.not_mem_nil, or_false] at ht; rcases ht with rfl | rfl <;> exact ⟨by kernel_rfl, of_decide_eq_true (by kernel_rfl)⟩) (by kernel_rfl) rollPaths_sim hval hW (glob_of hL)

theorem rollPaths_said : YtfeohgeipcjbnaaDoor.Rows.RollPathsSaid :=
  OpenClaim.holds_of_wide 3 Tryd.f3 rfl rfl rfl rfl rfl rfl rfl ⟨rfl, rfl, rfl, rfl, rfl⟩ rfl rfl rfl rfl rfl (by kernel_rfl) Tryd.func3 (by kernel_rfl)
    (of_decide_eq_true (by kernel_rfl)) (by unfold Func.isWrapper; first | (rw [if_pos (by decide +kernel)]; kernel_rfl) | (rw [if_neg (by decide +kernel)]; exact ⟨rfl, rfl⟩))
    (fun os started H enc _ => rollPaths_lifted os started H enc)
end GoX
namespace Go.Proofs.YtfeohgeipcjbnaaDoor
open Go
theorem rollPaths_card : Rows.RollPathsCardSaid :=
  Claim7.holds_tied_plain_at .later [] [.data, .data, .data, .sentinel, .sentinel] true (true, "1cca813f63087f3d2755cbae163cc0456ce7eca6dd67bb78d8be2c8e78c11e76") true
    GoX.rollPaths_said (fun _ h => by cases h) (by kernel_rfl) (fun _ h => by cases h) rollPaths_row_tie rfl ⟨rfl, rfl⟩ (by kernel_rfl) rfl
    (fun f fn hf hfn => by
      obtain rfl : f = 3 := Option.some.inj ((show Tryd.prog.funcNamed "chantry/chantrylaw11.RollPaths" = some 3 by kernel_rfl).symm.trans hf) |>.symm
      obtain rfl : fn = Tryd.f3 := (Option.some.inj (Tryd.func3.symm.trans hfn)).symm
      exact ⟨by kernel_rfl, fun j t ht => by
        rw [Tryd.params3] at ht
        have h3 : t = 25 ∨ t = 26 := by
          rcases j with _ | _ | j
          · left; simpa using ht.symm
          · right; simpa using ht.symm
          · simp at ht
        rcases h3 with rfl | rfl
        · exact (show Tryd.prog.wantsStandIn 25 = false by kernel_rfl)
        · exact (show Tryd.prog.wantsStandIn 26 = false by kernel_rfl)⟩)
    (by kernel_rfl)
#print axioms rollPaths_card
end Go.Proofs.YtfeohgeipcjbnaaDoor
