/-
  THE ROW of speculum/speculumlaw11.RegexMatches, and its tied card: whatever the input: true; the input reads as it did.
-/
import Derived.Test.YtkkflfmonidepaaDoorW13
import Derived.Test.YtkkflfmonidepaaDoorTie
import Derived.Test.YtkkflfmonidepaaDoorCards
import Derived.SevenTiedAt
namespace Go.Proofs.YtkkflfmonidepaaDoor
open Sp Go.ChangeShapes Go.WideShapes Go.ChangeAt Go.WideMaps Go.WideElems Go.RowKit
set_option maxRecDepth 100000
set_option maxHeartbeats 4000000
theorem regexMatches_lifted (os : Os) (started : os.Started) (H : Type) (enc : TypeId × Value → H) :
    ReturnsInHanded {} Tryd.checked os 3 .any (fun w args => (Rows.regexMatchesSpec.pre enc Tryd.prog Tryd.f3 [] false w args ∧ laidMetH Tryd.prog Rows.regexMatchesRow.laid w) ∧ sizedMet enc Tryd.prog Tryd.f3 (OpenSpec.ofChange Rows.regexMatchesSpec) false w args)
      (Rows.regexMatchesSpec.post enc Tryd.prog Tryd.f3 false true false false) := by
  refine returnsInHanded_of_change_and (C := Tryd.checked) (X := fun w _ => laidMetH Tryd.prog Rows.regexMatchesRow.laid w) (fun _ _ _ hh h => h.of_heap hh) rowOwn started (by kernel_rfl) Tryd.func3
    (ChangeSpec.witness_shaped (enc := enc) (C := Tryd.checked) (os := os) (X := fun w _ => laidMetH Tryd.prog Rows.regexMatchesRow.laid w) false (World.doorLaid Tryd.prog 400 os) #[.string ⟨#[]⟩, .slice none 0 0] 8 rfl (World.shaped_of_RefB (by kernel_rfl) (by kernel_rfl)) (by kernel_rfl) (by kernel_rfl) (by kernel_rfl) (doorMet os _)) ?_
  intro W base args ds gs before hval0 hW _ _ hL _
  have hval : ∀ (j : Nat) t v, Tryd.f3.params[j]? = some t → args[j]? = some v → Value.okWide Tryd.prog W .any base t v := hval0
  have hW' := hW
  obtain ⟨p, q, hA0, hV, rfl, hfz, hnd⟩ := hW
  have hA : DataW.TrodAll enc Tryd.prog W 0 (fun _ => true) true Tryd.f3.params.toList args.toList ds p := hA0
  rw [Tryd.params3] at hA hval
  obtain ⟨v0, v1, d0, d1, p0, p1, rfl, rfl, rfl, h0, h1⟩ := trodAll_two hA
  have hG := globOf hL
  obtain ⟨x0, rfl, o0⟩ := Opn.argT Tryd.underlying9 (hval 0 9 v0 rfl rfl) h0
  obtain ⟨x1, r1, o1⟩ := Opn.argS (Opn.slice Tryd.underlying22 (r := tInt' .u32) (by kernel_rfl) rfl (Opn.int Tryd.underlying38)) Tryd.underlying22 (hval 1 22 v1 rfl rfl) h1
  obtain ⟨k, hk⟩ := matches_law x0 x1 o0 o1
  refine (speculumlaw11_RegexMatches.ok k hG (own0 W) r1 hk).mono ?_
  rintro e W' ⟨_, rfl, rfl, S⟩
  exact ⟨_, rfl, law_post rowLaidOut (by kernel_rfl) rfl Tryd.underlying4 rfl rfl hW' (below0 S)⟩
theorem regexMatches_holds : Rows.RegexMatchesSaid :=
  OpenClaim.holds_of_wide 3 Tryd.f3 rfl rfl rfl rfl rfl rfl rfl ⟨rfl, rfl, rfl, rfl, rfl⟩ rfl rfl rfl rfl rfl (by kernel_rfl) Tryd.func3 (by kernel_rfl)
    (of_decide_eq_true (by kernel_rfl)) (by unfold Func.isWrapper; first | (rw [if_pos (by decide +kernel)]; kernel_rfl) | (rw [if_neg (by decide +kernel)]; exact ⟨rfl, rfl⟩))
    (fun os started H enc _ => regexMatches_lifted os started H enc)
theorem regexMatches_card_holds : Rows.RegexMatchesCardSaid :=
  Claim7.holds_tied_plain_at .later [] [.data] true (true, "eca0dbbec6db19d8e9273568d66a13f1ab9c8f2b38c82a0bff42692ce9cb73ff") false
    regexMatches_holds (fun _ h => by cases h) (by kernel_rfl) (fun _ h => by cases h) regexMatches_row_tie rfl ⟨rfl, rfl⟩ (by kernel_rfl) rfl
    (fun f fn hf hfn => by
      obtain rfl : f = 3 := Option.some.inj ((show Tryd.prog.funcNamed "speculum/speculumlaw11.RegexMatches" = some 3 by kernel_rfl).symm.trans hf) |>.symm
      obtain rfl : fn = Tryd.f3 := (Option.some.inj (Tryd.func3.symm.trans hfn)).symm
      exact ⟨by kernel_rfl, fun j t ht => by
        rw [Tryd.params3] at ht
        have hm : t ∈ [9, 22] := by simpa using Array.mem_of_getElem? ht
        have hall : ([9, 22].all fun u => !Tryd.prog.wantsStandIn u) = true := by kernel_rfl
        exact (show Tryd.prog.wantsStandIn t = false by simpa using List.all_eq_true.1 hall t hm)⟩)
    (by kernel_rfl)
#print axioms regexMatches_card_holds
end Go.Proofs.YtkkflfmonidepaaDoor
