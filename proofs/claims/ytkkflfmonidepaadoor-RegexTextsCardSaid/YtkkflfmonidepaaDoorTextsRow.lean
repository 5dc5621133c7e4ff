/-
  THE ROW of speculum/speculumlaw11.RegexTexts, and its tied card: whatever the input: true; the input reads as it did.
-/
import Derived.Test.YtkkflfmonidepaaDoorLaw0
import Derived.Test.YtkkflfmonidepaaDoorTextsLaw
import Derived.Test.YtkkflfmonidepaaDoorTie
import Derived.Test.YtkkflfmonidepaaDoorCards
import Derived.SevenTiedAt
namespace Go.Proofs.YtkkflfmonidepaaDoor
open Sp Go.ChangeShapes Go.WideShapes Go.ChangeAt Go.WideMaps Go.WideElems Go.RowKit
set_option maxRecDepth 100000
set_option maxHeartbeats 4000000
theorem regexTexts_lifted (os : Os) (started : os.Started) (H : Type) (enc : TypeId × Value → H) :
    ReturnsInHanded {} Tryd.checked os 5 .any (fun w args => (Rows.regexTextsSpec.pre enc Tryd.prog Tryd.f5 [] false w args ∧ laidMetH Tryd.prog Rows.regexTextsRow.laid w) ∧ sizedMet enc Tryd.prog Tryd.f5 (OpenSpec.ofChange Rows.regexTextsSpec) false w args)
      (Rows.regexTextsSpec.post enc Tryd.prog Tryd.f5 false true false false) := by
  refine returnsInHanded_of_change_and (C := Tryd.checked) (X := fun w _ => laidMetH Tryd.prog Rows.regexTextsRow.laid w) (fun _ _ _ hh h => h.of_heap hh) rowOwn started (by kernel_rfl) Tryd.func5
    (ChangeSpec.witness_shaped (enc := enc) (C := Tryd.checked) (os := os) (X := fun w _ => laidMetH Tryd.prog Rows.regexTextsRow.laid w) false (World.doorLaid Tryd.prog 400 os) #[.string ⟨#[]⟩, .slice none 0 0] 8 rfl (World.shaped_of_RefB (by kernel_rfl) (by kernel_rfl)) (by kernel_rfl) (by kernel_rfl) (by kernel_rfl) (doorMet os _)) ?_
  intro W base args ds gs before hval0 hW _ _ hL _
  have hval : ∀ (j : Nat) t v, Tryd.f5.params[j]? = some t → args[j]? = some v → Value.okWide Tryd.prog W .any base t v := hval0
  have hW' := hW
  obtain ⟨p, q, hA0, hV, rfl, hfz, hnd⟩ := hW
  have hA : DataW.TrodAll enc Tryd.prog W 0 (fun _ => true) true Tryd.f5.params.toList args.toList ds p := hA0
  rw [Tryd.params5] at hA hval
  obtain ⟨v0, v1, d0, d1, p0, p1, rfl, rfl, rfl, h0, h1⟩ := trodAll_two hA
  have hG := globOf hL
  obtain ⟨x0, rfl, o0⟩ := Opn.argT Tryd.underlying9 (hval 0 9 v0 rfl rfl) h0
  obtain ⟨x1, r1, o1⟩ := Opn.argS (Opn.slice Tryd.underlying22 (r := tInt' .u32) (by kernel_rfl) rfl (Opn.int Tryd.underlying38)) Tryd.underlying22 (hval 1 22 v1 rfl rfl) h1
  obtain ⟨k, hk⟩ := texts_law x0 x1 o0 o1
  refine (speculumlaw11_RegexTexts.ok k hG (own0 W) r1 hk).mono ?_
  rintro e W' ⟨_, rfl, rfl, S⟩
  exact ⟨_, rfl, law_post rowLaidOut (by kernel_rfl) rfl Tryd.underlying4 rfl rfl hW' (below0 S)⟩
theorem regexTexts_holds : Rows.RegexTextsSaid :=
  OpenClaim.holds_of_wide 5 Tryd.f5 rfl rfl rfl rfl rfl rfl rfl ⟨rfl, rfl, rfl, rfl, rfl⟩ rfl rfl rfl rfl rfl (by kernel_rfl) Tryd.func5 (by kernel_rfl)
    (of_decide_eq_true (by kernel_rfl)) (by unfold Func.isWrapper; first | (rw [if_pos (by decide +kernel)]; kernel_rfl) | (rw [if_neg (by decide +kernel)]; exact ⟨rfl, rfl⟩))
    (fun os started H enc _ => regexTexts_lifted os started H enc)
theorem regexTexts_card_holds : Rows.RegexTextsCardSaid :=
  Claim7.holds_tied_plain_at .later [] [.data] true (true, "eca0dbbec6db19d8e9273568d66a13f1ab9c8f2b38c82a0bff42692ce9cb73ff") false
    regexTexts_holds (fun _ h => by cases h) (by kernel_rfl) (fun _ h => by cases h) regexTexts_row_tie rfl ⟨rfl, rfl⟩ (by kernel_rfl) rfl
    (fun f fn hf hfn => by
      obtain rfl : f = 5 := Option.some.inj ((show Tryd.prog.funcNamed "speculum/speculumlaw11.RegexTexts" = some 5 by kernel_rfl).symm.trans hf) |>.symm
      obtain rfl : fn = Tryd.f5 := (Option.some.inj (Tryd.func5.symm.trans hfn)).symm
      exact ⟨by kernel_rfl, fun j t ht => by
        rw [Tryd.params5] at ht
        have hm : t ∈ [9, 22] := by simpa using Array.mem_of_getElem? ht
        have hall : ([9, 22].all fun u => !Tryd.prog.wantsStandIn u) = true := by kernel_rfl
        exact (show Tryd.prog.wantsStandIn t = false by simpa using List.all_eq_true.1 hall t hm)⟩)
    (by kernel_rfl)
#print axioms regexTexts_card_holds
end Go.Proofs.YtkkflfmonidepaaDoor
