/-
  THE ROW of speculum/speculumlaw11.RegexNobody, and its tied card: whatever the input: true; the input reads as it did.
-/
import Derived.Test.YtkkflfmonidepaaDoorLaw0
import Derived.Test.YtkkflfmonidepaaDoorNobodyLaw
import Derived.Test.YtkkflfmonidepaaDoorTie
import Derived.Test.YtkkflfmonidepaaDoorCards
import Derived.SevenTiedAt
namespace Go.Proofs.YtkkflfmonidepaaDoor
open Sp Go.ChangeShapes Go.WideShapes Go.ChangeAt Go.WideMaps Go.WideElems Go.RowKit
set_option maxRecDepth 100000
set_option maxHeartbeats 4000000
theorem regexNobody_lifted (os : Os) (started : os.Started) (H : Type) (enc : TypeId × Value → H) :
    ReturnsInHanded {} Tryd.checked os 6 .any (fun w args => (Rows.regexNobodySpec.pre enc Tryd.prog Tryd.f6 [] false w args ∧ laidMetH Tryd.prog Rows.regexNobodyRow.laid w) ∧ sizedMet enc Tryd.prog Tryd.f6 (OpenSpec.ofChange Rows.regexNobodySpec) false w args)
      (Rows.regexNobodySpec.post enc Tryd.prog Tryd.f6 false true false false) := by
  refine returnsInHanded_of_change_and (C := Tryd.checked) (X := fun w _ => laidMetH Tryd.prog Rows.regexNobodyRow.laid w) (fun _ _ _ hh h => h.of_heap hh) rowOwn started (by kernel_rfl) Tryd.func6
    (ChangeSpec.witness_shaped (enc := enc) (C := Tryd.checked) (os := os) (X := fun w _ => laidMetH Tryd.prog Rows.regexNobodyRow.laid w) false (World.doorLaid Tryd.prog 400 os) #[.slice none 0 0] 8 rfl (World.shaped_of_RefB (by kernel_rfl) (by kernel_rfl)) (by kernel_rfl) (by kernel_rfl) (by kernel_rfl) (doorMet os _)) ?_
  intro W base args ds gs before hval0 hW _ _ hL _
  have hval : ∀ (j : Nat) t v, Tryd.f6.params[j]? = some t → args[j]? = some v → Value.okWide Tryd.prog W .any base t v := hval0
  have hW' := hW
  obtain ⟨p, q, hA0, hV, rfl, hfz, hnd⟩ := hW
  have hA : DataW.TrodAll enc Tryd.prog W 0 (fun _ => true) true Tryd.f6.params.toList args.toList ds p := hA0
  rw [Tryd.params6] at hA hval
  obtain ⟨v0, d0, rfl, rfl, h0⟩ := trodAll_one hA
  have hG := globOf hL
  obtain ⟨x0, r0, o0⟩ := Opn.argS (Opn.slice Tryd.underlying22 (r := tInt' .u32) (by kernel_rfl) rfl (Opn.int Tryd.underlying38)) Tryd.underlying22 (hval 0 22 v0 rfl rfl) h0
  obtain ⟨k, hk⟩ := nobody_law x0 o0
  refine (speculumlaw11_RegexNobody.ok k hG (own0 W) r0 hk).mono ?_
  rintro e W' ⟨_, rfl, rfl, S⟩
  exact ⟨_, rfl, law_post rowLaidOut (by kernel_rfl) rfl Tryd.underlying4 rfl rfl hW' (below0 S)⟩
theorem regexNobody_holds : Rows.RegexNobodySaid :=
  OpenClaim.holds_of_wide 6 Tryd.f6 rfl rfl rfl rfl rfl rfl rfl ⟨rfl, rfl, rfl, rfl, rfl⟩ rfl rfl rfl rfl rfl (by kernel_rfl) Tryd.func6 (by kernel_rfl)
    (of_decide_eq_true (by kernel_rfl)) (by unfold Func.isWrapper; first | (rw [if_pos (by decide +kernel)]; kernel_rfl) | (rw [if_neg (by decide +kernel)]; exact ⟨rfl, rfl⟩))
    (fun os started H enc _ => regexNobody_lifted os started H enc)
theorem regexNobody_card_holds : Rows.RegexNobodyCardSaid :=
  Claim7.holds_tied_plain_at .later [] [.data] true (true, "eca0dbbec6db19d8e9273568d66a13f1ab9c8f2b38c82a0bff42692ce9cb73ff") false
    regexNobody_holds (fun _ h => by cases h) (by kernel_rfl) (fun _ h => by cases h) regexNobody_row_tie rfl ⟨rfl, rfl⟩ (by kernel_rfl) rfl
    (fun f fn hf hfn => by
      obtain rfl : f = 6 := Option.some.inj ((show Tryd.prog.funcNamed "speculum/speculumlaw11.RegexNobody" = some 6 by kernel_rfl).symm.trans hf) |>.symm
      obtain rfl : fn = Tryd.f6 := (Option.some.inj (Tryd.func6.symm.trans hfn)).symm
      exact ⟨by kernel_rfl, fun j t ht => by
        rw [Tryd.params6] at ht
        have hm : t ∈ [22] := by simpa using Array.mem_of_getElem? ht
        have hall : ([22].all fun u => !Tryd.prog.wantsStandIn u) = true := by kernel_rfl
        exact (show Tryd.prog.wantsStandIn t = false by simpa using List.all_eq_true.1 hall t hm)⟩)
    (by kernel_rfl)
#print axioms regexNobody_card_holds
end Go.Proofs.YtkkflfmonidepaaDoor
