/-
  THE ROW of speculum/speculumlaw14.PolicyRight, and its tied card: whatever the input: true; the input reads as it did.
-/
import Derived.Test.YtafnenafbognkaaGreatDoorW14
import Derived.Test.YtafnenafbognkaaGreatDoorTie
import Derived.Test.YtafnenafbognkaaGreatDoorCards
import Derived.SevenTiedAt
namespace Go.Proofs.YtafnenafbognkaaGreatDoor
open Sp Go.ChangeShapes Go.WideShapes Go.ChangeAt Go.WideMaps Go.WideElems Go.RowKit
set_option maxRecDepth 100000
set_option maxHeartbeats 4000000
theorem policyRight_lifted (os : Os) (started : os.Started) (H : Type) (enc : TypeId × Value → H) :
    ReturnsInHanded {} Tryz.checked os 3 .any (fun w args => (Rows.policyRightSpec.pre enc Tryz.prog Tryz.f3 [] false w args ∧ laidMetH Tryz.prog Rows.policyRightRow.laid w) ∧ sizedMet enc Tryz.prog Tryz.f3 (OpenSpec.ofChange Rows.policyRightSpec) false w args)
      (Rows.policyRightSpec.post enc Tryz.prog Tryz.f3 false true false false) := by
  refine returnsInHanded_of_change_and (C := Tryz.checked) (X := fun w _ => laidMetH Tryz.prog Rows.policyRightRow.laid w) (fun _ _ _ hh h => h.of_heap hh) rowOwn started (by kernel_rfl) Tryz.func3
    (ChangeSpec.witness_shaped (enc := enc) (C := Tryz.checked) (os := os) (X := fun w _ => laidMetH Tryz.prog Rows.policyRightRow.laid w) false (World.doorLaid Tryz.prog 400 os) #[.slice none 0 0, .agg #[.int .i64 0, .bool false, .int .i64 0, .int .u32 0, .string ⟨#[]⟩, .slice none 0 0, .slice none 0 0], .agg #[.int .i64 0, .int .i64 0, .int .u32 0]] 8 rfl (World.shaped_of_RefB (by kernel_rfl) (by kernel_rfl)) (by kernel_rfl) (by kernel_rfl) (by kernel_rfl) (doorMet os _)) ?_
  intro W base args ds gs before hval0 hW _ _ hL _
  have hval : ∀ (j : Nat) t v, Tryz.f3.params[j]? = some t → args[j]? = some v → Value.okWide Tryz.prog W .any base t v := hval0
  have hW' := hW
  obtain ⟨p, q, hA0, hV, rfl, hfz, hnd⟩ := hW
  have hA : DataW.TrodAll enc Tryz.prog W 0 (fun _ => true) true Tryz.f3.params.toList args.toList ds p := hA0
  rw [Tryz.params3] at hA hval
  obtain ⟨v0, v1, v2, d0, d1, d2, p0, p1, p2, rfl, rfl, rfl, h0, h1, h2⟩ := trodAll_three hA
  have hG := globOf hL
  obtain ⟨x0, r0, o0⟩ := Opn.argS ((Opn.slice Tryz.underlying22 (r := R_api_Rule) (by kernel_rfl) rfl opn51)) Tryz.underlying22 (hval 0 22 v0 rfl rfl) h0
  obtain ⟨cs1, x1, rfl, r1, o1⟩ := Opn.argR opn27 Tryz.underlying27 (hval 1 27 v1 rfl rfl) h1
  obtain ⟨z1_5, z1_6, e1, s1_5, s1_6⟩ := r1
  have e1 : cs1.toList = [_, _, _, _, _, _, _] := e1
  have e1 := congrArg List.toArray e1
  rw [Array.toArray_toList] at e1
  subst e1
  obtain ⟨cs2, x2, rfl, r2, o2⟩ := Opn.argR opn29 Tryz.underlying29 (hval 2 29 v2 rfl rfl) h2
  have e2 := r2
  have e2 : cs2.toList = [_, _, _] := e2
  have e2 := congrArg List.toArray e2
  rw [Array.toArray_toList] at e2
  subst e2
  obtain ⟨k, hk⟩ := right_law x0 x1 x2 o0 o1 o2
  refine (speculumlaw14_PolicyRight.ok k hG (own0 W) r0 s1_5 s1_6 hk).mono ?_
  rintro e W' ⟨_, rfl, rfl, S⟩
  exact ⟨_, rfl, law_post rowLaidOut (by kernel_rfl) rfl Tryz.underlying4 rfl rfl hW' (below0 S)⟩
theorem policyRight_holds : Rows.PolicyRightSaid :=
  OpenClaim.holds_of_wide 3 Tryz.f3 rfl rfl rfl rfl rfl rfl rfl ⟨rfl, rfl, rfl, rfl, rfl⟩ rfl rfl rfl rfl rfl (by kernel_rfl) Tryz.func3 (by kernel_rfl)
    (of_decide_eq_true (by kernel_rfl)) (by unfold Func.isWrapper; first | (rw [if_pos (by decide +kernel)]; kernel_rfl) | (rw [if_neg (by decide +kernel)]; exact ⟨rfl, rfl⟩))
    (fun os started H enc _ => policyRight_lifted os started H enc)
theorem policyRight_card_holds : Rows.PolicyRightCardSaid :=
  Claim7.holds_tied_plain_at .later [] [.data] true (true, "269723ab6ddbc2ea19d73f886d79fb3cf57e8dbab20851490aa697f6bf9ff87a") false
    policyRight_holds (fun _ h => by cases h) (by kernel_rfl) (fun _ h => by cases h) policyRight_row_tie rfl ⟨rfl, rfl⟩ (by kernel_rfl) rfl
    (fun f fn hf hfn => by
      obtain rfl : f = 3 := Option.some.inj ((show Tryz.prog.funcNamed "speculum/speculumlaw14.PolicyRight" = some 3 by kernel_rfl).symm.trans hf) |>.symm
      obtain rfl : fn = Tryz.f3 := (Option.some.inj (Tryz.func3.symm.trans hfn)).symm
      exact ⟨by kernel_rfl, fun j t ht => by
        rw [Tryz.params3] at ht
        have hm : t ∈ [22, 27, 29] := by simpa using Array.mem_of_getElem? ht
        have hall : ([22, 27, 29].all fun u => !Tryz.prog.wantsStandIn u) = true := by kernel_rfl
        exact (show Tryz.prog.wantsStandIn t = false by simpa using List.all_eq_true.1 hall t hm)⟩)
    (by kernel_rfl)
#print axioms policyRight_card_holds
end Go.Proofs.YtafnenafbognkaaGreatDoor
