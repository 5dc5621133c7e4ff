/-
  THE ROW of speculum/speculumlaw14.PolicyHolds, and its tied card: whatever the input: true; the input reads as it did.
-/
import Derived.Test.YtafnenafbognkaaGreatDoorW14
import Derived.Test.YtafnenafbognkaaGreatDoorTie
import Derived.Test.YtafnenafbognkaaGreatDoorCards
import Derived.SevenTiedAt
namespace Go.Proofs.YtafnenafbognkaaGreatDoor
open Sp Go.ChangeShapes Go.WideShapes Go.ChangeAt Go.WideMaps Go.WideElems Go.RowKit
set_option maxRecDepth 100000
set_option maxHeartbeats 4000000
theorem policyHolds_lifted (os : Os) (started : os.Started) (H : Type) (enc : TypeId × Value → H) :
    ReturnsInHanded {} Tryz.checked os 4 .any (fun w args => (Rows.policyHoldsSpec.pre enc Tryz.prog Tryz.f4 [] false w args ∧ laidMetH Tryz.prog Rows.policyHoldsRow.laid w) ∧ sizedMet enc Tryz.prog Tryz.f4 (OpenSpec.ofChange Rows.policyHoldsSpec) false w args)
      (Rows.policyHoldsSpec.post enc Tryz.prog Tryz.f4 false true false false) := by
  refine returnsInHanded_of_change_and (C := Tryz.checked) (X := fun w _ => laidMetH Tryz.prog Rows.policyHoldsRow.laid w) (fun _ _ _ hh h => h.of_heap hh) rowOwn started (by kernel_rfl) Tryz.func4
    (ChangeSpec.witness_shaped (enc := enc) (C := Tryz.checked) (os := os) (X := fun w _ => laidMetH Tryz.prog Rows.policyHoldsRow.laid w) false (World.doorLaid Tryz.prog 400 os) #[.agg #[.int .i64 0, .bool false, .int .i64 0, .int .u32 0, .string ⟨#[]⟩, .slice none 0 0, .slice none 0 0], .agg #[.int .u32 0, .int .i64 0], .agg #[.int .i64 0, .slice none 0 0, .int .u32 0, .int .i64 0, .int .i64 0, .bool false, .bool false, .int .u32 0, .int .u32 0, .slice none 0 0, .slice none 0 0]] 8 rfl (World.shaped_of_RefB (by kernel_rfl) (by kernel_rfl)) (by kernel_rfl) (by kernel_rfl) (by kernel_rfl) (doorMet os _)) ?_
  intro W base args ds gs before hval0 hW _ hz hL _
  have hval : ∀ (j : Nat) t v, Tryz.f4.params[j]? = some t → args[j]? = some v → Value.okWide Tryz.prog W .any base t v := hval0
  have hW' := hW
  obtain ⟨p, q, hA0, hV, rfl, hfz, hnd⟩ := hW
  have hA : DataW.TrodAll enc Tryz.prog W 0 (fun _ => true) true Tryz.f4.params.toList args.toList ds p := hA0
  rw [Tryz.params4] at hA hval hz
  obtain ⟨v0, v1, v2, d0, d1, d2, p0, p1, p2, rfl, rfl, rfl, h0, h1, h2⟩ := trodAll_three hA
  have hG := globOf hL
  obtain ⟨cs0, x0, rfl, r0, o0, k0⟩ := OpnW.argR opnw27 Tryz.underlying27 (hval 0 27 v0 rfl rfl) h0 (lightEach (show lightB _ = true from hz) 0 27 d0 rfl rfl)
  obtain ⟨z0_5, z0_6, e0, s0_5, s0_6⟩ := r0
  have e0 : cs0.toList = [_, _, _, _, _, _, _] := e0
  have e0 := congrArg List.toArray e0
  rw [Array.toArray_toList] at e0
  subst e0
  obtain ⟨cs1, x1, rfl, r1, o1, k1⟩ := OpnW.argR opnw36 Tryz.underlying36 (hval 1 36 v1 rfl rfl) h1 (lightEach (show lightB _ = true from hz) 1 36 d1 rfl rfl)
  have e1 := r1
  have e1 : cs1.toList = [_, _] := e1
  have e1 := congrArg List.toArray e1
  rw [Array.toArray_toList] at e1
  subst e1
  obtain ⟨cs2, x2, rfl, r2, o2, k2⟩ := OpnW.argR opnw40 Tryz.underlying40 (hval 2 40 v2 rfl rfl) h2 (lightEach (show lightB _ = true from hz) 2 40 d2 rfl rfl)
  obtain ⟨z2_1, z2_9, z2_10, e2, s2_1, s2_9, s2_10⟩ := r2
  have e2 : cs2.toList = [_, _, _, _, _, _, _, _, _, _, _] := e2
  have e2 := congrArg List.toArray e2
  rw [Array.toArray_toList] at e2
  subst e2
  obtain ⟨k, hk⟩ := holds_law x0 x1 x2 o0 o1 o2 k0 k1 k2
  refine (w14_PolicyHolds.ok k hG (own0 W) s0_5 s0_6 s2_1 s2_9 s2_10 hk).mono ?_
  rintro e W' ⟨_, rfl, rfl, S⟩
  exact ⟨_, rfl, law_post rowLaidOut (by kernel_rfl) rfl Tryz.underlying4 rfl rfl hW' (below0 S)⟩
theorem policyHolds_holds : Rows.PolicyHoldsSaid :=
  OpenClaim.holds_of_wide 4 Tryz.f4 rfl rfl rfl rfl rfl rfl rfl ⟨rfl, rfl, rfl, rfl, rfl⟩ rfl rfl rfl rfl rfl (by kernel_rfl) Tryz.func4 (by kernel_rfl)
    (of_decide_eq_true (by kernel_rfl)) (by unfold Func.isWrapper; first | (rw [if_pos (by decide +kernel)]; kernel_rfl) | (rw [if_neg (by decide +kernel)]; exact ⟨rfl, rfl⟩))
    (fun os started H enc _ => policyHolds_lifted os started H enc)
theorem policyHolds_card_holds : Rows.PolicyHoldsCardSaid :=
  Claim7.holds_tied_plain_at .later [] [.data] true (true, "269723ab6ddbc2ea19d73f886d79fb3cf57e8dbab20851490aa697f6bf9ff87a") false
    policyHolds_holds (fun _ h => by cases h) (by kernel_rfl) (fun _ h => by cases h) policyHolds_row_tie rfl ⟨rfl, rfl⟩ (by kernel_rfl) rfl
    (fun f fn hf hfn => by
      obtain rfl : f = 4 := Option.some.inj ((show Tryz.prog.funcNamed "speculum/speculumlaw14.PolicyHolds" = some 4 by kernel_rfl).symm.trans hf) |>.symm
      obtain rfl : fn = Tryz.f4 := (Option.some.inj (Tryz.func4.symm.trans hfn)).symm
      exact ⟨by kernel_rfl, fun j t ht => by
        rw [Tryz.params4] at ht
        have hm : t ∈ [27, 36, 40] := by simpa using Array.mem_of_getElem? ht
        have hall : ([27, 36, 40].all fun u => !Tryz.prog.wantsStandIn u) = true := by kernel_rfl
        exact (show Tryz.prog.wantsStandIn t = false by simpa using List.all_eq_true.1 hall t hm)⟩)
    (by kernel_rfl)
#print axioms policyHolds_card_holds
end Go.Proofs.YtafnenafbognkaaGreatDoor
