/-
  Parts of the proof, merged: F6, F7, F8, F9, F10.
-/
import Derived.Test.YtafnenafbognkaaGreatDoorW10
namespace Go.Proofs.YtafnenafbognkaaGreatDoor
open Sp
set_option maxRecDepth 100000
set_option maxHeartbeats 4000000
def policy_Do.f (k : Nat) (x0 : T_api_Deed) (x1 : T_api_Attrs) : Option T_api_Attrs := ((policy_RightDeed.f k x0).bind fun y4 => (if y4 = true then (if x0.Kind = 1 then (some (T_api_Attrs.mk x1.Origin x1.Path x1.Next x1.Med x0.Num x1.Atomic x1.HasAggr x1.AggrAS x1.AggrAddr x1.Comms x1.Raws)) else (if x0.Kind = 2 then (some (T_api_Attrs.mk x1.Origin x1.Path x1.Next x0.Num x1.Pref x1.Atomic x1.HasAggr x1.AggrAS x1.AggrAddr x1.Comms x1.Raws)) else (if x0.Kind = 3 then ((policy_prepend.f k x1.Path x0.Addr x0.Num).bind fun y10 => (some (T_api_Attrs.mk x1.Origin y10 x1.Next x1.Med x1.Pref x1.Atomic x1.HasAggr x1.AggrAS x1.AggrAddr x1.Comms x1.Raws))) else (if x0.Kind = 4 then ((filter_Add.f k x1.Comms x0.Addr).bind fun y15 => (some (T_api_Attrs.mk x1.Origin x1.Path x1.Next x1.Med x1.Pref x1.Atomic x1.HasAggr x1.AggrAS x1.AggrAddr y15 x1.Raws))) else (if x0.Kind = 5 then ((filter_Drop.f k x1.Comms x0.Addr).bind fun y20 => (some (T_api_Attrs.mk x1.Origin x1.Path x1.Next x1.Med x1.Pref x1.Atomic x1.HasAggr x1.AggrAS x1.AggrAddr y20 x1.Raws))) else (if x0.Kind = 6 then (some (T_api_Attrs.mk x1.Origin x1.Path x0.Addr x1.Med x1.Pref x1.Atomic x1.HasAggr x1.AggrAS x1.AggrAddr x1.Comms x1.Raws)) else (if x0.Kind = 7 then (some (T_api_Attrs.mk x1.Origin x1.Path x1.Next x1.Med x1.Pref x1.Atomic x1.HasAggr x1.AggrAS x1.AggrAddr [] x1.Raws)) else (some x1)))))))) else (some x1)))
abbrev policy_Do.C (k : Nat) : Prop := ∀ {x0 : T_api_Deed} {x1 : T_api_Attrs} {x1v1 : Value} {x1v9 : Value} {x1v10 : Value} {F : List It} {I : IMem} {w : World} {r : T_api_Attrs}, Glob I → Own I w (F) → SlR R_api_Segment I x1v1 x1.Path → SlR (tInt' .u32) I x1v9 x1.Comms → SlR R_api_Raw I x1v10 x1.Raws → policy_Do.f k x0 x1 = some r →
    Calls Tryz.prog 58 #[.agg #[.int .i64 x0.Kind, .int .i64 x0.Num, .int .u32 x0.Addr], .agg #[.int .i64 x1.Origin, x1v1, .int .u32 x1.Next, .int .i64 x1.Med, .int .i64 x1.Pref, .bool x1.Atomic, .bool x1.HasAggr, .int .u32 x1.AggrAS, .int .u32 x1.AggrAddr, x1v9, x1v10]] w fun e w' => ∃ v, e = .returned v ∧ ∃ (y_0v1 : Value) (y_0v9 : Value) (y_0v10 : Value) (J : IMem), I.le J ∧ v = .agg #[.int .i64 r.Origin, y_0v1, .int .u32 r.Next, .int .i64 r.Med, .int .i64 r.Pref, .bool r.Atomic, .bool r.HasAggr, .int .u32 r.AggrAS, .int .u32 r.AggrAddr, y_0v9, y_0v10] ∧ SlR R_api_Segment J y_0v1 r.Path ∧ SlR (tInt' .u32) J y_0v9 r.Comms ∧ SlR R_api_Raw J y_0v10 r.Raws ∧ Own J w' (F)
theorem policy_Do.ok (k : Nat) : policy_Do.C k := by
 intro x0 x1 x1v1 x1v9 x1v10 F I w r hG S x1h1 x1h9 x1h10 H
 have hI := IMem.le.refl I
 rw [policy_Do.f] at H
 refine Calls.ofFW (args := [.agg #[.int .i64 x0.Kind, .int .i64 x0.Num, .int .u32 x0.Addr], .agg #[.int .i64 x1.Origin, x1v1, .int .u32 x1.Next, .int .i64 x1.Med, .int .i64 x1.Pref, .bool x1.Atomic, .bool x1.HasAggr, .int .u32 x1.AggrAS, .int .u32 x1.AggrAddr, x1v9, x1v10]]) Tryz.func58 rfl rfl <| sr <| g rfl (o_boxA rfl S fun b1 w S => g rfl (o_boxA rfl S fun b2 w S => g rfl (o_all tz40 S fun b3 w S => sq (sq (rg (u rfl (x_ldA tag29 rfl (S.loadW 2 rfl) rfl) ?_))))))
 obtain ⟨y4, hy5, H⟩ := obx H
 refine g rfl (cl fb16 (@policy_RightDeed.ok k x0 _ _ _ _ hG S hy5) rfl ?_)
 rintro _ w ⟨rfl, S⟩
 refine u rfl (x_not' rfl) ?_
 by_cases cc6 : y4 = true
 ·rw [if_pos cc6] at H
  refine cF rfl (noF cc6) <| sk <| sq <| sr <| u rfl (x_fa tf29_0 rfl) <| u rfl (x_ld tsc3 rfl (S.load 2 rfl 0 rfl)) <| bk <| sq <| FW.anew [(2, pt b1), (3, pt b2), (4, pt b3), (10, .int .i64 x0.Kind)] ⟨rfl, rfl, rfl, rfl, trivial⟩ fun σ => rg <| u rfl (x_bin rfl rfl rfl) <| mv (.bool (x0.Kind == 1)) rfl ?_
  by_cases cc7 : x0.Kind = 1
  ·rw [if_pos cc7] at H
   refine cT rfl (eqT cc7) <| rg <| u rfl (x_fa tf29_1 rfl) <| u rfl (x_ld tsc3 rfl (S.load 2 rfl 1 rfl)) <| u rfl (x_fa tf40_4 rfl) <| g rfl (o_st tone3 S 1 rfl rfl rfl rfl fun w S => sq (rg (u rfl (x_ldA tag40 rfl (S.loadW 1 rfl) rfl) (g rfl (o_stA tag40 S 0 rfl rfl rfl rfl (c1 rfl (c1 x1h1.one (c1 rfl (c1 rfl (c1 rfl (c1 rfl (c1 rfl (c1 rfl (c1 rfl (c1 x1h9.one (c1 x1h10.one c0))))))))))) rfl fun w S => rt ?_)))))
   obtain rfl := si H
   exact ⟨_, ⟨_, _, _, rfl, rfl, ldA tag40 (S.loadW 0 rfl) rfl, rfl⟩, ⟨x1v1, x1v9, x1v10, I, hI, rfl, x1h1, x1h9, x1h10, (S.sel 3 [] rfl)⟩⟩
  rw [if_neg cc7] at H
  refine cF rfl (eqF cc7) <| sr <| u rfl (x_bin rfl rfl rfl) <| mv (.bool (x0.Kind == 2)) rfl ?_
  by_cases cc8 : x0.Kind = 2
  ·rw [if_pos cc8] at H
   refine cT rfl (eqT cc8) <| rg <| u rfl (x_fa tf29_1 rfl) <| u rfl (x_ld tsc3 rfl (S.load 2 rfl 1 rfl)) <| u rfl (x_fa tf40_3 rfl) <| g rfl (o_st tone3 S 1 rfl rfl rfl rfl fun w S => sq (FW.anew [(3, pt b2), (4, pt b3)] ⟨rfl, rfl, trivial⟩ fun σ => rg (u rfl (x_ldA tag40 rfl (S.loadW 1 rfl) rfl) (g rfl (o_stA tag40 S 0 rfl rfl rfl rfl (c1 rfl (c1 x1h1.one (c1 rfl (c1 rfl (c1 rfl (c1 rfl (c1 rfl (c1 rfl (c1 rfl (c1 x1h9.one (c1 x1h10.one c0))))))))))) rfl fun w S => rt ?_)))))
   obtain rfl := si H
   exact ⟨_, ⟨_, _, _, rfl, rfl, ldA tag40 (S.loadW 0 rfl) rfl, rfl⟩, ⟨x1v1, x1v9, x1v10, I, hI, rfl, x1h1, x1h9, x1h10, (S.sel 3 [] rfl)⟩⟩
  rw [if_neg cc8] at H
  refine cF rfl (eqF cc8) <| sr <| u rfl (x_bin rfl rfl rfl) <| mv (.bool (x0.Kind == 3)) rfl ?_
  by_cases cc9 : x0.Kind = 3
  ·rw [if_pos cc9] at H
   refine cT rfl (eqT cc9) <| rg <| u rfl (x_fa tf40_1 rfl) <| u rfl (x_ld tsc37 rfl (S.load 1 rfl 1 rfl)) <| u rfl (x_fa tf29_2 rfl) <| u rfl (x_ld tsc23 rfl (S.load 2 rfl 2 rfl)) <| u rfl (x_fa tf29_1 rfl) <| u rfl (x_ld tsc3 rfl (S.load 2 rfl 1 rfl)) ?_
   obtain ⟨y10, hy11, H⟩ := obx H
   refine g rfl (cl fb99 (@policy_prepend.ok k x1.Path x0.Addr x0.Num _ _ _ _ _ hG S x1h1 hy11) rfl ?_)
   rintro vy10_0 w ⟨vy10_0q, J12, hJ13, rfl, hy10_0, S⟩
   have x1h9 := x1h9.mono hJ13
   have x1h10 := x1h10.mono hJ13
   have hI := hI.trans hJ13
   refine u rfl (x_fa tf40_1 rfl) <| g rfl (o_st tone37 S 1 rfl rfl rfl hy10_0.one fun w S => sq (FW.anew [(3, pt b2), (4, pt b3)] ⟨rfl, rfl, trivial⟩ fun σ => rg (u rfl (x_ldA tag40 rfl (S.loadW 1 rfl) rfl) (g rfl (o_stA tag40 S 0 rfl rfl rfl rfl (c1 rfl (c1 hy10_0.one (c1 rfl (c1 rfl (c1 rfl (c1 rfl (c1 rfl (c1 rfl (c1 rfl (c1 x1h9.one (c1 x1h10.one c0))))))))))) rfl fun w S => rt ?_)))))
   obtain rfl := si H
   exact ⟨_, ⟨_, _, _, rfl, rfl, ldA tag40 (S.loadW 0 rfl) rfl, rfl⟩, ⟨vy10_0, x1v9, x1v10, J12, hI, rfl, hy10_0, x1h9, x1h10, (S.sel 3 [] rfl)⟩⟩
  rw [if_neg cc9] at H
  refine cF rfl (eqF cc9) <| sr <| u rfl (x_bin rfl rfl rfl) <| mv (.bool (x0.Kind == 4)) rfl ?_
  by_cases cc14 : x0.Kind = 4
  ·rw [if_pos cc14] at H
   refine cT rfl (eqT cc14) <| FW.anew [(2, pt b1), (3, pt b2), (4, pt b3)] ⟨rfl, rfl, rfl, trivial⟩ fun σ => rg <| u rfl (x_fa tf40_9 rfl) <| u rfl (x_ld tsc25 rfl (S.load 1 rfl 9 rfl)) <| u rfl (x_fa tf29_2 rfl) <| u rfl (x_ld tsc23 rfl (S.load 2 rfl 2 rfl)) ?_
   obtain ⟨y15, hy16, H⟩ := obx H
   refine g rfl (cl fb100 (@filter_Add.ok k x1.Comms x0.Addr _ _ _ _ _ hG S x1h9 hy16) rfl ?_)
   rintro vy15_0 w ⟨vy15_0q, J17, hJ18, rfl, hy15_0, S⟩
   have x1h1 := x1h1.mono hJ18
   have x1h10 := x1h10.mono hJ18
   have hI := hI.trans hJ18
   refine u rfl (x_fa tf40_9 rfl) <| g rfl (o_st tone25 S 1 rfl rfl rfl hy15_0.one fun w S => sq (FW.anew [(3, pt b2), (4, pt b3)] ⟨rfl, rfl, trivial⟩ fun σ => rg (u rfl (x_ldA tag40 rfl (S.loadW 1 rfl) rfl) (g rfl (o_stA tag40 S 0 rfl rfl rfl rfl (c1 rfl (c1 x1h1.one (c1 rfl (c1 rfl (c1 rfl (c1 rfl (c1 rfl (c1 rfl (c1 rfl (c1 hy15_0.one (c1 x1h10.one c0))))))))))) rfl fun w S => rt ?_)))))
   obtain rfl := si H
   exact ⟨_, ⟨_, _, _, rfl, rfl, ldA tag40 (S.loadW 0 rfl) rfl, rfl⟩, ⟨x1v1, vy15_0, x1v10, J17, hI, rfl, x1h1, hy15_0, x1h10, (S.sel 3 [] rfl)⟩⟩
  rw [if_neg cc14] at H
  refine cF rfl (eqF cc14) <| sq <| FW.anew [(2, pt b1), (3, pt b2), (4, pt b3), (10, .int .i64 x0.Kind)] ⟨rfl, rfl, rfl, rfl, trivial⟩ fun σ => rg <| u rfl (x_bin rfl rfl rfl) <| mv (.bool (x0.Kind == 5)) rfl ?_
  by_cases cc19 : x0.Kind = 5
  ·rw [if_pos cc19] at H
   refine cT rfl (eqT cc19) <| rg <| u rfl (x_fa tf40_9 rfl) <| u rfl (x_ld tsc25 rfl (S.load 1 rfl 9 rfl)) <| u rfl (x_fa tf29_2 rfl) <| u rfl (x_ld tsc23 rfl (S.load 2 rfl 2 rfl)) ?_
   obtain ⟨y20, hy21, H⟩ := obx H
   refine g rfl (cl fb101 (@filter_Drop.ok k x1.Comms x0.Addr _ _ _ _ _ hG S x1h9 hy21) rfl ?_)
   rintro vy20_0 w ⟨vy20_0q, J22, hJ23, rfl, hy20_0, S⟩
   have x1h1 := x1h1.mono hJ23
   have x1h10 := x1h10.mono hJ23
   have hI := hI.trans hJ23
   refine u rfl (x_fa tf40_9 rfl) <| g rfl (o_st tone25 S 1 rfl rfl rfl hy20_0.one fun w S => sq (FW.anew [(3, pt b2), (4, pt b3)] ⟨rfl, rfl, trivial⟩ fun σ => rg (u rfl (x_ldA tag40 rfl (S.loadW 1 rfl) rfl) (g rfl (o_stA tag40 S 0 rfl rfl rfl rfl (c1 rfl (c1 x1h1.one (c1 rfl (c1 rfl (c1 rfl (c1 rfl (c1 rfl (c1 rfl (c1 rfl (c1 hy20_0.one (c1 x1h10.one c0))))))))))) rfl fun w S => rt ?_)))))
   obtain rfl := si H
   exact ⟨_, ⟨_, _, _, rfl, rfl, ldA tag40 (S.loadW 0 rfl) rfl, rfl⟩, ⟨x1v1, vy20_0, x1v10, J22, hI, rfl, x1h1, hy20_0, x1h10, (S.sel 3 [] rfl)⟩⟩
  rw [if_neg cc19] at H
  refine cF rfl (eqF cc19) <| sr <| u rfl (x_bin rfl rfl rfl) <| mv (.bool (x0.Kind == 6)) rfl ?_
  by_cases cc24 : x0.Kind = 6
  ·rw [if_pos cc24] at H
   refine cT rfl (eqT cc24) <| rg <| u rfl (x_fa tf29_2 rfl) <| u rfl (x_ld tsc23 rfl (S.load 2 rfl 2 rfl)) <| u rfl (x_fa tf40_2 rfl) <| g rfl (o_st tone23 S 1 rfl rfl rfl rfl fun w S => sq (FW.anew [(3, pt b2), (4, pt b3)] ⟨rfl, rfl, trivial⟩ fun σ => rg (u rfl (x_ldA tag40 rfl (S.loadW 1 rfl) rfl) (g rfl (o_stA tag40 S 0 rfl rfl rfl rfl (c1 rfl (c1 x1h1.one (c1 rfl (c1 rfl (c1 rfl (c1 rfl (c1 rfl (c1 rfl (c1 rfl (c1 x1h9.one (c1 x1h10.one c0))))))))))) rfl fun w S => rt ?_)))))
   obtain rfl := si H
   exact ⟨_, ⟨_, _, _, rfl, rfl, ldA tag40 (S.loadW 0 rfl) rfl, rfl⟩, ⟨x1v1, x1v9, x1v10, I, hI, rfl, x1h1, x1h9, x1h10, (S.sel 3 [] rfl)⟩⟩
  rw [if_neg cc24] at H
  refine cF rfl (eqF cc24) <| sr <| u rfl (x_bin rfl rfl rfl) <| mv (.bool (x0.Kind == 7)) rfl ?_
  by_cases cc25 : x0.Kind = 7
  ·rw [if_pos cc25] at H
   refine cT rfl (eqT cc25) <| rg <| u rfl (x_fa tf40_9 rfl) <| g rfl (o_st tone25 S 1 rfl rfl rfl rfl fun w S => sq (FW.anew [(3, pt b2), (4, pt b3)] ⟨rfl, rfl, trivial⟩ fun σ => rg (u rfl (x_ldA tag40 rfl (S.loadW 1 rfl) rfl) (g rfl (o_stA tag40 S 0 rfl rfl rfl rfl (c1 rfl (c1 x1h1.one (c1 rfl (c1 rfl (c1 rfl (c1 rfl (c1 rfl (c1 rfl (c1 rfl (c1 rfl (c1 x1h10.one c0))))))))))) rfl fun w S => rt ?_)))))
   obtain rfl := si H
   exact ⟨_, ⟨_, _, _, rfl, rfl, ldA tag40 (S.loadW 0 rfl) rfl, rfl⟩, ⟨x1v1, (.slice none 0 0), x1v10, I, hI, rfl, x1h1, (SlR.nil _ _), x1h10, (S.sel 3 [] rfl)⟩⟩
  rw [if_neg cc25] at H
  refine cF rfl (eqF cc25) <| sk <| sr <| u rfl (x_ldA tag40 rfl (S.loadW 1 rfl) rfl) <| g rfl (o_stA tag40 S 0 rfl rfl rfl rfl (c1 rfl (c1 x1h1.one (c1 rfl (c1 rfl (c1 rfl (c1 rfl (c1 rfl (c1 rfl (c1 rfl (c1 x1h9.one (c1 x1h10.one c0))))))))))) rfl fun w S => rt ?_)
  obtain rfl := si H
  exact ⟨_, ⟨_, _, _, rfl, rfl, ldA tag40 (S.loadW 0 rfl) rfl, rfl⟩, ⟨x1v1, x1v9, x1v10, I, hI, rfl, x1h1, x1h9, x1h10, (S.sel 3 [] rfl)⟩⟩
 rw [if_neg cc6] at H
 refine cT rfl (noT (vaF cc6)) <| sr <| u rfl (x_ldA tag40 rfl (S.loadW 1 rfl) rfl) <| g rfl (o_stA tag40 S 0 rfl rfl rfl rfl (c1 rfl (c1 x1h1.one (c1 rfl (c1 rfl (c1 rfl (c1 rfl (c1 rfl (c1 rfl (c1 rfl (c1 x1h9.one (c1 x1h10.one c0))))))))))) rfl fun w S => rt ?_)
 obtain rfl := si H
 exact ⟨_, ⟨_, _, _, rfl, rfl, ldA tag40 (S.loadW 0 rfl) rfl, rfl⟩, ⟨x1v1, x1v9, x1v10, I, hI, rfl, x1h1, x1h9, x1h10, (S.sel 3 [] rfl)⟩⟩
def policy_Apply.l1 : Nat → T_api_Prefix → Int → (List T_api_Segment) → Int → Int → Int → Bool → Bool → Int → Int → (List Int) → (List T_api_Raw) → T_api_Rule → Int → Option (Sum Unit Unit)
  | 0, _, _, _, _, _, _, _, _, _, _, _, _, _, _ => none
  | k + 1, x1, n10, l11, n14, n15, n16, b17, b18, n19, n20, l21, l24, y52, n61 => (if n61 < (y52.Conds.length : Int) then ((lat y52.Conds n61).bind fun y71 => ((policy_Holds.f k y71 x1 (T_api_Attrs.mk n10 l11 n14 n15 n16 b17 b18 n19 n20 l21 l24)).bind fun y79 => (if y79 = true then (policy_Apply.l1 k x1 n10 l11 n14 n15 n16 b17 b18 n19 n20 l21 l24 y52 (i64 (n61 + 1))) else (some (.inl ()))))) else (some (.inr ())))
def policy_Apply.l2 : Nat → T_api_Rule → Int → Int → (List T_api_Segment) → Int → Int → Int → Bool → Bool → Int → Int → (List Int) → (List T_api_Raw) → Option (Int × (List T_api_Segment) × Int × Int × Int × Bool × Bool × Int × Int × (List Int) × (List T_api_Raw))
  | 0, _, _, _, _, _, _, _, _, _, _, _, _, _ => none
  | k + 1, y52, n83, n84, l85, n88, n89, n90, b91, b92, n93, n94, l95, l98 => (if n83 < (y52.Deeds.length : Int) then ((lat y52.Deeds n83).bind fun y126 => ((policy_Do.f k y126 (T_api_Attrs.mk n84 l85 n88 n89 n90 b91 b92 n93 n94 l95 l98)).bind fun y134 => (policy_Apply.l2 k y52 (i64 (n83 + 1)) y134.Origin y134.Path y134.Next y134.Med y134.Pref y134.Atomic y134.HasAggr y134.AggrAS y134.AggrAddr y134.Comms y134.Raws))) else (some (n84, l85, n88, n89, n90, b91, b92, n93, n94, l95, l98)))
def policy_Apply.l0 : Nat → (List T_api_Rule) → T_api_Prefix → Int → Int → (List T_api_Segment) → Int → Int → Int → Bool → Bool → Int → Int → (List Int) → (List T_api_Raw) → Option (Sum (T_api_Attrs × Bool) (Int × (List T_api_Segment) × Int × Int × Int × Bool × Bool × Int × Int × (List Int) × (List T_api_Raw)))
  | 0, _, _, _, _, _, _, _, _, _, _, _, _, _, _ => none
  | k + 1, x0, x1, n9, n10, l11, n14, n15, n16, b17, b18, n19, n20, l21, l24 => (if n9 < (x0.length : Int) then ((lat x0 n9).bind fun y52 => ((policy_Apply.l1 k x1 n10 l11 n14 n15 n16 b17 b18 n19 n20 l21 l24 y52 0).bind fun o => match o with | .inl _ => (policy_Apply.l0 k x0 x1 (i64 (n9 + 1)) n10 l11 n14 n15 n16 b17 b18 n19 n20 l21 l24) | .inr _ => ((policy_Apply.l2 k y52 0 n10 l11 n14 n15 n16 b17 b18 n19 n20 l21 l24).bind fun (n107, l108, n111, n112, n113, b114, b115, n116, n117, l118, l121) => (if y52.Verdict = 1 then (some (.inl ((T_api_Attrs.mk n107 l108 n111 n112 n113 b114 b115 n116 n117 l118 l121), true))) else (if y52.Verdict = 2 then (some (.inr (n107, l108, n111, n112, n113, b114, b115, n116, n117, l118, l121))) else (policy_Apply.l0 k x0 x1 (i64 (n9 + 1)) n107 l108 n111 n112 n113 b114 b115 n116 n117 l118 l121)))))) else (some (.inr (n10, l11, n14, n15, n16, b17, b18, n19, n20, l21, l24))))
def policy_Apply.f (k : Nat) (x0 : (List T_api_Rule)) (x1 : T_api_Prefix) (x2 : T_api_Attrs) : Option (T_api_Attrs × Bool) := (if (x0.length : Int) = 0 then (some (x2, true)) else ((policy_Right.f k x0).bind fun y5 => (if y5 = true then (((policy_Apply.l0 k x0 x1 0 x2.Origin x2.Path x2.Next x2.Med x2.Pref x2.Atomic x2.HasAggr x2.AggrAS x2.AggrAddr x2.Comms x2.Raws) : Option (Sum (T_api_Attrs × Bool) (Int × (List T_api_Segment) × Int × Int × Int × Bool × Bool × Int × Int × (List Int) × (List T_api_Raw)))).bind fun o => match o with | .inl r => some r | .inr (n33, l34, n37, n38, n39, b40, b41, n42, n43, l44, l47) => (some ((T_api_Attrs.mk 0 [] 0 0 0 false false 0 0 [] []), false))) else (some ((T_api_Attrs.mk 0 [] 0 0 0 false false 0 0 [] []), false)))))
abbrev policy_Apply.C (k : Nat) : Prop := ∀ {x0 : (List T_api_Rule)} {x1 : T_api_Prefix} {x2 : T_api_Attrs} {vx0 : Value} {x2v1 : Value} {x2v9 : Value} {x2v10 : Value} {F : List It} {I : IMem} {w : World} {r : T_api_Attrs × Bool}, Glob I → Own I w (F) → SlR R_api_Rule I vx0 x0 → SlR R_api_Segment I x2v1 x2.Path → SlR (tInt' .u32) I x2v9 x2.Comms → SlR R_api_Raw I x2v10 x2.Raws → policy_Apply.f k x0 x1 x2 = some r →
    Calls Tryz.prog 22 #[vx0, .agg #[.int .u32 x1.Addr, .int .i64 x1.Len], .agg #[.int .i64 x2.Origin, x2v1, .int .u32 x2.Next, .int .i64 x2.Med, .int .i64 x2.Pref, .bool x2.Atomic, .bool x2.HasAggr, .int .u32 x2.AggrAS, .int .u32 x2.AggrAddr, x2v9, x2v10]] w fun e w' => ∃ v, e = .returned v ∧ ∃ (y_0v1 : Value) (y_0v9 : Value) (y_0v10 : Value) (J : IMem), I.le J ∧ v = .tuple #[.agg #[.int .i64 r.1.Origin, y_0v1, .int .u32 r.1.Next, .int .i64 r.1.Med, .int .i64 r.1.Pref, .bool r.1.Atomic, .bool r.1.HasAggr, .int .u32 r.1.AggrAS, .int .u32 r.1.AggrAddr, y_0v9, y_0v10], .bool r.2] ∧ SlR R_api_Segment J y_0v1 r.1.Path ∧ SlR (tInt' .u32) J y_0v9 r.1.Comms ∧ SlR R_api_Raw J y_0v10 r.1.Raws ∧ Own J w' (F)
theorem policy_Apply.ok (k : Nat) : policy_Apply.C k := by
 intro x0 x1 x2 vx0 x2v1 x2v9 x2v10 F I w r hG S hx0 x2h1 x2h9 x2h10 H
 have hI := IMem.le.refl I
 rw [policy_Apply.f] at H
 refine Calls.ofFW (args := [vx0, .agg #[.int .u32 x1.Addr, .int .i64 x1.Len], .agg #[.int .i64 x2.Origin, x2v1, .int .u32 x2.Next, .int .i64 x2.Med, .int .i64 x2.Pref, .bool x2.Atomic, .bool x2.HasAggr, .int .u32 x2.AggrAS, .int .u32 x2.AggrAddr, x2v9, x2v10]]) Tryz.func22 rfl rfl <| sr <| g rfl (o_boxA rfl S fun b1 w S => g rfl (o_boxA rfl S fun b2 w S => g rfl (o_all tz40 S fun b3 w S => mv (.bool false) rfl (FW.scope (sq (sq (rg (mv vx0 rfl (u rfl (x_lenD (r := R_api_Rule) tsl22 hx0) (u rfl (x_bin rfl rfl rfl) ?_))))))))))
 by_cases cc4 : (x0.length : Int) = 0
 ·rw [if_pos cc4] at H
  refine cT rfl (eqT cc4) <| sq <| FW.anew [(5, pt b2), (6, pt b3)] ⟨rfl, rfl, trivial⟩ fun σ => rg <| u rfl (x_ldA tag40 rfl (S.loadW 1 rfl) rfl) <| g rfl (o_stA tag40 S 0 rfl rfl rfl rfl (c1 rfl (c1 x2h1.one (c1 rfl (c1 rfl (c1 rfl (c1 rfl (c1 rfl (c1 rfl (c1 rfl (c1 x2h9.one (c1 x2h10.one c0))))))))))) rfl fun w S => mv (.bool true) rfl (rt ?_))
  obtain rfl := si H
  exact ⟨_, ⟨_, _, _, rfl, rfl, ldA tag40 (S.loadW 0 rfl) rfl, ⟨_, rfl, rfl⟩⟩, ⟨x2v1, x2v9, x2v10, I, hI, rfl, x2h1, x2h9, x2h10, (S.sel 3 [] rfl)⟩⟩
 rw [if_neg cc4] at H
 refine cF rfl (eqF cc4) <| sk <| sq <| sq <| FW.anew [(0, vx0), (4, pt b1), (5, pt b2), (6, pt b3)] ⟨rfl, rfl, rfl, rfl, trivial⟩ fun σ => rg <| mv vx0 rfl ?_
 obtain ⟨y5, hy6, H⟩ := obx H
 refine g rfl (cl fb12 (@policy_Right.ok k x0 _ _ _ _ _ hG S hx0 hy6) rfl ?_)
 rintro _ w ⟨rfl, S⟩
 refine u rfl (x_not' rfl) ?_
 by_cases cc7 : y5 = true
 ·rw [if_pos cc7] at H
  refine cF rfl (noF cc7) <| sk <| sq <| FW.label <| sq <| sr <| mv vx0 rfl <| u rfl (x_lenD (r := R_api_Rule) tsl22 hx0) <| mv (.int .i64 0) rfl <| bk ?_
  obtain ⟨o29, hl31, HO30⟩ := obx H
  refine FW.cutX 0 (fun σ w => ∃ (n33 : Int) (l34 : (List T_api_Segment)) (n37 : Int) (n38 : Int) (n39 : Int) (b40 : Bool) (b41 : Bool) (n42 : Int) (n43 : Int) (l44 : (List Int)) (l47 : (List T_api_Raw)) (v35 : Value) (v45 : Value) (v48 : Value) (J32 : IMem), (.inr (n33, l34, n37, n38, n39, b40, b41, n42, n43, l44, l47)) = o29 ∧ Has σ [(6, pt b3)] ∧ I.le J32 ∧ Own J32 w (.bk b3 40 [.int .i64 0, (.slice none 0 0), .int .u32 0, .int .i64 0, .int .i64 0, .bool false, .bool false, .int .u32 0, .int .u32 0, (.slice none 0 0), (.slice none 0 0)] :: .bk b2 40 [.int .i64 n33, v35, .int .u32 n37, .int .i64 n38, .int .i64 n39, .bool b40, .bool b41, .int .u32 n42, .int .u32 n43, v45, v48] :: .bk b1 36 [.int .u32 x1.Addr, .int .i64 x1.Len] :: F) ∧ SlR R_api_Segment J32 v35 l34 ∧ SlR (tInt' .u32) J32 v45 l44 ∧ SlR R_api_Raw J32 v48 l47) ?_ ?_
  ·refine FW.loop k (FL.ind (fun q σ w => ∃ (n9 : Int) (n10 : Int) (l11 : (List T_api_Segment)) (n14 : Int) (n15 : Int) (n16 : Int) (b17 : Bool) (b18 : Bool) (n19 : Int) (n20 : Int) (l21 : (List Int)) (l24 : (List T_api_Raw)) (v12 : Value) (v22 : Value) (v25 : Value) (J8 : IMem), policy_Apply.l0 q x0 x1 n9 n10 l11 n14 n15 n16 b17 b18 n19 n20 l21 l24 = some o29 ∧ q ≤ k ∧ Has σ [(4, pt b1), (5, pt b2), (6, pt b3), (22, vx0), (23, .int .i64 (x0.length : Int)), (24, .int .i64 n9)] ∧ I.le J8 ∧ Own J8 w (.bk b3 40 [.int .i64 0, (.slice none 0 0), .int .u32 0, .int .i64 0, .int .i64 0, .bool false, .bool false, .int .u32 0, .int .u32 0, (.slice none 0 0), (.slice none 0 0)] :: .bk b2 40 [.int .i64 n10, v12, .int .u32 n14, .int .i64 n15, .int .i64 n16, .bool b17, .bool b18, .int .u32 n19, .int .u32 n20, v22, v25] :: .bk b1 36 [.int .u32 x1.Addr, .int .i64 x1.Len] :: F) ∧ SlR R_api_Segment J8 v12 l11 ∧ SlR (tInt' .u32) J8 v22 l21 ∧ SlR R_api_Raw J8 v25 l24) ?_ ?_ k k _ _ (Nat.le_refl _) ⟨0, x2.Origin, x2.Path, x2.Next, x2.Med, x2.Pref, x2.Atomic, x2.HasAggr, x2.AggrAS, x2.AggrAddr, x2.Comms, x2.Raws, x2v1, x2v9, x2v10, I, hl31, Nat.le_refl _, ⟨rfl, rfl, rfl, rfl, rfl, rfl, trivial⟩, (IMem.le.refl _), S, x2h1, x2h9, x2h10⟩)
   ·rintro σ w ⟨n9, n10, l11, n14, n15, n16, b17, b18, n19, n20, l21, l24, v12, v22, v25, J8, H, _⟩; cases H
   rintro q27 σ w ⟨n9, n10, l11, n14, n15, n16, b17, b18, n19, n20, l21, l24, v12, v22, v25, J8, H, hq50, hσ, hL28, S, h13, h23, h26⟩
   have hx0 := hx0.mono hL28
   have hI := hI.trans hL28
   have hG := hG.mono hL28
   rw [hσ.eq]
   rw [policy_Apply.l0] at H
   refine sr <| u rfl (x_bin rfl rfl rfl) <| sq ?_
   by_cases cc51 : n9 < (x0.length : Int)
   ·rw [if_pos cc51] at H
    refine cT rfl (deT cc51) <| sk <| sq <| bk <| sq <| rg ?_
    obtain ⟨y52, h53, H⟩ := obx H
    refine g rfl (o_ia (r := R_api_Rule) tsl22 rfl rfl hx0 rfl h53 fun b54 o55 cs56 hr57 hc58 => ?_)
    obtain ⟨y52v0, y52v1, rfl, y52h0, y52h1⟩ := hr57
    refine u rfl (x_ldA tag51 rfl (S.loadI hc58) rfl) <| g rfl (o_all tz51 S fun b59 w S => g rfl (o_stA tag51 S 0 rfl rfl rfl rfl (c1 y52h0.one (c1 y52h1.one (c1 rfl c0))) rfl fun w S => sq (sq (rg (u rfl (x_fa tf51_0 rfl) (u rfl (x_ld tsc48 rfl (S.load 0 rfl 0 rfl)) (u rfl (x_lenD (r := R_api_Cond) tsl48 y52h0) (mv (.int .i64 0) rfl (bk ?_)))))))))
    obtain ⟨o64, hl66, HO65⟩ := obx H
    refine FW.cutX 1 (fun σ w => ∃ (J67 : IMem), (.inl ()) = o64 ∧ Has σ [(4, pt b1), (5, pt b2), (6, pt b3), (22, vx0), (23, .int .i64 (x0.length : Int)), (24, .int .i64 n9)] ∧ J8.le J67 ∧ Own J67 w (.bk b59 51 [y52v0, y52v1, .int .i64 y52.Verdict] :: .bk b3 40 [.int .i64 0, (.slice none 0 0), .int .u32 0, .int .i64 0, .int .i64 0, .bool false, .bool false, .int .u32 0, .int .u32 0, (.slice none 0 0), (.slice none 0 0)] :: .bk b2 40 [.int .i64 n10, v12, .int .u32 n14, .int .i64 n15, .int .i64 n16, .bool b17, .bool b18, .int .u32 n19, .int .u32 n20, v22, v25] :: .bk b1 36 [.int .u32 x1.Addr, .int .i64 x1.Len] :: F)) ?_ ?_
    ·refine FW.cutX 2 (fun σ w => ∃ (J68 : IMem), (.inr ()) = o64 ∧ Has σ [(4, pt b1), (5, pt b2), (6, pt b3), (9, pt b59), (22, vx0), (23, .int .i64 (x0.length : Int)), (24, .int .i64 n9)] ∧ J8.le J68 ∧ Own J68 w (.bk b59 51 [y52v0, y52v1, .int .i64 y52.Verdict] :: .bk b3 40 [.int .i64 0, (.slice none 0 0), .int .u32 0, .int .i64 0, .int .i64 0, .bool false, .bool false, .int .u32 0, .int .u32 0, (.slice none 0 0), (.slice none 0 0)] :: .bk b2 40 [.int .i64 n10, v12, .int .u32 n14, .int .i64 n15, .int .i64 n16, .bool b17, .bool b18, .int .u32 n19, .int .u32 n20, v22, v25] :: .bk b1 36 [.int .u32 x1.Addr, .int .i64 x1.Len] :: F)) ?_ ?_
     ·refine FW.loop q27 (FL.ind (fun q σ w => ∃ (n61 : Int) (J60 : IMem), policy_Apply.l1 q x1 n10 l11 n14 n15 n16 b17 b18 n19 n20 l21 l24 y52 n61 = some o64 ∧ q ≤ q27 ∧ Has σ [(4, pt b1), (5, pt b2), (6, pt b3), (9, pt b59), (22, vx0), (23, .int .i64 (x0.length : Int)), (24, .int .i64 n9), (29, y52v0), (30, .int .i64 (y52.Conds.length : Int)), (31, .int .i64 n61)] ∧ J8.le J60 ∧ Own J60 w (.bk b59 51 [y52v0, y52v1, .int .i64 y52.Verdict] :: .bk b3 40 [.int .i64 0, (.slice none 0 0), .int .u32 0, .int .i64 0, .int .i64 0, .bool false, .bool false, .int .u32 0, .int .u32 0, (.slice none 0 0), (.slice none 0 0)] :: .bk b2 40 [.int .i64 n10, v12, .int .u32 n14, .int .i64 n15, .int .i64 n16, .bool b17, .bool b18, .int .u32 n19, .int .u32 n20, v22, v25] :: .bk b1 36 [.int .u32 x1.Addr, .int .i64 x1.Len] :: F)) ?_ ?_ q27 q27 _ _ (Nat.le_refl _) ⟨0, J8, hl66, Nat.le_refl _, ⟨rfl, rfl, rfl, rfl, rfl, rfl, rfl, rfl, rfl, rfl, trivial⟩, (IMem.le.refl _), S⟩)
      ·rintro σ w ⟨n61, J60, H, _⟩; cases H
      rintro q62 σ w ⟨n61, J60, H, hq69, hσ, hL63, S⟩
      have y52h0 := y52h0.mono hL63
      have h13 := h13.mono hL63
      have h23 := h23.mono hL63
      have h26 := h26.mono hL63
      have hG := hG.mono hL63
      rw [hσ.eq]
      rw [policy_Apply.l1] at H
      refine sr <| u rfl (x_bin rfl rfl rfl) <| sq ?_
      by_cases cc70 : n61 < (y52.Conds.length : Int)
      ·rw [if_pos cc70] at H
       refine cT rfl (deT cc70) <| sk <| sq <| bk <| sq <| rg ?_
       obtain ⟨y71, h72, H⟩ := obx H
       refine g rfl (o_ia (r := R_api_Cond) tsl48 rfl rfl y52h0 rfl h72 fun b73 o74 cs75 hr76 hc77 => ?_)
       obtain ⟨y71v5, y71v6, rfl, y71h5, y71h6⟩ := hr76
       refine u rfl (x_ldA tag27 rfl (S.loadI hc77) rfl) <| g rfl (o_all tz27 S fun b78 w S => g rfl (o_stA tag27 S 0 rfl rfl rfl rfl (c1 rfl (c1 rfl (c1 rfl (c1 rfl (c1 rfl (c1 y71h5.one (c1 y71h6.one c0))))))) rfl fun w S => sq (rg (u rfl (x_ldA tag27 rfl (S.loadW 0 rfl) rfl) (u rfl (x_ldA tag36 rfl (S.loadW 4 rfl) rfl) (u rfl (x_ldA tag40 rfl (S.loadW 3 rfl) rfl) ?_))))))
       obtain ⟨y79, hy80, H⟩ := obx H
       refine g rfl (cl fb20 (@policy_Holds.ok q62 y71 x1 (T_api_Attrs.mk n10 l11 n14 n15 n16 b17 b18 n19 n20 l21 l24) _ _ _ _ _ _ _ _ _ hG S y71h5 y71h6 h13 h23 h26 hy80) rfl ?_)
       rintro _ w ⟨rfl, S⟩
       refine u rfl (x_not' rfl) ?_
       by_cases cc81 : y79 = true
       ·rw [if_pos cc81] at H
        refine cF rfl (noF cc81) <| sk <| FW.anew [(4, pt b1), (5, pt b2), (6, pt b3), (9, pt b59), (22, vx0), (23, .int .i64 (x0.length : Int)), (24, .int .i64 n9), (29, y52v0), (30, .int .i64 (y52.Conds.length : Int)), (31, .int .i64 n61)] ⟨rfl, rfl, rfl, rfl, rfl, rfl, rfl, rfl, rfl, rfl, trivial⟩ fun σ => rg <| u rfl (x_bin rfl rfl rfl) <| mv (.int .i64 (i64 (n61 + 1))) rfl ⟨q62, Nat.le_refl _, (i64 (n61 + 1)), J60, H, (Nat.le_of_succ_le hq69), ⟨rfl, rfl, rfl, rfl, rfl, rfl, rfl, rfl, rfl, rfl, trivial⟩, hL63, (S.sel 5 [1, 2, 3, 4] rfl)⟩
       rw [if_neg cc81] at H
       refine cT rfl (noT (vaF cc81)) <| ex ⟨J60, (si H), ⟨rfl, rfl, rfl, rfl, rfl, rfl, trivial⟩, hL63, (S.sel 5 [1, 2, 3, 4] rfl)⟩
      rw [if_neg cc70] at H
      refine cF rfl (deF cc70) <| ex ⟨J60, (si H), ⟨rfl, rfl, rfl, rfl, rfl, rfl, rfl, trivial⟩, hL63, S⟩
     rintro σ w ⟨J68, ho, hσ, hL63, S⟩
     subst ho
     have H := HO65
     try dsimp only at H
     have y52h1 := y52h1.mono hL63
     have h13 := h13.mono hL63
     have h23 := h23.mono hL63
     have h26 := h26.mono hL63
     have hI := hI.trans hL63
     have hL28 := hL28.trans hL63
     have hG := hG.mono hL63
     rw [hσ.eq]
     refine sq <| sr <| u rfl (x_fa tf51_1 rfl) <| u rfl (x_ld tsc49 rfl (S.load 0 rfl 1 rfl)) <| u rfl (x_lenD (r := R_api_Deed) tsl49 y52h1) <| mv (.int .i64 0) rfl <| bk ?_
     obtain ⟨o103, hl105, HO104⟩ := obx H
     refine FW.cutX 4 (fun σ w => ∃ (n107 : Int) (l108 : (List T_api_Segment)) (n111 : Int) (n112 : Int) (n113 : Int) (b114 : Bool) (b115 : Bool) (n116 : Int) (n117 : Int) (l118 : (List Int)) (l121 : (List T_api_Raw)) (v109 : Value) (v119 : Value) (v122 : Value) (J106 : IMem), (n107, l108, n111, n112, n113, b114, b115, n116, n117, l118, l121) = o103 ∧ Has σ [(4, pt b1), (5, pt b2), (6, pt b3), (9, pt b59), (22, vx0), (23, .int .i64 (x0.length : Int)), (24, .int .i64 n9)] ∧ J68.le J106 ∧ Own J106 w (.bk b59 51 [y52v0, y52v1, .int .i64 y52.Verdict] :: .bk b3 40 [.int .i64 0, (.slice none 0 0), .int .u32 0, .int .i64 0, .int .i64 0, .bool false, .bool false, .int .u32 0, .int .u32 0, (.slice none 0 0), (.slice none 0 0)] :: .bk b2 40 [.int .i64 n107, v109, .int .u32 n111, .int .i64 n112, .int .i64 n113, .bool b114, .bool b115, .int .u32 n116, .int .u32 n117, v119, v122] :: .bk b1 36 [.int .u32 x1.Addr, .int .i64 x1.Len] :: F) ∧ SlR R_api_Segment J106 v109 l108 ∧ SlR (tInt' .u32) J106 v119 l118 ∧ SlR R_api_Raw J106 v122 l121) ?_ ?_
     ·refine FW.loop q27 (FL.ind (fun q σ w => ∃ (n83 : Int) (n84 : Int) (l85 : (List T_api_Segment)) (n88 : Int) (n89 : Int) (n90 : Int) (b91 : Bool) (b92 : Bool) (n93 : Int) (n94 : Int) (l95 : (List Int)) (l98 : (List T_api_Raw)) (v86 : Value) (v96 : Value) (v99 : Value) (J82 : IMem), policy_Apply.l2 q y52 n83 n84 l85 n88 n89 n90 b91 b92 n93 n94 l95 l98 = some o103 ∧ q ≤ q27 ∧ Has σ [(4, pt b1), (5, pt b2), (6, pt b3), (9, pt b59), (22, vx0), (23, .int .i64 (x0.length : Int)), (24, .int .i64 n9), (42, y52v1), (43, .int .i64 (y52.Deeds.length : Int)), (44, .int .i64 n83)] ∧ J68.le J82 ∧ Own J82 w (.bk b59 51 [y52v0, y52v1, .int .i64 y52.Verdict] :: .bk b3 40 [.int .i64 0, (.slice none 0 0), .int .u32 0, .int .i64 0, .int .i64 0, .bool false, .bool false, .int .u32 0, .int .u32 0, (.slice none 0 0), (.slice none 0 0)] :: .bk b2 40 [.int .i64 n84, v86, .int .u32 n88, .int .i64 n89, .int .i64 n90, .bool b91, .bool b92, .int .u32 n93, .int .u32 n94, v96, v99] :: .bk b1 36 [.int .u32 x1.Addr, .int .i64 x1.Len] :: F) ∧ SlR R_api_Segment J82 v86 l85 ∧ SlR (tInt' .u32) J82 v96 l95 ∧ SlR R_api_Raw J82 v99 l98) ?_ ?_ q27 q27 _ _ (Nat.le_refl _) ⟨0, n10, l11, n14, n15, n16, b17, b18, n19, n20, l21, l24, v12, v22, v25, J68, hl105, Nat.le_refl _, ⟨rfl, rfl, rfl, rfl, rfl, rfl, rfl, rfl, rfl, rfl, trivial⟩, (IMem.le.refl _), S, h13, h23, h26⟩)
      ·rintro σ w ⟨n83, n84, l85, n88, n89, n90, b91, b92, n93, n94, l95, l98, v86, v96, v99, J82, H, _⟩; cases H
      rintro q101 σ w ⟨n83, n84, l85, n88, n89, n90, b91, b92, n93, n94, l95, l98, v86, v96, v99, J82, H, hq124, hσ, hL102, S, h87, h97, h100⟩
      have y52h1 := y52h1.mono hL102
      have hG := hG.mono hL102
      rw [hσ.eq]
      rw [policy_Apply.l2] at H
      refine sr <| u rfl (x_bin rfl rfl rfl) <| sq ?_
      by_cases cc125 : n83 < (y52.Deeds.length : Int)
      ·rw [if_pos cc125] at H
       refine cT rfl (deT cc125) <| sk <| sq <| bk <| sq <| rg ?_
       obtain ⟨y126, h127, H⟩ := obx H
       refine g rfl (o_ia (r := R_api_Deed) tsl49 rfl rfl y52h1 rfl h127 fun b128 o129 cs130 hr131 hc132 => ?_)
       obtain rfl := hr131
       refine u rfl (x_ldA tag29 rfl (S.loadI hc132) rfl) <| g rfl (o_all tz29 S fun b133 w S => g rfl (o_stA tag29 S 0 rfl rfl rfl rfl (c1 rfl (c1 rfl (c1 rfl c0))) rfl fun w S => rg (u rfl (x_ldA tag29 rfl (S.loadW 0 rfl) rfl) (u rfl (x_ldA tag40 rfl (S.loadW 3 rfl) rfl) ?_))))
       obtain ⟨y134, hy135, H⟩ := obx H
       refine g rfl (cl fb58 (@policy_Do.ok q101 y126 (T_api_Attrs.mk n84 l85 n88 n89 n90 b91 b92 n93 n94 l95 l98) _ _ _ _ _ _ _ hG S h87 h97 h100 hy135) rfl ?_)
       rintro _ w ⟨y134_0v1, y134_0v9, y134_0v10, J136, hJ137, rfl, y134_0h1, y134_0h9, y134_0h10, S⟩
       have hL102 := hL102.trans hJ137
       refine g rfl (o_stA tag40 S 3 rfl rfl rfl rfl (c1 rfl (c1 y134_0h1.one (c1 rfl (c1 rfl (c1 rfl (c1 rfl (c1 rfl (c1 rfl (c1 rfl (c1 y134_0h9.one (c1 y134_0h10.one c0))))))))))) rfl fun w S => FW.anew [(4, pt b1), (5, pt b2), (6, pt b3), (9, pt b59), (22, vx0), (23, .int .i64 (x0.length : Int)), (24, .int .i64 n9), (42, y52v1), (43, .int .i64 (y52.Deeds.length : Int)), (44, .int .i64 n83)] ⟨rfl, rfl, rfl, rfl, rfl, rfl, rfl, rfl, rfl, rfl, trivial⟩ fun σ => rg (u rfl (x_bin rfl rfl rfl) (mv (.int .i64 (i64 (n83 + 1))) rfl ⟨q101, Nat.le_refl _, (i64 (n83 + 1)), y134.Origin, y134.Path, y134.Next, y134.Med, y134.Pref, y134.Atomic, y134.HasAggr, y134.AggrAS, y134.AggrAddr, y134.Comms, y134.Raws, y134_0v1, y134_0v9, y134_0v10, J136, H, (Nat.le_of_succ_le hq124), ⟨rfl, rfl, rfl, rfl, rfl, rfl, rfl, rfl, rfl, rfl, trivial⟩, hL102, (S.sel 5 [1, 2, 3, 4] rfl), y134_0h1, y134_0h9, y134_0h10⟩)))
      rw [if_neg cc125] at H
      refine cF rfl (deF cc125) <| ex ⟨n84, l85, n88, n89, n90, b91, b92, n93, n94, l95, l98, v86, v96, v99, J82, (si H), ⟨rfl, rfl, rfl, rfl, rfl, rfl, rfl, trivial⟩, hL102, S, h87, h97, h100⟩
     rintro σ w ⟨n107, l108, n111, n112, n113, b114, b115, n116, n117, l118, l121, v109, v119, v122, J106, ho, hσ, hL102, S, h110, h120, h123⟩
     subst ho
     have H := HO104
     try dsimp only at H
     have hI := hI.trans hL102
     have hL28 := hL28.trans hL102
     rw [hσ.eq]
     refine sr <| u rfl (x_fa tf51_2 rfl) <| u rfl (x_ld tsc3 rfl (S.load 0 rfl 2 rfl)) <| bk <| sr <| u rfl (x_bin rfl rfl rfl) <| mv (.bool (y52.Verdict == 1)) rfl ?_
     by_cases cc138 : y52.Verdict = 1
     ·rw [if_pos cc138] at H
      refine cT rfl (eqT cc138) <| sr <| u rfl (x_ldA tag40 rfl (S.loadW 2 rfl) rfl) <| g rfl (o_stA tag40 S 1 rfl rfl rfl rfl (c1 rfl (c1 h110.one (c1 rfl (c1 rfl (c1 rfl (c1 rfl (c1 rfl (c1 rfl (c1 rfl (c1 h120.one (c1 h123.one c0))))))))))) rfl fun w S => mv (.bool true) rfl (rt ?_))
      obtain rfl := si H
      obtain rfl := si HO30
      exact ⟨_, ⟨_, _, _, rfl, rfl, ldA tag40 (S.loadW 1 rfl) rfl, ⟨_, rfl, rfl⟩⟩, ⟨v109, v119, v122, J106, hI, rfl, h110, h120, h123, (S.sel 4 [] rfl)⟩⟩
     rw [if_neg cc138] at H
     refine cF rfl (eqF cc138) <| sr <| u rfl (x_bin rfl rfl rfl) <| mv (.bool (y52.Verdict == 2)) rfl ?_
     by_cases cc139 : y52.Verdict = 2
     ·rw [if_pos cc139] at H
      refine cT rfl (eqT cc139) <| ex ⟨n107, l108, n111, n112, n113, b114, b115, n116, n117, l118, l121, v109, v119, v122, J106, (si H), ⟨rfl, trivial⟩, hL28, (S.sel 4 [1, 2, 3] rfl), h110, h120, h123⟩
     rw [if_neg cc139] at H
     refine cF rfl (eqF cc139) <| sk <| rg <| u rfl (x_bin rfl rfl rfl) <| mv (.int .i64 (i64 (n9 + 1))) rfl ⟨q27, Nat.le_refl _, (i64 (n9 + 1)), n107, l108, n111, n112, n113, b114, b115, n116, n117, l118, l121, v109, v119, v122, J106, H, (Nat.le_of_succ_le hq50), ⟨rfl, rfl, rfl, rfl, rfl, rfl, trivial⟩, hL28, (S.sel 4 [1, 2, 3] rfl), h110, h120, h123⟩
    rintro σ w ⟨J67, ho, hσ, hL63, S⟩
    subst ho
    have H := HO65
    try dsimp only at H
    have h13 := h13.mono hL63
    have h23 := h23.mono hL63
    have h26 := h26.mono hL63
    have hL28 := hL28.trans hL63
    rw [hσ.eq]
    refine rg <| u rfl (x_bin rfl rfl rfl) <| mv (.int .i64 (i64 (n9 + 1))) rfl ⟨q27, Nat.le_refl _, (i64 (n9 + 1)), n10, l11, n14, n15, n16, b17, b18, n19, n20, l21, l24, v12, v22, v25, J67, H, (Nat.le_of_succ_le hq50), ⟨rfl, rfl, rfl, rfl, rfl, rfl, trivial⟩, hL28, (S.sel 4 [1, 2, 3] rfl), h13, h23, h26⟩
   rw [if_neg cc51] at H
   refine cF rfl (deF cc51) <| ex ⟨n10, l11, n14, n15, n16, b17, b18, n19, n20, l21, l24, v12, v22, v25, J8, (si H), ⟨rfl, trivial⟩, hL28, S, h13, h23, h26⟩
  rintro σ w ⟨n33, l34, n37, n38, n39, b40, b41, n42, n43, l44, l47, v35, v45, v48, J32, ho, hσ, hL28, S, h36, h46, h49⟩
  subst ho
  have H := HO30
  try dsimp only at H
  have hI := hI.trans hL28
  rw [hσ.eq]
  refine sr <| u rfl (x_bld tz40 tpl40 rfl PC.nil rfl) <| g rfl (o_stA tag40 S 0 rfl rfl rfl rfl (c1 rfl (c1 rfl (c1 rfl (c1 rfl (c1 rfl (c1 rfl (c1 rfl (c1 rfl (c1 rfl (c1 rfl (c1 rfl c0))))))))))) rfl fun w S => mv (.bool false) rfl (rt ?_))
  obtain rfl := si H
  exact ⟨_, ⟨_, _, _, rfl, rfl, ldA tag40 (S.loadW 0 rfl) rfl, ⟨_, rfl, rfl⟩⟩, ⟨(.slice none 0 0), (.slice none 0 0), (.slice none 0 0), J32, hI, rfl, (SlR.nil _ _), (SlR.nil _ _), (SlR.nil _ _), (S.sel 3 [] rfl)⟩⟩
 rw [if_neg cc7] at H
 refine cT rfl (noT (vaF cc7)) <| sr <| u rfl (x_bld tz40 tpl40 rfl PC.nil rfl) <| g rfl (o_stA tag40 S 0 rfl rfl rfl rfl (c1 rfl (c1 rfl (c1 rfl (c1 rfl (c1 rfl (c1 rfl (c1 rfl (c1 rfl (c1 rfl (c1 rfl (c1 rfl c0))))))))))) rfl fun w S => mv (.bool false) rfl (rt ?_))
 obtain rfl := si H
 exact ⟨_, ⟨_, _, _, rfl, rfl, ldA tag40 (S.loadW 0 rfl) rfl, ⟨_, rfl, rfl⟩⟩, ⟨(.slice none 0 0), (.slice none 0 0), (.slice none 0 0), I, hI, rfl, (SlR.nil _ _), (SlR.nil _ _), (SlR.nil _ _), (S.sel 3 [] rfl)⟩⟩
def speculumlaw14_awake.f (k : Nat) : Option Bool := ((speculumref04_Zero.f k).bind fun y17 => ((policy_Apply.f k ([(T_api_Rule.mk ([(T_api_Cond.mk 1 false 0 0 (⟨#[]⟩) [(T_api_Range.mk (T_api_Prefix.mk 167772160 8) 8 24)] [])]) [(T_api_Deed.mk 1 200 0)] 1)]) (T_api_Prefix.mk 167772160 16) y17).bind fun y21 => ((speculumref04_Zero.f k).bind fun y26 => ((policy_Apply.f k ([(T_api_Rule.mk ([(T_api_Cond.mk 1 false 0 0 (⟨#[]⟩) [(T_api_Range.mk (T_api_Prefix.mk 167772160 8) 8 24)] [])]) [(T_api_Deed.mk 1 200 0)] 1)]) (T_api_Prefix.mk 184549376 16) y26).bind fun y30 => (if y21.2 = true then (if y21.1.Pref = 200 then (if y30.2 = true then (some false) else ((policy_Right.f k ([(T_api_Rule.mk ([(T_api_Cond.mk 1 false 0 0 (⟨#[]⟩) [(T_api_Range.mk (T_api_Prefix.mk 167772160 8) 8 24)] [])]) [(T_api_Deed.mk 1 200 0)] 1)])).bind fun y38 => (some y38))) else (some false)) else (some false))))))
abbrev speculumlaw14_awake.C (k : Nat) : Prop := ∀ {F : List It} {I : IMem} {w : World} {r : Bool}, Glob I → Own I w (F) → speculumlaw14_awake.f k = some r →
    Calls Tryz.prog 11 #[] w fun e w' => ∃ v, e = .returned v ∧ v = .bool r ∧ Own I w' (F)
theorem speculumlaw14_awake.ok (k : Nat) : speculumlaw14_awake.C k := by
 intro F I w r hG S H
 have hI := IMem.le.refl I
 rw [speculumlaw14_awake.f] at H
 refine Calls.ofFW (args := []) Tryz.func11 rfl rfl <| sr <| mv (.bool false) rfl <| sr <| u rfl (x_bld tz36 tpl36 rfl (.one rfl (.one rfl PC.nil)) rfl) <| u rfl (x_bld tz69 tpl69 rfl (.agg (.one rfl (.one rfl PC.nil))) rfl) <| g rfl (o_bsl tsl24 tz69 rfl rfl rfl rfl (.agg PC.nil) rfl S fun b1 w S => ?_)
 obtain ⟨J2, hJ4, S, h3⟩ := S.freeze (r := R_api_Range) (l := [(T_api_Range.mk (T_api_Prefix.mk 167772160 8) 8 24)]) 0 rfl ⟨[.int .u32 167772160, .int .i64 8, .int .i64 8, .int .i64 24], _, rfl, rfl, rfl⟩ rfl rfl
 have hI := hI.trans hJ4
 have hG := hG.mono hJ4
 refine u rfl (x_bld tz27 tpl27 rfl (.one rfl (.one h3.one PC.nil)) rfl) <| g rfl (o_bsl tsl48 tz27 rfl rfl rfl rfl (.agg PC.nil) rfl S fun b5 w S => ?_)
 obtain ⟨J6, hJ8, S, h7⟩ := S.freeze (r := R_api_Cond) (l := [(T_api_Cond.mk 1 false 0 0 (⟨#[]⟩) [(T_api_Range.mk (T_api_Prefix.mk 167772160 8) 8 24)] [])]) 0 rfl ⟨[.int .i64 1, .bool false, .int .i64 0, .int .u32 0, .string (⟨#[]⟩), (.slice (some ⟨b1, 0, none⟩) 1 1), (.slice none 0 0)], _, rfl, ⟨(.slice (some ⟨b1, 0, none⟩) 1 1), (.slice none 0 0), rfl, h3, (SlR.nil _ _)⟩, rfl⟩ rfl rfl
 have hI := hI.trans hJ8
 have hG := hG.mono hJ8
 refine u rfl (x_bld tz29 tpl29 rfl (.one rfl (.one rfl PC.nil)) rfl) <| g rfl (o_bsl tsl49 tz29 rfl rfl rfl rfl (.agg PC.nil) rfl S fun b9 w S => ?_)
 obtain ⟨J10, hJ12, S, h11⟩ := S.freeze (r := R_api_Deed) (l := [(T_api_Deed.mk 1 200 0)]) 0 rfl ⟨[.int .i64 1, .int .i64 200, .int .u32 0], _, rfl, rfl, rfl⟩ rfl rfl
 have h7 := h7.mono hJ12
 have hI := hI.trans hJ12
 have hG := hG.mono hJ12
 refine u rfl (x_bld tz51 tpl51 rfl (.one h7.one (.one h11.one (.one rfl PC.nil))) rfl) <| g rfl (o_bsl tsl22 tz51 rfl rfl rfl rfl (.agg PC.nil) rfl S fun b13 w S => ?_)
 obtain ⟨J14, hJ16, S, h15⟩ := S.freeze (r := R_api_Rule) (l := [(T_api_Rule.mk ([(T_api_Cond.mk 1 false 0 0 (⟨#[]⟩) [(T_api_Range.mk (T_api_Prefix.mk 167772160 8) 8 24)] [])]) [(T_api_Deed.mk 1 200 0)] 1)]) 0 rfl ⟨[(.slice (some ⟨b5, 0, none⟩) 1 1), (.slice (some ⟨b9, 0, none⟩) 1 1), .int .i64 1], _, rfl, ⟨(.slice (some ⟨b5, 0, none⟩) 1 1), (.slice (some ⟨b9, 0, none⟩) 1 1), rfl, h7, h11⟩, rfl⟩ rfl rfl
 have hI := hI.trans hJ16
 have hG := hG.mono hJ16
 refine mv ((.slice (some ⟨b13, 0, none⟩) 1 1)) rfl <| sq <| FW.anew [(1, (.slice (some ⟨b13, 0, none⟩) 1 1))] ⟨rfl, trivial⟩ fun σ => rg <| mv ((.slice (some ⟨b13, 0, none⟩) 1 1)) rfl <| u rfl (x_bld tz36 tpl36 rfl (.one rfl (.one rfl PC.nil)) rfl) ?_
 obtain ⟨y17, hy18, H⟩ := obx H
 refine g rfl (cl fb36 (@speculumref04_Zero.ok k _ _ _ _ hG S hy18) rfl ?_)
 rintro _ w ⟨y17_0v1, y17_0v9, y17_0v10, J19, hJ20, rfl, y17_0h1, y17_0h9, y17_0h10, S⟩
 have h15 := h15.mono hJ20
 have hI := hI.trans hJ20
 have hG := hG.mono hJ20
 obtain ⟨y21, hy22, H⟩ := obx H
 refine g rfl (cl fb22 (@policy_Apply.ok k ([(T_api_Rule.mk ([(T_api_Cond.mk 1 false 0 0 (⟨#[]⟩) [(T_api_Range.mk (T_api_Prefix.mk 167772160 8) 8 24)] [])]) [(T_api_Deed.mk 1 200 0)] 1)]) (T_api_Prefix.mk 167772160 16) y17 _ _ _ _ _ _ _ _ hG S h15 y17_0h1 y17_0h9 y17_0h10 hy22) rfl ?_)
 rintro _ w ⟨y21_0v1, y21_0v9, y21_0v10, J23, hJ24, rfl, y21_0h1, y21_0h9, y21_0h10, S⟩
 have h15 := h15.mono hJ24
 have hI := hI.trans hJ24
 have hG := hG.mono hJ24
 refine mv (.tuple #[.agg #[.int .i64 y21.1.Origin, y21_0v1, .int .u32 y21.1.Next, .int .i64 y21.1.Med, .int .i64 y21.1.Pref, .bool y21.1.Atomic, .bool y21.1.HasAggr, .int .u32 y21.1.AggrAS, .int .u32 y21.1.AggrAddr, y21_0v9, y21_0v10], .bool y21.2]) rfl <| u rfl (x_ext rfl rfl) <| u rfl (x_ext rfl rfl) <| g rfl (o_all tz40 S fun b25 w S => g rfl (o_stA tag40 S 0 rfl rfl rfl rfl (c1 rfl (c1 y21_0h1.one (c1 rfl (c1 rfl (c1 rfl (c1 rfl (c1 rfl (c1 rfl (c1 rfl (c1 y21_0h9.one (c1 y21_0h10.one c0))))))))))) rfl fun w S => mv (.bool y21.2) rfl (sq (FW.anew [(1, (.slice (some ⟨b13, 0, none⟩) 1 1)), (2, pt b25), (3, .bool y21.2)] ⟨rfl, rfl, rfl, trivial⟩ fun σ => rg (mv ((.slice (some ⟨b13, 0, none⟩) 1 1)) rfl (u rfl (x_bld tz36 tpl36 rfl (.one rfl (.one rfl PC.nil)) rfl) ?_))))))
 obtain ⟨y26, hy27, H⟩ := obx H
 refine g rfl (cl fb36 (@speculumref04_Zero.ok k _ _ _ _ hG S hy27) rfl ?_)
 rintro _ w ⟨y26_0v1, y26_0v9, y26_0v10, J28, hJ29, rfl, y26_0h1, y26_0h9, y26_0h10, S⟩
 have h15 := h15.mono hJ29
 have hI := hI.trans hJ29
 have hG := hG.mono hJ29
 obtain ⟨y30, hy31, H⟩ := obx H
 refine g rfl (cl fb22 (@policy_Apply.ok k ([(T_api_Rule.mk ([(T_api_Cond.mk 1 false 0 0 (⟨#[]⟩) [(T_api_Range.mk (T_api_Prefix.mk 167772160 8) 8 24)] [])]) [(T_api_Deed.mk 1 200 0)] 1)]) (T_api_Prefix.mk 184549376 16) y26 _ _ _ _ _ _ _ _ hG S h15 y26_0h1 y26_0h9 y26_0h10 hy31) rfl ?_)
 rintro _ w ⟨y30_0v1, y30_0v9, y30_0v10, J32, hJ33, rfl, y30_0h1, y30_0h9, y30_0h10, S⟩
 have h15 := h15.mono hJ33
 have hI := hI.trans hJ33
 have hG := hG.mono hJ33
 refine mv (.tuple #[.agg #[.int .i64 y30.1.Origin, y30_0v1, .int .u32 y30.1.Next, .int .i64 y30.1.Med, .int .i64 y30.1.Pref, .bool y30.1.Atomic, .bool y30.1.HasAggr, .int .u32 y30.1.AggrAS, .int .u32 y30.1.AggrAddr, y30_0v9, y30_0v10], .bool y30.2]) rfl <| u rfl (x_ext rfl rfl) <| u rfl (x_ext rfl rfl) <| g rfl (o_all tz40 S fun b34 w S => g rfl (o_stA tag40 S 0 rfl rfl rfl rfl (c1 rfl (c1 y30_0h1.one (c1 rfl (c1 rfl (c1 rfl (c1 rfl (c1 rfl (c1 rfl (c1 rfl (c1 y30_0h9.one (c1 y30_0h10.one c0))))))))))) rfl fun w S => mv (.bool y30.2) rfl (sq (FW.anew [(1, (.slice (some ⟨b13, 0, none⟩) 1 1)), (2, pt b25), (3, .bool y21.2), (5, .bool y30.2)] ⟨rfl, rfl, rfl, rfl, trivial⟩ fun σ => rg (mv (.bool y21.2) rfl (mv (.bool y21.2) rfl ?_))))))
 by_cases cc35 : y21.2 = true
 ·rw [if_pos cc35] at H
  refine gu rfl rfl rfl cc35 (x_fa tf40_4 rfl) <| gu rfl rfl rfl cc35 (x_ld tsc3 rfl (S.load 1 rfl 4 rfl)) <| gu rfl rfl rfl cc35 (x_bin rfl rfl rfl) <| u rfl (x_pickTV (v := .bool (y21.1.Pref == 200)) rfl cc35 rfl) <| mv (.bool (y21.1.Pref == 200)) rfl ?_
  by_cases cc36 : y21.1.Pref = 200
  ·rw [if_pos cc36] at H
   refine gu rfl rfl rfl (eqT cc36) (x_movV (v := .bool y30.2) rfl) <| gu rfl rfl rfl (eqT cc36) (x_not' rfl) <| u rfl (x_pickTV (v := .bool (!y30.2)) rfl (eqT cc36) rfl) <| mv (.bool (!y30.2)) rfl ?_
   by_cases cc37 : y30.2 = true
   ·rw [if_pos cc37] at H
    refine gn rfl rfl rfl (noF cc37) <| gn rfl rfl rfl (noF cc37) <| u rfl (x_pickFV (v := .bool false) rfl (noF cc37) rfl) <| mv (.bool false) rfl <| rt ?_
    obtain rfl := si H
    exact ⟨_, ⟨_, rfl, rfl⟩, ⟨rfl, ((S.sel 6 [] rfl).weaken hI)⟩⟩
   rw [if_neg cc37] at H
   refine gu rfl rfl rfl (noT (vaF cc37)) (x_movV (v := (.slice (some ⟨b13, 0, none⟩) 1 1)) rfl) ?_
   obtain ⟨y38, hy39, H⟩ := obx H
   refine OK.gt rfl rfl rfl (noT (vaF cc37)) (cl fb12 (@policy_Right.ok k ([(T_api_Rule.mk ([(T_api_Cond.mk 1 false 0 0 (⟨#[]⟩) [(T_api_Range.mk (T_api_Prefix.mk 167772160 8) 8 24)] [])]) [(T_api_Deed.mk 1 200 0)] 1)]) _ _ _ _ _ hG S h15 hy39) rfl ?_)
   rintro _ w ⟨rfl, S⟩
   refine u rfl (x_pickTV (v := .bool y38) rfl (noT (vaF cc37)) rfl) <| mv (.bool y38) rfl <| rt ?_
   obtain rfl := si H
   exact ⟨_, ⟨_, rfl, rfl⟩, ⟨rfl, ((S.sel 6 [] rfl).weaken hI)⟩⟩
  rw [if_neg cc36] at H
  refine gn rfl rfl rfl (eqF cc36) <| gn rfl rfl rfl (eqF cc36) <| u rfl (x_pickFV (v := .bool false) rfl (eqF cc36) rfl) <| mv (.bool false) rfl <| gn rfl rfl rfl rfl <| gn rfl rfl rfl rfl <| u rfl (x_pickFV (v := .bool false) rfl rfl rfl) <| mv (.bool false) rfl <| rt ?_
  obtain rfl := si H
  exact ⟨_, ⟨_, rfl, rfl⟩, ⟨rfl, ((S.sel 6 [] rfl).weaken hI)⟩⟩
 rw [if_neg cc35] at H
 refine gn rfl rfl rfl (vaF cc35) <| gn rfl rfl rfl (vaF cc35) <| gn rfl rfl rfl (vaF cc35) <| u rfl (x_pickFV (v := .bool false) rfl (vaF cc35) rfl) <| mv (.bool false) rfl <| gn rfl rfl rfl rfl <| gn rfl rfl rfl rfl <| u rfl (x_pickFV (v := .bool false) rfl rfl rfl) <| mv (.bool false) rfl <| gn rfl rfl rfl rfl <| gn rfl rfl rfl rfl <| u rfl (x_pickFV (v := .bool false) rfl rfl rfl) <| mv (.bool false) rfl <| rt ?_
 obtain rfl := si H
 exact ⟨_, ⟨_, rfl, rfl⟩, ⟨rfl, ((S.sel 6 [] rfl).weaken hI)⟩⟩
def speculumref02_Bit.l0 : Nat → Int → Int → Int → Option Int
  | 0, _, _, _ => none
  | k + 1, x1, n4, n5 => (if n5 > x1 then (speculumref02_Bit.l0 k x1 (i64 (n4.tdiv 2)) (i64 (n5 - 1))) else (some n4))
def speculumref02_Bit.f (k : Nat) (x0 : Int) (x1 : Int) : Option Int := (if x1 < 0 then (some 0) else (if x1 > 31 then (some 0) else ((speculumref02_Bit.l0 k x1 (i64 x0) 31).bind fun n12 => (some (n12.tmod 2)))))
abbrev speculumref02_Bit.C (k : Nat) : Prop := ∀ {x0 : Int} {x1 : Int} {F : List It} {I : IMem} {w : World} {r : Int}, Glob I → Own I w (F) → speculumref02_Bit.f k x0 x1 = some r →
    Calls Tryz.prog 143 #[.int .u32 x0, .int .i64 x1] w fun e w' => ∃ v, e = .returned v ∧ v = .int .i64 r ∧ Own I w' (F)
theorem speculumref02_Bit.ok (k : Nat) : speculumref02_Bit.C k := by
 intro x0 x1 F I w r hG S H
 have hI := IMem.le.refl I
 rw [speculumref02_Bit.f] at H
 refine Calls.ofFW (args := [.int .u32 x0, .int .i64 x1]) Tryz.func143 rfl rfl <| sr <| mv (.int .i64 0) rfl <| sq <| sr <| mv (.int .i64 x1) rfl <| u rfl (x_bin rfl rfl rfl) <| mv (.bool (decide (x1 < 0))) rfl ?_
 by_cases cc1 : x1 < 0
 ·rw [if_pos cc1] at H
  refine gn rfl rfl rfl (deT cc1) <| gn rfl rfl rfl (deT cc1) <| u rfl (x_pickTV (v := .bool true) rfl (deT cc1) rfl) <| cT rfl rfl <| sr <| mv (.int .i64 0) rfl <| rt ?_
  obtain rfl := si H
  exact ⟨_, ⟨_, rfl, rfl⟩, ⟨rfl, (S.weaken hI)⟩⟩
 rw [if_neg cc1] at H
 refine gu rfl rfl rfl (deF cc1) (x_movV (v := .int .i64 x1) rfl) <| gu rfl rfl rfl (deF cc1) (x_bin rfl rfl rfl) <| u rfl (x_pickFV (v := .bool (decide (x1 > 31))) rfl (deF cc1) rfl) ?_
 by_cases cc2 : x1 > 31
 ·rw [if_pos cc2] at H
  refine cT rfl (deT cc2) <| sq <| FW.anew [] trivial fun σ => rg <| mv (.int .i64 0) rfl <| rt ?_
  obtain rfl := si H
  exact ⟨_, ⟨_, rfl, rfl⟩, ⟨rfl, (S.weaken hI)⟩⟩
 rw [if_neg cc2] at H
 refine cF rfl (deF cc2) <| sk <| sq <| FW.anew [(0, .int .u32 x0), (1, .int .i64 x1)] ⟨rfl, rfl, trivial⟩ fun σ => rg <| mv (.int .u32 x0) rfl <| u rfl (x_conv tint3 tint_23 rfl) <| mv (.int .i64 (i64 x0)) rfl <| sq <| sr <| mv (.int .i64 31) rfl <| bk ?_
 obtain ⟨o8, hl10, HO9⟩ := obx H
 refine FW.cutX 0 (fun σ w => ∃ (n12 : Int) (J11 : IMem), n12 = o8 ∧ Has σ [(5, .int .i64 n12)] ∧ I.le J11 ∧ Own J11 w (F)) ?_ ?_
 ·refine FW.loop k (FL.ind (fun q σ w => ∃ (n4 : Int) (n5 : Int) (J3 : IMem), speculumref02_Bit.l0 q x1 n4 n5 = some o8 ∧ q ≤ k ∧ Has σ [(1, .int .i64 x1), (5, .int .i64 n4), (6, .int .i64 n5)] ∧ I.le J3 ∧ Own J3 w (F)) ?_ ?_ k k _ _ (Nat.le_refl _) ⟨(i64 x0), 31, I, hl10, Nat.le_refl _, ⟨rfl, rfl, rfl, trivial⟩, (IMem.le.refl _), S⟩)
  ·rintro σ w ⟨n4, n5, J3, H, _⟩; cases H
  rintro q6 σ w ⟨n4, n5, J3, H, hq13, hσ, hL7, S⟩
  rw [hσ.eq]
  rw [speculumref02_Bit.l0] at H
  refine sq <| sr <| mv (.int .i64 n5) rfl <| mv (.int .i64 x1) rfl <| u rfl (x_bin rfl rfl rfl) ?_
  by_cases cc14 : n5 > x1
  ·rw [if_pos cc14] at H
   refine cT rfl (deT cc14) <| sk <| sq <| bk <| rg <| mv (.int .i64 n4) rfl <| u rfl (x_quo rfl rfl (by decide)) <| mv (.int .i64 (i64 (n4.tdiv 2))) rfl <| rg <| mv (.int .i64 n5) rfl <| u rfl (x_bin rfl rfl rfl) <| mv (.int .i64 (i64 (n5 - 1))) rfl ⟨q6, Nat.le_refl _, (i64 (n4.tdiv 2)), (i64 (n5 - 1)), J3, H, (Nat.le_of_succ_le hq13), ⟨rfl, rfl, rfl, trivial⟩, hL7, S⟩
  rw [if_neg cc14] at H
  refine cF rfl (deF cc14) <| ex ⟨n4, J3, (si H), ⟨rfl, trivial⟩, hL7, S⟩
 rintro σ w ⟨n12, J11, ho, hσ, hL7, S⟩
 subst ho
 have H := HO9
 have hI := hI.trans hL7
 rw [hσ.eq]
 refine sr <| mv (.int .i64 n12) rfl <| u rfl (x_rem rfl rfl (by decide)) <| mv (.int .i64 (n12.tmod 2)) rfl <| rt ?_
 obtain rfl := si H
 exact ⟨_, ⟨_, rfl, rfl⟩, ⟨rfl, (S.weaken hI)⟩⟩
def speculumref02_Norm.l0 : Nat → Int → Int → Int → Int → Option Int
  | 0, _, _, _, _ => none
  | k + 1, x0, n9, n15, n16 => (if n16 < 32 then (if n16 < n9 then ((speculumref02_Bit.f k x0 n16).bind fun y27 => (speculumref02_Norm.l0 k x0 n9 (i64 ((i64 (2 * n15)) + y27)) (i64 (n16 + 1)))) else (speculumref02_Norm.l0 k x0 n9 (i64 (2 * n15)) (i64 (n16 + 1)))) else (some n15))
def speculumref02_Norm.f (k : Nat) (x0 : Int) (x1 : Int) : Option T_api_Prefix := ((if x1 < 0 then (some 0) else (some x1)).bind fun n3 => ((if n3 > 32 then (some 32) else (some n3)).bind fun n9 => ((speculumref02_Norm.l0 k x0 n9 0 0).bind fun n23 => (some (T_api_Prefix.mk (u32 n23) n9)))))
abbrev speculumref02_Norm.C (k : Nat) : Prop := ∀ {x0 : Int} {x1 : Int} {F : List It} {I : IMem} {w : World} {r : T_api_Prefix}, Glob I → Own I w (F) → speculumref02_Norm.f k x0 x1 = some r →
    Calls Tryz.prog 118 #[.int .u32 x0, .int .i64 x1] w fun e w' => ∃ v, e = .returned v ∧ v = .agg #[.int .u32 r.Addr, .int .i64 r.Len] ∧ Own I w' (F)
theorem speculumref02_Norm.ok (k : Nat) : speculumref02_Norm.C k := by
 intro x0 x1 F I w r hG S H
 have hI := IMem.le.refl I
 rw [speculumref02_Norm.f] at H
 refine Calls.ofFW (args := [.int .u32 x0, .int .i64 x1]) Tryz.func118 rfl rfl <| sr <| g rfl (o_all tz36 S fun b1 w S => sq (rg (mv (.int .i64 x1) rfl (mv (.int .i64 x1) rfl (sq (sq (rg (mv (.int .i64 x1) rfl (u rfl (x_bin rfl rfl rfl) ?_)))))))))
 obtain ⟨o4, H, HO5⟩ := obx H
 have hL6 := IMem.le.refl I
 refine FW.cutN (fun σ w => ∃ (n3 : Int) (J2 : IMem), n3 = o4 ∧ Has σ [(0, .int .u32 x0), (4, pt b1), (5, .int .i64 n3)] ∧ I.le J2 ∧ Own J2 w (.bk b1 36 [.int .u32 0, .int .i64 0] :: F)) ?_ ?_
 ·by_cases cc7 : x1 < 0
  ·rw [if_pos cc7] at H
   refine cT rfl (deT cc7) <| rg <| mv (.int .i64 0) rfl ⟨0, I, (si H), ⟨rfl, rfl, rfl, trivial⟩, hL6, S⟩
  rw [if_neg cc7] at H
  refine cF rfl (deF cc7) <| sk ⟨x1, I, (si H), ⟨rfl, rfl, rfl, trivial⟩, hL6, S⟩
 rintro σ w ⟨n3, J2, ho, hσ, hL6, S⟩
 subst ho
 have H := HO5
 have hI := hI.trans hL6
 have hG := hG.mono hL6
 rw [hσ.eq]
 refine sq <| sr <| mv (.int .i64 n3) rfl <| u rfl (x_bin rfl rfl rfl) ?_
 obtain ⟨o10, H, HO11⟩ := obx H
 have hL12 := IMem.le.refl J2
 refine FW.cutN (fun σ w => ∃ (n9 : Int) (J8 : IMem), n9 = o10 ∧ Has σ [(0, .int .u32 x0), (4, pt b1), (5, .int .i64 n9)] ∧ J2.le J8 ∧ Own J8 w (.bk b1 36 [.int .u32 0, .int .i64 0] :: F)) ?_ ?_
 ·by_cases cc13 : n3 > 32
  ·rw [if_pos cc13] at H
   refine cT rfl (deT cc13) <| rg <| mv (.int .i64 32) rfl ⟨32, J2, (si H), ⟨rfl, rfl, rfl, trivial⟩, hL12, S⟩
  rw [if_neg cc13] at H
  refine cF rfl (deF cc13) <| sk ⟨n3, J2, (si H), ⟨rfl, rfl, rfl, trivial⟩, hL12, S⟩
 rintro σ w ⟨n9, J8, ho, hσ, hL12, S⟩
 subst ho
 have H := HO11
 have hI := hI.trans hL12
 have hG := hG.mono hL12
 rw [hσ.eq]
 refine sr <| mv (.int .i64 0) rfl <| sq <| sr <| mv (.int .i64 0) rfl <| bk ?_
 obtain ⟨o19, hl21, HO20⟩ := obx H
 refine FW.cutX 0 (fun σ w => ∃ (n23 : Int) (J22 : IMem), n23 = o19 ∧ Has σ [(4, pt b1), (5, .int .i64 n9), (6, .int .i64 n23)] ∧ J8.le J22 ∧ Own J22 w (.bk b1 36 [.int .u32 0, .int .i64 0] :: F)) ?_ ?_
 ·refine FW.loop k (FL.ind (fun q σ w => ∃ (n15 : Int) (n16 : Int) (J14 : IMem), speculumref02_Norm.l0 q x0 n9 n15 n16 = some o19 ∧ q ≤ k ∧ Has σ [(0, .int .u32 x0), (4, pt b1), (5, .int .i64 n9), (6, .int .i64 n15), (7, .int .i64 n16)] ∧ J8.le J14 ∧ Own J14 w (.bk b1 36 [.int .u32 0, .int .i64 0] :: F)) ?_ ?_ k k _ _ (Nat.le_refl _) ⟨0, 0, J8, hl21, Nat.le_refl _, ⟨rfl, rfl, rfl, rfl, rfl, trivial⟩, (IMem.le.refl _), S⟩)
  ·rintro σ w ⟨n15, n16, J14, H, _⟩; cases H
  rintro q17 σ w ⟨n15, n16, J14, H, hq24, hσ, hL18, S⟩
  have hG := hG.mono hL18
  rw [hσ.eq]
  rw [speculumref02_Norm.l0] at H
  refine sq <| sr <| mv (.int .i64 n16) rfl <| u rfl (x_bin rfl rfl rfl) ?_
  by_cases cc25 : n16 < 32
  ·rw [if_pos cc25] at H
   refine cT rfl (deT cc25) <| sk <| sq <| bk <| sr <| mv (.int .i64 n15) rfl <| u rfl (x_bin rfl rfl rfl) <| mv (.int .i64 (i64 (2 * n15))) rfl <| sr <| mv (.int .i64 n16) rfl <| mv (.int .i64 n9) rfl <| u rfl (x_bin rfl rfl rfl) ?_
   by_cases cc26 : n16 < n9
   ·rw [if_pos cc26] at H
    refine cT rfl (deT cc26) <| FW.anew [(0, .int .u32 x0), (4, pt b1), (5, .int .i64 n9), (6, .int .i64 (i64 (2 * n15))), (7, .int .i64 n16)] ⟨rfl, rfl, rfl, rfl, rfl, trivial⟩ fun σ => rg <| mv (.int .i64 (i64 (2 * n15))) rfl <| mv (.int .u32 x0) rfl <| mv (.int .i64 n16) rfl ?_
    obtain ⟨y27, hy28, H⟩ := obx H
    refine g rfl (cl fb143 (@speculumref02_Bit.ok q17 x0 n16 _ _ _ _ hG S hy28) rfl ?_)
    rintro _ w ⟨rfl, S⟩
    refine u rfl (x_bin rfl rfl rfl) <| mv (.int .i64 (i64 ((i64 (2 * n15)) + y27))) rfl <| rg <| mv (.int .i64 n16) rfl <| u rfl (x_bin rfl rfl rfl) <| mv (.int .i64 (i64 (n16 + 1))) rfl ⟨q17, Nat.le_refl _, (i64 ((i64 (2 * n15)) + y27)), (i64 (n16 + 1)), J14, H, (Nat.le_of_succ_le hq24), ⟨rfl, rfl, rfl, rfl, rfl, trivial⟩, hL18, S⟩
   rw [if_neg cc26] at H
   refine cF rfl (deF cc26) <| sk <| FW.anew [(0, .int .u32 x0), (4, pt b1), (5, .int .i64 n9), (6, .int .i64 (i64 (2 * n15))), (7, .int .i64 n16)] ⟨rfl, rfl, rfl, rfl, rfl, trivial⟩ fun σ => rg <| mv (.int .i64 n16) rfl <| u rfl (x_bin rfl rfl rfl) <| mv (.int .i64 (i64 (n16 + 1))) rfl ⟨q17, Nat.le_refl _, (i64 (2 * n15)), (i64 (n16 + 1)), J14, H, (Nat.le_of_succ_le hq24), ⟨rfl, rfl, rfl, rfl, rfl, trivial⟩, hL18, S⟩
  rw [if_neg cc25] at H
  refine cF rfl (deF cc25) <| ex ⟨n15, J14, (si H), ⟨rfl, rfl, rfl, trivial⟩, hL18, S⟩
 rintro σ w ⟨n23, J22, ho, hσ, hL18, S⟩
 subst ho
 have H := HO20
 have hI := hI.trans hL18
 rw [hσ.eq]
 refine sr <| mv (.int .i64 n23) rfl <| u rfl (x_conv tint23 tint_3 rfl) <| mv (.int .i64 n9) rfl <| u rfl (x_bld tz36 tpl36 rfl (.one rfl (.one rfl PC.nil)) rfl) <| g rfl (o_stA tag36 S 0 rfl rfl rfl rfl (c1 rfl (c1 rfl c0)) rfl fun w S => rt ?_)
 obtain rfl := si H
 exact ⟨_, ⟨_, _, _, rfl, rfl, ldA tag36 (S.loadW 0 rfl) rfl, rfl⟩, ⟨rfl, ((S.sel 1 [] rfl).weaken hI)⟩⟩
def speculumref02_Right.f (k : Nat) (x0 : T_api_Prefix) : Option Bool := ((speculumref02_Norm.f k x0.Addr x0.Len).bind fun y3 => (some (y3.Addr == x0.Addr && y3.Len == x0.Len)))
abbrev speculumref02_Right.C (k : Nat) : Prop := ∀ {x0 : T_api_Prefix} {F : List It} {I : IMem} {w : World} {r : Bool}, Glob I → Own I w (F) → speculumref02_Right.f k x0 = some r →
    Calls Tryz.prog 85 #[.agg #[.int .u32 x0.Addr, .int .i64 x0.Len]] w fun e w' => ∃ v, e = .returned v ∧ v = .bool r ∧ Own I w' (F)
theorem speculumref02_Right.ok (k : Nat) : speculumref02_Right.C k := by
 intro x0 F I w r hG S H
 have hI := IMem.le.refl I
 rw [speculumref02_Right.f] at H
 refine Calls.ofFW (args := [.agg #[.int .u32 x0.Addr, .int .i64 x0.Len]]) Tryz.func85 rfl rfl <| sr <| g rfl (o_boxA rfl S fun b1 w S => mv (.bool false) rfl (sq ?_))
 have S := S.drew
 refine FW.regionD mixed ?_
 have hO := Hold.nil (w := { w with drawn := w.drawn + 1 })
 refine ap 0 rfl (by kernel_rfl) hO (fun w => x_fa tf36_0 rfl) ?_
 have hR2 := IMem.le.refl I
 refine ak (Stab I [.bk b1 36 [.int .u32 x0.Addr, .int .i64 x0.Len]]) 1 rfl (by kernel_rfl) hO (Stab.of S 0 rfl hR2) (fun w hS => x_ld tsc23 rfl (hS.load 0 rfl 0 rfl)) fun hO => ap 2 rfl (by kernel_rfl) hO (fun w => x_fa tf36_1 rfl) <| ak (Stab I [.bk b1 36 [.int .u32 x0.Addr, .int .i64 x0.Len]]) 3 rfl (by kernel_rfl) hO (Stab.of S 0 rfl hR2) (fun w hS => x_ld tsc3 rfl (hS.load 0 rfl 1 rfl)) fun hO => ak (Stab I [.bk b1 36 [.int .u32 x0.Addr, .int .i64 x0.Len]]) 5 rfl (by kernel_rfl) hO (Stab.of S 0 rfl hR2) (fun w hS => x_ldA tag36 rfl (hS.loadW 0 rfl) rfl) fun hO => AQ.one 4 [5, 3, 1] [true, false, false] (by kernel_rfl) rfl (by kernel_rfl) ?_
 obtain ⟨y3, hy4, H⟩ := obx H
 refine g rfl (cl fb118 (@speculumref02_Norm.ok k x0.Addr x0.Len _ _ _ _ hG S hy4) rfl ?_)
 rintro _ w ⟨rfl, S⟩
 refine andI (Hold.cons (Stab.of S 0 rfl hR2) Hold.nil) fun hO => ap 6 rfl (by kernel_rfl) hO (fun w => x_e2 te2_36 rfl rfl) <| ap 7 rfl (by kernel_rfl) hO (fun w => x_asgV (v := .bool (y3.Addr == x0.Addr && y3.Len == x0.Len)) rfl) <| AQ.done (by kernel_rfl) <| rt ?_
 obtain rfl := si H
 exact ⟨_, ⟨_, rfl, rfl⟩, ⟨rfl, ((S.sel 1 [] rfl).weaken hI)⟩⟩
def speculumref12_Right.f (k : Nat) (x0 : T_api_Range) : Option Bool := ((speculumref02_Right.f k x0.Prefix).bind fun y2 => (if y2 = true then (if x0.Min ≥ x0.Prefix.Len then (if x0.Max ≥ x0.Min then (some (decide (x0.Max ≤ 32))) else (some false)) else (some false)) else (some false)))
abbrev speculumref12_Right.C (k : Nat) : Prop := ∀ {x0 : T_api_Range} {F : List It} {I : IMem} {w : World} {r : Bool}, Glob I → Own I w (F) → speculumref12_Right.f k x0 = some r →
    Calls Tryz.prog 44 #[.agg #[.int .u32 x0.Prefix.Addr, .int .i64 x0.Prefix.Len, .int .i64 x0.Min, .int .i64 x0.Max]] w fun e w' => ∃ v, e = .returned v ∧ v = .bool r ∧ Own I w' (F)
theorem speculumref12_Right.ok (k : Nat) : speculumref12_Right.C k := by
 intro x0 F I w r hG S H
 have hI := IMem.le.refl I
 rw [speculumref12_Right.f] at H
 refine Calls.ofFW (args := [.agg #[.int .u32 x0.Prefix.Addr, .int .i64 x0.Prefix.Len, .int .i64 x0.Min, .int .i64 x0.Max]]) Tryz.func44 rfl rfl <| sr <| g rfl (o_boxA rfl S fun b1 w S => mv (.bool false) rfl (sq (rg (u rfl (x_fa tf69_0 rfl) (u rfl (x_ldA tag36 rfl (S.loadN 0 rfl 0 2) rfl) ?_)))))
 obtain ⟨y2, hy3, H⟩ := obx H
 refine g rfl (cl fb85 (@speculumref02_Right.ok k x0.Prefix _ _ _ _ hG S hy3) rfl ?_)
 rintro _ w ⟨rfl, S⟩
 refine mv (.bool y2) rfl ?_
 by_cases cc4 : y2 = true
 ·rw [if_pos cc4] at H
  refine gu rfl rfl rfl cc4 (x_fa tf69_1 rfl) <| gu rfl rfl rfl cc4 (x_ld tsc3 rfl (S.load 0 rfl 2 rfl)) <| gu rfl rfl rfl cc4 (x_fa tf69_0 rfl) <| gu rfl rfl rfl cc4 (x_fa tf36_1 rfl) <| gu rfl rfl rfl cc4 (x_ld tsc3 rfl (S.load 0 rfl 1 rfl)) <| gu rfl rfl rfl cc4 (x_bin rfl rfl rfl) <| u rfl (x_pickTV (v := .bool (decide (x0.Min ≥ x0.Prefix.Len))) rfl cc4 rfl) <| mv (.bool (decide (x0.Min ≥ x0.Prefix.Len))) rfl ?_
  by_cases cc5 : x0.Min ≥ x0.Prefix.Len
  ·rw [if_pos cc5] at H
   refine gu rfl rfl rfl (deT cc5) (x_fa tf69_2 rfl) <| gu rfl rfl rfl (deT cc5) (x_ld tsc3 rfl (S.load 0 rfl 3 rfl)) <| gu rfl rfl rfl (deT cc5) (x_fa tf69_1 rfl) <| gu rfl rfl rfl (deT cc5) (x_ld tsc3 rfl (S.load 0 rfl 2 rfl)) <| gu rfl rfl rfl (deT cc5) (x_bin rfl rfl rfl) <| u rfl (x_pickTV (v := .bool (decide (x0.Max ≥ x0.Min))) rfl (deT cc5) rfl) <| mv (.bool (decide (x0.Max ≥ x0.Min))) rfl ?_
   by_cases cc6 : x0.Max ≥ x0.Min
   ·rw [if_pos cc6] at H
    refine gu rfl rfl rfl (deT cc6) (x_fa tf69_2 rfl) <| gu rfl rfl rfl (deT cc6) (x_ld tsc3 rfl (S.load 0 rfl 3 rfl)) <| gu rfl rfl rfl (deT cc6) (x_bin rfl rfl rfl) <| u rfl (x_pickTV (v := .bool (decide (x0.Max ≤ 32))) rfl (deT cc6) rfl) <| mv (.bool (decide (x0.Max ≤ 32))) rfl <| rt ?_
    obtain rfl := si H
    exact ⟨_, ⟨_, rfl, rfl⟩, ⟨rfl, ((S.sel 1 [] rfl).weaken hI)⟩⟩
   rw [if_neg cc6] at H
   refine gn rfl rfl rfl (deF cc6) <| gn rfl rfl rfl (deF cc6) <| gn rfl rfl rfl (deF cc6) <| u rfl (x_pickFV (v := .bool false) rfl (deF cc6) rfl) <| mv (.bool false) rfl <| rt ?_
   obtain rfl := si H
   exact ⟨_, ⟨_, rfl, rfl⟩, ⟨rfl, ((S.sel 1 [] rfl).weaken hI)⟩⟩
  rw [if_neg cc5] at H
  refine gn rfl rfl rfl (deF cc5) <| gn rfl rfl rfl (deF cc5) <| gn rfl rfl rfl (deF cc5) <| gn rfl rfl rfl (deF cc5) <| gn rfl rfl rfl (deF cc5) <| u rfl (x_pickFV (v := .bool false) rfl (deF cc5) rfl) <| mv (.bool false) rfl <| gn rfl rfl rfl rfl <| gn rfl rfl rfl rfl <| gn rfl rfl rfl rfl <| u rfl (x_pickFV (v := .bool false) rfl rfl rfl) <| mv (.bool false) rfl <| rt ?_
  obtain rfl := si H
  exact ⟨_, ⟨_, rfl, rfl⟩, ⟨rfl, ((S.sel 1 [] rfl).weaken hI)⟩⟩
 rw [if_neg cc4] at H
 refine gn rfl rfl rfl (vaF cc4) <| gn rfl rfl rfl (vaF cc4) <| gn rfl rfl rfl (vaF cc4) <| gn rfl rfl rfl (vaF cc4) <| gn rfl rfl rfl (vaF cc4) <| gn rfl rfl rfl (vaF cc4) <| u rfl (x_pickFV (v := .bool false) rfl (vaF cc4) rfl) <| mv (.bool false) rfl <| gn rfl rfl rfl rfl <| gn rfl rfl rfl rfl <| gn rfl rfl rfl rfl <| gn rfl rfl rfl rfl <| gn rfl rfl rfl rfl <| u rfl (x_pickFV (v := .bool false) rfl rfl rfl) <| mv (.bool false) rfl <| gn rfl rfl rfl rfl <| gn rfl rfl rfl rfl <| gn rfl rfl rfl rfl <| u rfl (x_pickFV (v := .bool false) rfl rfl rfl) <| mv (.bool false) rfl <| rt ?_
 obtain rfl := si H
 exact ⟨_, ⟨_, rfl, rfl⟩, ⟨rfl, ((S.sel 1 [] rfl).weaken hI)⟩⟩
def speculumref11_P_sign.l0 : Nat → T_speculumref11_P → Int → Option Int
  | 0, _, _ => none
  | k + 1, x0, n2 => (if n2 < (x0.S.size : Int) then ((sat x0.S n2).bind fun y13 => (if y13 = 32 then (speculumref11_P_sign.l0 k x0 (i64 (n2 + 1))) else ((sat x0.S n2).bind fun y16 => (if y16 = 95 then (speculumref11_P_sign.l0 k x0 (i64 (n2 + 1))) else (some n2))))) else (some n2))
def speculumref11_P_sign.f (k : Nat) (x0 : T_speculumref11_P) : Option (Int × T_speculumref11_P) := ((speculumref11_P_sign.l0 k x0 x0.At).bind fun n9 => (if n9 = (x0.S.size : Int) then (some (0, (T_speculumref11_P.mk x0.S n9 x0.N x0.Bad))) else ((sat x0.S n9).bind fun y22 => (some (y22, (T_speculumref11_P.mk x0.S n9 x0.N x0.Bad))))))
abbrev speculumref11_P_sign.C (k : Nat) : Prop := ∀ {x0 : T_speculumref11_P} {x0v2 : Value} {bx0 : Nat} {F : List It} {I : IMem} {w : World} {r : Int × T_speculumref11_P}, Glob I → Own I w (.bk bx0 135 [.string x0.S, .int .i64 x0.At, x0v2, .bool x0.Bad] :: .tv x0v2 163 6 :: F) → SlR R_speculumref11_Node I x0v2 x0.N → speculumref11_P_sign.f k x0 = some r →
    Calls Tryz.prog 87 #[pt bx0] w fun e w' => ∃ v, e = .returned v ∧ ∃ (y_1v2 : Value) (J : IMem), I.le J ∧ v = .int .u8 r.1 ∧ SlR R_speculumref11_Node J y_1v2 r.2.N ∧ Own J w' (.bk bx0 135 [.string r.2.S, .int .i64 r.2.At, y_1v2, .bool r.2.Bad] :: .tv y_1v2 163 6 :: F)
theorem speculumref11_P_sign.ok (k : Nat) : speculumref11_P_sign.C k := by
 intro x0 x0v2 bx0 F I w r hG S x0h2 H
 have hI := IMem.le.refl I
 rw [speculumref11_P_sign.f] at H
 refine Calls.ofFW (args := [pt bx0]) Tryz.func87 rfl rfl <| sr <| mv (.int .u8 0) rfl <| sq <| bk ?_
 obtain ⟨o5, hl7, HO6⟩ := obx H
 refine FW.cutX 0 (fun σ w => ∃ (n9 : Int) (J8 : IMem), n9 = o5 ∧ Has σ [(0, pt bx0)] ∧ I.le J8 ∧ Own J8 w (.bk bx0 135 [.string x0.S, .int .i64 n9, x0v2, .bool x0.Bad] :: .tv x0v2 163 6 :: F)) ?_ ?_
 ·refine FW.loop k (FL.ind (fun q σ w => ∃ (n2 : Int) (J1 : IMem), speculumref11_P_sign.l0 q x0 n2 = some o5 ∧ q ≤ k ∧ Has σ [(0, pt bx0)] ∧ I.le J1 ∧ Own J1 w (.bk bx0 135 [.string x0.S, .int .i64 n2, x0v2, .bool x0.Bad] :: .tv x0v2 163 6 :: F)) ?_ ?_ k k _ _ (Nat.le_refl _) ⟨x0.At, I, hl7, Nat.le_refl _, ⟨rfl, trivial⟩, (IMem.le.refl _), S⟩)
  ·rintro σ w ⟨n2, J1, H, _⟩; cases H
  rintro q3 σ w ⟨n2, J1, H, hq10, hσ, hL4, S⟩
  rw [hσ.eq]
  rw [speculumref11_P_sign.l0] at H
  refine sq <| sq ?_
  have S := S.drew
  refine FW.regionD mixed ?_
  have hO := Hold.nil (w := { w with drawn := w.drawn + 1 })
  refine am 0 (pt bx0) rfl (by kernel_rfl) hO <| ap 1 rfl (by kernel_rfl) hO (fun w => x_nk rfl) <| ap 2 rfl (by kernel_rfl) hO (fun w => x_fa tf135_1 rfl) ?_
  have hR11 := IMem.le.refl J1
  refine ak (Stab J1 [.bk bx0 135 [.string x0.S, .int .i64 n2, x0v2, .bool x0.Bad]]) 3 rfl (by kernel_rfl) hO (Stab.of S 0 rfl hR11) (fun w hS => x_ld tsc3 rfl (hS.load 0 rfl 1 rfl)) fun hO => am 4 (pt bx0) rfl (by kernel_rfl) hO <| ap 5 rfl (by kernel_rfl) hO (fun w => x_nk rfl) <| ap 6 rfl (by kernel_rfl) hO (fun w => x_fa tf135_0 rfl) <| ak (Stab J1 [.bk bx0 135 [.string x0.S, .int .i64 n2, x0v2, .bool x0.Bad]]) 7 rfl (by kernel_rfl) hO (Stab.of S 0 rfl hR11) (fun w hS => x_ld tsc9 rfl (hS.load 0 rfl 0 rfl)) fun hO => ap 8 rfl (by kernel_rfl) hO (fun w => x_lens tstr9 rfl) <| ap 9 rfl (by kernel_rfl) hO (fun w => x_bin rfl rfl rfl) <| am 10 (.bool (decide (n2 < (x0.S.size : Int)))) rfl (by kernel_rfl) hO ?_
  by_cases cc12 : n2 < (x0.S.size : Int)
  ·rw [if_pos cc12] at H
   refine AQ.pure 11 rfl (by kernel_rfl) (by kernel_rfl) (by kernel_rfl) (gT rfl rfl (deT cc12)) hO (fun w => x_movV (v := pt bx0) rfl) <| AQ.pure 12 rfl (by kernel_rfl) (by kernel_rfl) (by kernel_rfl) (gT rfl rfl (deT cc12)) hO (fun w => x_nk rfl) <| AQ.pure 13 rfl (by kernel_rfl) (by kernel_rfl) (by kernel_rfl) (gT rfl rfl (deT cc12)) hO (fun w => x_fa tf135_0 rfl) <| AQ.take (S := Stab J1 [.bk bx0 135 [.string x0.S, .int .i64 n2, x0v2, .bool x0.Bad]]) 14 rfl (by kernel_rfl) (by kernel_rfl) (by kernel_rfl) (gT rfl rfl (deT cc12)) hO (Stab.of S 0 rfl hR11) (fun w hS => x_ld tsc9 rfl (hS.load 0 rfl 0 rfl)) fun hO => AQ.pure 15 rfl (by kernel_rfl) (by kernel_rfl) (by kernel_rfl) (gT rfl rfl (deT cc12)) hO (fun w => x_movV (v := pt bx0) rfl) <| AQ.pure 16 rfl (by kernel_rfl) (by kernel_rfl) (by kernel_rfl) (gT rfl rfl (deT cc12)) hO (fun w => x_nk rfl) <| AQ.pure 17 rfl (by kernel_rfl) (by kernel_rfl) (by kernel_rfl) (gT rfl rfl (deT cc12)) hO (fun w => x_fa tf135_1 rfl) <| AQ.take (S := Stab J1 [.bk bx0 135 [.string x0.S, .int .i64 n2, x0v2, .bool x0.Bad]]) 18 rfl (by kernel_rfl) (by kernel_rfl) (by kernel_rfl) (gT rfl rfl (deT cc12)) hO (Stab.of S 0 rfl hR11) (fun w hS => x_ld tsc3 rfl (hS.load 0 rfl 1 rfl)) fun hO => ?_
   obtain ⟨y13, h14, H⟩ := obx H
   refine AQ.pure 19 rfl (by kernel_rfl) (by kernel_rfl) (by kernel_rfl) (gT rfl rfl (deT cc12)) hO (fun w => x_sat tstr9 rfl rfl h14) <| AQ.pure 20 rfl (by kernel_rfl) (by kernel_rfl) (by kernel_rfl) (gT rfl rfl (deT cc12)) hO (fun w => x_bin rfl rfl rfl) <| AQ.pure 21 rfl (by kernel_rfl) (by kernel_rfl) (by kernel_rfl) (gT rfl rfl (deT cc12)) hO (fun w => x_movV (v := .bool (y13 == 32)) rfl) ?_
   by_cases cc15 : y13 = 32
   ·rw [if_pos cc15] at H
    refine AQ.skip 22 rfl (by kernel_rfl) (by kernel_rfl) (by kernel_rfl) rfl rfl (eqT cc15) hO <| AQ.skip 23 rfl (by kernel_rfl) (by kernel_rfl) (by kernel_rfl) rfl rfl (eqT cc15) hO <| AQ.skip 24 rfl (by kernel_rfl) (by kernel_rfl) (by kernel_rfl) rfl rfl (eqT cc15) hO <| AQ.skip 25 rfl (by kernel_rfl) (by kernel_rfl) (by kernel_rfl) rfl rfl (eqT cc15) hO <| AQ.skip 26 rfl (by kernel_rfl) (by kernel_rfl) (by kernel_rfl) rfl rfl (eqT cc15) hO <| AQ.skip 27 rfl (by kernel_rfl) (by kernel_rfl) (by kernel_rfl) rfl rfl (eqT cc15) hO <| AQ.skip 28 rfl (by kernel_rfl) (by kernel_rfl) (by kernel_rfl) rfl rfl (eqT cc15) hO <| AQ.skip 29 rfl (by kernel_rfl) (by kernel_rfl) (by kernel_rfl) rfl rfl (eqT cc15) hO <| AQ.skip 30 rfl (by kernel_rfl) (by kernel_rfl) (by kernel_rfl) rfl rfl (eqT cc15) hO <| AQ.skip 31 rfl (by kernel_rfl) (by kernel_rfl) (by kernel_rfl) rfl rfl (eqT cc15) hO <| AQ.pure 32 rfl (by kernel_rfl) (by kernel_rfl) (by kernel_rfl) (gT rfl rfl (deT cc12)) hO (fun w => x_pickTV (v := .bool true) rfl (eqT cc15) rfl) <| ap 33 rfl (by kernel_rfl) hO (fun w => x_pickTV (v := .bool true) rfl (deT cc12) rfl) <| AQ.done (by kernel_rfl) <| cT rfl rfl <| sk <| bk <| FW.anew [(0, pt bx0)] ⟨rfl, trivial⟩ fun σ => rg <| mv (pt bx0) rfl <| mv (pt bx0) rfl <| u rfl (x_nk rfl) <| u rfl (x_fa tf135_1 rfl) <| u rfl (x_ld tsc3 rfl (S.load 0 rfl 1 rfl)) <| u rfl (x_bin rfl rfl rfl) <| u rfl (x_nk rfl) <| u rfl (x_fa tf135_1 rfl) <| g rfl (o_st tone3 S 0 rfl rfl rfl rfl fun w S => ⟨q3, Nat.le_refl _, (i64 (n2 + 1)), J1, H, (Nat.le_of_succ_le hq10), ⟨rfl, trivial⟩, hL4, S⟩)
   rw [if_neg cc15] at H
   refine AQ.pure 22 rfl (by kernel_rfl) (by kernel_rfl) (by kernel_rfl) (gT rfl rfl (eqF cc15)) hO (fun w => x_movV (v := pt bx0) rfl) <| AQ.pure 23 rfl (by kernel_rfl) (by kernel_rfl) (by kernel_rfl) (gT rfl rfl (eqF cc15)) hO (fun w => x_nk rfl) <| AQ.pure 24 rfl (by kernel_rfl) (by kernel_rfl) (by kernel_rfl) (gT rfl rfl (eqF cc15)) hO (fun w => x_fa tf135_0 rfl) <| AQ.take (S := Stab J1 [.bk bx0 135 [.string x0.S, .int .i64 n2, x0v2, .bool x0.Bad]]) 25 rfl (by kernel_rfl) (by kernel_rfl) (by kernel_rfl) (gT rfl rfl (eqF cc15)) hO (Stab.of S 0 rfl hR11) (fun w hS => x_ld tsc9 rfl (hS.load 0 rfl 0 rfl)) fun hO => AQ.pure 26 rfl (by kernel_rfl) (by kernel_rfl) (by kernel_rfl) (gT rfl rfl (eqF cc15)) hO (fun w => x_movV (v := pt bx0) rfl) <| AQ.pure 27 rfl (by kernel_rfl) (by kernel_rfl) (by kernel_rfl) (gT rfl rfl (eqF cc15)) hO (fun w => x_nk rfl) <| AQ.pure 28 rfl (by kernel_rfl) (by kernel_rfl) (by kernel_rfl) (gT rfl rfl (eqF cc15)) hO (fun w => x_fa tf135_1 rfl) <| AQ.take (S := Stab J1 [.bk bx0 135 [.string x0.S, .int .i64 n2, x0v2, .bool x0.Bad]]) 29 rfl (by kernel_rfl) (by kernel_rfl) (by kernel_rfl) (gT rfl rfl (eqF cc15)) hO (Stab.of S 0 rfl hR11) (fun w hS => x_ld tsc3 rfl (hS.load 0 rfl 1 rfl)) fun hO => ?_
   obtain ⟨y16, h17, H⟩ := obx H
   refine AQ.pure 30 rfl (by kernel_rfl) (by kernel_rfl) (by kernel_rfl) (gT rfl rfl (eqF cc15)) hO (fun w => x_sat tstr9 rfl rfl h17) <| AQ.pure 31 rfl (by kernel_rfl) (by kernel_rfl) (by kernel_rfl) (gT rfl rfl (eqF cc15)) hO (fun w => x_bin rfl rfl rfl) <| AQ.pure 32 rfl (by kernel_rfl) (by kernel_rfl) (by kernel_rfl) (gT rfl rfl (deT cc12)) hO (fun w => x_pickFV (v := .bool (y16 == 95)) rfl (eqF cc15) rfl) <| ap 33 rfl (by kernel_rfl) hO (fun w => x_pickTV (v := .bool (y16 == 95)) rfl (deT cc12) rfl) <| AQ.done (by kernel_rfl) ?_
   by_cases cc18 : y16 = 95
   ·rw [if_pos cc18] at H
    refine cT rfl (eqT cc18) <| sk <| bk <| FW.anew [(0, pt bx0)] ⟨rfl, trivial⟩ fun σ => rg <| mv (pt bx0) rfl <| mv (pt bx0) rfl <| u rfl (x_nk rfl) <| u rfl (x_fa tf135_1 rfl) <| u rfl (x_ld tsc3 rfl (S.load 0 rfl 1 rfl)) <| u rfl (x_bin rfl rfl rfl) <| u rfl (x_nk rfl) <| u rfl (x_fa tf135_1 rfl) <| g rfl (o_st tone3 S 0 rfl rfl rfl rfl fun w S => ⟨q3, Nat.le_refl _, (i64 (n2 + 1)), J1, H, (Nat.le_of_succ_le hq10), ⟨rfl, trivial⟩, hL4, S⟩)
   rw [if_neg cc18] at H
   refine cF rfl (eqF cc18) <| ex ⟨n2, J1, (si H), ⟨rfl, trivial⟩, hL4, S⟩
  rw [if_neg cc12] at H
  refine AQ.skip 11 rfl (by kernel_rfl) (by kernel_rfl) (by kernel_rfl) rfl rfl (deF cc12) hO <| AQ.skip 12 rfl (by kernel_rfl) (by kernel_rfl) (by kernel_rfl) rfl rfl (deF cc12) hO <| AQ.skip 13 rfl (by kernel_rfl) (by kernel_rfl) (by kernel_rfl) rfl rfl (deF cc12) hO <| AQ.skip 14 rfl (by kernel_rfl) (by kernel_rfl) (by kernel_rfl) rfl rfl (deF cc12) hO <| AQ.skip 15 rfl (by kernel_rfl) (by kernel_rfl) (by kernel_rfl) rfl rfl (deF cc12) hO <| AQ.skip 16 rfl (by kernel_rfl) (by kernel_rfl) (by kernel_rfl) rfl rfl (deF cc12) hO <| AQ.skip 17 rfl (by kernel_rfl) (by kernel_rfl) (by kernel_rfl) rfl rfl (deF cc12) hO <| AQ.skip 18 rfl (by kernel_rfl) (by kernel_rfl) (by kernel_rfl) rfl rfl (deF cc12) hO <| AQ.skip 19 rfl (by kernel_rfl) (by kernel_rfl) (by kernel_rfl) rfl rfl (deF cc12) hO <| AQ.skip 20 rfl (by kernel_rfl) (by kernel_rfl) (by kernel_rfl) rfl rfl (deF cc12) hO <| AQ.skip 21 rfl (by kernel_rfl) (by kernel_rfl) (by kernel_rfl) rfl rfl (deF cc12) hO <| AQ.skipU 22 rfl (by kernel_rfl) (by kernel_rfl) (by kernel_rfl) rfl rfl hO <| AQ.skipU 23 rfl (by kernel_rfl) (by kernel_rfl) (by kernel_rfl) rfl rfl hO <| AQ.skipU 24 rfl (by kernel_rfl) (by kernel_rfl) (by kernel_rfl) rfl rfl hO <| AQ.skipU 25 rfl (by kernel_rfl) (by kernel_rfl) (by kernel_rfl) rfl rfl hO <| AQ.skipU 26 rfl (by kernel_rfl) (by kernel_rfl) (by kernel_rfl) rfl rfl hO <| AQ.skipU 27 rfl (by kernel_rfl) (by kernel_rfl) (by kernel_rfl) rfl rfl hO <| AQ.skipU 28 rfl (by kernel_rfl) (by kernel_rfl) (by kernel_rfl) rfl rfl hO <| AQ.skipU 29 rfl (by kernel_rfl) (by kernel_rfl) (by kernel_rfl) rfl rfl hO <| AQ.skipU 30 rfl (by kernel_rfl) (by kernel_rfl) (by kernel_rfl) rfl rfl hO <| AQ.skipU 31 rfl (by kernel_rfl) (by kernel_rfl) (by kernel_rfl) rfl rfl hO <| AQ.skip 32 rfl (by kernel_rfl) (by kernel_rfl) (by kernel_rfl) rfl rfl (deF cc12) hO <| ap 33 rfl (by kernel_rfl) hO (fun w => x_pickFV (v := .bool false) rfl (deF cc12) rfl) <| AQ.done (by kernel_rfl) <| cF rfl rfl <| ex ⟨n2, J1, (si H), ⟨rfl, trivial⟩, hL4, S⟩
 rintro σ w ⟨n9, J8, ho, hσ, hL4, S⟩
 subst ho
 have H := HO6
 have x0h2 := x0h2.mono hL4
 have hI := hI.trans hL4
 rw [hσ.eq]
 refine sq <| sq ?_
 have S := S.drew
 refine FW.regionD mixed ?_
 have hO := Hold.nil (w := { w with drawn := w.drawn + 1 })
 refine am 0 (pt bx0) rfl (by kernel_rfl) hO <| ap 1 rfl (by kernel_rfl) hO (fun w => x_nk rfl) <| ap 2 rfl (by kernel_rfl) hO (fun w => x_fa tf135_1 rfl) ?_
 have hR19 := IMem.le.refl J8
 refine ak (Stab J8 [.bk bx0 135 [.string x0.S, .int .i64 n9, x0v2, .bool x0.Bad]]) 3 rfl (by kernel_rfl) hO (Stab.of S 0 rfl hR19) (fun w hS => x_ld tsc3 rfl (hS.load 0 rfl 1 rfl)) fun hO => am 4 (pt bx0) rfl (by kernel_rfl) hO <| ap 5 rfl (by kernel_rfl) hO (fun w => x_nk rfl) <| ap 6 rfl (by kernel_rfl) hO (fun w => x_fa tf135_0 rfl) <| ak (Stab J8 [.bk bx0 135 [.string x0.S, .int .i64 n9, x0v2, .bool x0.Bad]]) 7 rfl (by kernel_rfl) hO (Stab.of S 0 rfl hR19) (fun w hS => x_ld tsc9 rfl (hS.load 0 rfl 0 rfl)) fun hO => ap 8 rfl (by kernel_rfl) hO (fun w => x_lens tstr9 rfl) <| ap 9 rfl (by kernel_rfl) hO (fun w => x_bin rfl rfl rfl) <| AQ.done (by kernel_rfl) ?_
 by_cases cc20 : n9 = (x0.S.size : Int)
 ·rw [if_pos cc20] at H
  refine cT rfl (eqT cc20) <| sq <| FW.anew [] trivial fun σ => rg <| mv (.int .u8 0) rfl <| rt ?_
  obtain rfl := si H
  exact ⟨_, ⟨_, rfl, rfl⟩, ⟨x0v2, J8, hI, rfl, x0h2, S⟩⟩
 rw [if_neg cc20] at H
 refine cF rfl (eqF cc20) <| sk <| sq <| FW.anew [(0, pt bx0)] ⟨rfl, trivial⟩ fun σ => ?_
 have S := S.drew
 refine FW.regionD mixed ?_
 have hO := Hold.nil (w := { w with drawn := w.drawn + 1 })
 refine am 0 (pt bx0) rfl (by kernel_rfl) hO <| ap 1 rfl (by kernel_rfl) hO (fun w => x_nk rfl) <| ap 2 rfl (by kernel_rfl) hO (fun w => x_fa tf135_0 rfl) ?_
 have hR21 := IMem.le.refl J8
 refine ak (Stab J8 [.bk bx0 135 [.string x0.S, .int .i64 n9, x0v2, .bool x0.Bad]]) 3 rfl (by kernel_rfl) hO (Stab.of S 0 rfl hR21) (fun w hS => x_ld tsc9 rfl (hS.load 0 rfl 0 rfl)) fun hO => am 4 (pt bx0) rfl (by kernel_rfl) hO <| ap 5 rfl (by kernel_rfl) hO (fun w => x_nk rfl) <| ap 6 rfl (by kernel_rfl) hO (fun w => x_fa tf135_1 rfl) <| ak (Stab J8 [.bk bx0 135 [.string x0.S, .int .i64 n9, x0v2, .bool x0.Bad]]) 7 rfl (by kernel_rfl) hO (Stab.of S 0 rfl hR21) (fun w hS => x_ld tsc3 rfl (hS.load 0 rfl 1 rfl)) fun hO => ?_
 obtain ⟨y22, h23, H⟩ := obx H
 refine ap 8 rfl (by kernel_rfl) hO (fun w => x_sat tstr9 rfl rfl h23) <| ap 9 rfl (by kernel_rfl) hO (fun w => x_asgV (v := .int .u8 y22) rfl) <| AQ.done (by kernel_rfl) <| rt ?_
 obtain rfl := si H
 exact ⟨_, ⟨_, rfl, rfl⟩, ⟨x0v2, J8, hI, rfl, x0h2, S⟩⟩
def speculumref11_P_put.f (k : Nat) (x0 : T_speculumref11_P) (x1 : T_speculumref11_Node) : Option (Int × T_speculumref11_P) := ((app 88 x0.N [x1]).bind fun l7 => (some ((i64 ((l7.length : Int) - 1)), (T_speculumref11_P.mk x0.S x0.At l7 x0.Bad))))
abbrev speculumref11_P_put.C (k : Nat) : Prop := ∀ {x0 : T_speculumref11_P} {x1 : T_speculumref11_Node} {x0v2 : Value} {x1v1 : Value} {x1v2 : Value} {x1v3 : Value} {bx0 : Nat} {F : List It} {I : IMem} {w : World} {r : Int × T_speculumref11_P}, Glob I → Own I w (.bk bx0 135 [.string x0.S, .int .i64 x0.At, x0v2, .bool x0.Bad] :: .tv x0v2 163 6 :: F) → SlR R_speculumref11_Node I x0v2 x0.N → SlR (tInt' .i64) I x1v1 x1.Kids → SlR (tInt' .i64) I x1v2 x1.From → SlR (tInt' .i64) I x1v3 x1.To → speculumref11_P_put.f k x0 x1 = some r →
    Calls Tryz.prog 120 #[pt bx0, .agg #[.int .u8 x1.Kind, x1v1, x1v2, x1v3, .bool x1.Not, .bool x1.Num]] w fun e w' => ∃ v, e = .returned v ∧ ∃ (y_1v2 : Value) (J : IMem), I.le J ∧ v = .int .i64 r.1 ∧ SlR R_speculumref11_Node J y_1v2 r.2.N ∧ Own J w' (.bk bx0 135 [.string r.2.S, .int .i64 r.2.At, y_1v2, .bool r.2.Bad] :: .tv y_1v2 163 6 :: F)
theorem speculumref11_P_put.ok (k : Nat) : speculumref11_P_put.C k := by
 intro x0 x1 x0v2 x1v1 x1v2 x1v3 bx0 F I w r hG S x0h2 x1h1 x1h2 x1h3 H
 have hI := IMem.le.refl I
 rw [speculumref11_P_put.f] at H
 refine Calls.ofFW (args := [pt bx0, .agg #[.int .u8 x1.Kind, x1v1, x1v2, x1v3, .bool x1.Not, .bool x1.Num]]) Tryz.func120 rfl rfl <| sr <| g rfl (o_boxA rfl S fun b1 w S => mv (.int .i64 0) rfl (sq ?_))
 have S := S.drew
 refine FW.regionD mixed ?_
 have hO := Hold.nil (w := { w with drawn := w.drawn + 1 })
 refine am 0 (pt bx0) rfl (by kernel_rfl) hO <| am 1 (pt bx0) rfl (by kernel_rfl) hO <| ap 2 rfl (by kernel_rfl) hO (fun w => x_nk rfl) <| ap 3 rfl (by kernel_rfl) hO (fun w => x_fa tf135_2 rfl) ?_
 have hR2 := IMem.le.refl I
 refine ak (Stab I [.bk bx0 135 [.string x0.S, .int .i64 x0.At, x0v2, .bool x0.Bad]]) 4 rfl (by kernel_rfl) hO (Stab.of S 1 rfl hR2) (fun w hS => x_ld tsc133 rfl (hS.load 0 rfl 2 rfl)) fun hO => ak (Stab I [.bk b1 163 [.int .u8 x1.Kind, x1v1, x1v2, x1v3, .bool x1.Not, .bool x1.Num]]) 5 rfl (by kernel_rfl) hO (Stab.of S 0 rfl hR2) (fun w hS => x_ldA tag163 rfl (hS.loadW 0 rfl) rfl) fun hO => AQ.one 6 [5, 4] [false, true] (by kernel_rfl) rfl (by kernel_rfl) <| g rfl (o_bsl tsl133 tz163 rfl rfl rfl rfl (.agg PC.nil) rfl S fun b3 w S => ?_)
 obtain ⟨J4, hJ6, S, h5⟩ := S.freeze (r := R_speculumref11_Node) (l := [x1]) 0 rfl ⟨[.int .u8 x1.Kind, x1v1, x1v2, x1v3, .bool x1.Not, .bool x1.Num], _, rfl, ⟨x1v1, x1v2, x1v3, rfl, x1h1, x1h2, x1h3⟩, rfl⟩ rfl rfl
 have x0h2 := x0h2.mono hJ6
 have hI := hI.trans hJ6
 have hR2 := hR2.trans hJ6
 refine andI (Hold.cons (Stab.of S 2 rfl hR2) Hold.nil) fun hO => AQ.one 7 [4] [false] (by kernel_rfl) rfl (by kernel_rfl) ?_
 obtain ⟨l7, h9, H⟩ := obx H
 refine g rfl (o_appD (r := R_speculumref11_Node) tsl133 rfl tz163 rfl rfl S 3 rfl rfl x0h2 h5 h9 fun v8 w J11 hJ12 S h10 => ?_)
 have hI := hI.trans hJ12
 refine andI Hold.nil fun hO => ap 8 rfl (by kernel_rfl) hO (fun w => x_nk rfl) <| ap 9 rfl (by kernel_rfl) hO (fun w => x_fa tf135_2 rfl) <| AQ.one 10 [] [] (by kernel_rfl) rfl (by kernel_rfl) <| g rfl (o_st tone133 S 2 rfl rfl rfl h10.one fun w S => andI Hold.nil fun hO => AQ.done (by kernel_rfl) (sq (FW.anew [(0, pt bx0)] ⟨rfl, trivial⟩ fun σ => rg (mv (pt bx0) rfl (u rfl (x_nk rfl) (u rfl (x_fa tf135_2 rfl) (u rfl (x_ld tsc133 rfl (S.load 2 rfl 2 rfl)) (u rfl (x_lenD (r := R_speculumref11_Node) tsl133 h10) (u rfl (x_bin rfl rfl rfl) (mv (.int .i64 (i64 ((l7.length : Int) - 1))) rfl (rt ?_)))))))))))
 obtain rfl := si H
 exact ⟨_, ⟨_, rfl, rfl⟩, ⟨v8, J11, hI, rfl, h10, (S.sel 4 [2, 3] rfl)⟩⟩
def speculumref11_digit.f (k : Nat) (x0 : Int) : Option Bool := (if x0 ≥ 48 then (some (decide (x0 ≤ 57))) else (some false))
abbrev speculumref11_digit.C (k : Nat) : Prop := ∀ {x0 : Int} {F : List It} {I : IMem} {w : World} {r : Bool}, Glob I → Own I w (F) → speculumref11_digit.f k x0 = some r →
    Calls Tryz.prog 150 #[.int .u8 x0] w fun e w' => ∃ v, e = .returned v ∧ v = .bool r ∧ Own I w' (F)
theorem speculumref11_digit.ok (k : Nat) : speculumref11_digit.C k := by
 intro x0 F I w r hG S H
 have hI := IMem.le.refl I
 rw [speculumref11_digit.f] at H
 refine Calls.ofFW (args := [.int .u8 x0]) Tryz.func150 rfl rfl <| sr <| mv (.bool false) rfl <| sr <| mv (.int .u8 x0) rfl <| u rfl (x_bin rfl rfl rfl) <| mv (.bool (decide (x0 ≥ 48))) rfl ?_
 by_cases cc1 : x0 ≥ 48
 ·rw [if_pos cc1] at H
  refine gu rfl rfl rfl (deT cc1) (x_movV (v := .int .u8 x0) rfl) <| gu rfl rfl rfl (deT cc1) (x_bin rfl rfl rfl) <| u rfl (x_pickTV (v := .bool (decide (x0 ≤ 57))) rfl (deT cc1) rfl) <| mv (.bool (decide (x0 ≤ 57))) rfl <| rt ?_
  obtain rfl := si H
  exact ⟨_, ⟨_, rfl, rfl⟩, ⟨rfl, (S.weaken hI)⟩⟩
 rw [if_neg cc1] at H
 refine gn rfl rfl rfl (deF cc1) <| gn rfl rfl rfl (deF cc1) <| u rfl (x_pickFV (v := .bool false) rfl (deF cc1) rfl) <| mv (.bool false) rfl <| rt ?_
 obtain rfl := si H
 exact ⟨_, ⟨_, rfl, rfl⟩, ⟨rfl, (S.weaken hI)⟩⟩
def speculumref01_Text.l0 : Nat → ByteArray → Int → Option ByteArray
  | 0, _, _ => none
  | k + 1, s3, n4 => (if n4 = 0 then (some s3) else (if (n4.tmod 10) < 0 then ((scutLR (⟨#[48, 49, 50, 51, 52, 53, 54, 55, 56, 57]⟩) (i64 (0 - (n4.tmod 10))) (i64 ((i64 (0 - (n4.tmod 10))) + 1))).bind fun s16 => ((scat s16 s3).bind fun s17 => (speculumref01_Text.l0 k s17 (i64 (n4.tdiv 10))))) else ((scutLR (⟨#[48, 49, 50, 51, 52, 53, 54, 55, 56, 57]⟩) (n4.tmod 10) (i64 ((n4.tmod 10) + 1))).bind fun s20 => ((scat s20 s3).bind fun s21 => (speculumref01_Text.l0 k s21 (i64 (n4.tdiv 10)))))))
def speculumref01_Text.f (k : Nat) (x0 : Int) : Option ByteArray := (if x0 = 0 then (some (⟨#[48]⟩)) else ((speculumref01_Text.l0 k (⟨#[]⟩) x0).bind fun s11 => (if x0 < 0 then ((scat (⟨#[45]⟩) s11).bind fun s24 => (some s24)) else (some s11))))
abbrev speculumref01_Text.C (k : Nat) : Prop := ∀ {x0 : Int} {F : List It} {I : IMem} {w : World} {r : ByteArray}, Glob I → Own I w (F) → speculumref01_Text.f k x0 = some r →
    Calls Tryz.prog 156 #[.int .i64 x0] w fun e w' => ∃ v, e = .returned v ∧ v = .string r ∧ Own I w' (F)
theorem speculumref01_Text.ok (k : Nat) : speculumref01_Text.C k := by
 intro x0 F I w r hG S H
 have hI := IMem.le.refl I
 rw [speculumref01_Text.f] at H
 refine Calls.ofFW (args := [.int .i64 x0]) Tryz.func156 rfl rfl <| sr <| mv (.string (⟨#[]⟩)) rfl <| sq <| sr <| mv (.int .i64 x0) rfl <| u rfl (x_bin rfl rfl rfl) ?_
 by_cases cc1 : x0 = 0
 ·rw [if_pos cc1] at H
  refine cT rfl (eqT cc1) <| sr <| mv (.string (⟨#[48]⟩)) rfl <| rt ?_
  obtain rfl := si H
  exact ⟨_, ⟨_, rfl, rfl⟩, ⟨rfl, (S.weaken hI)⟩⟩
 rw [if_neg cc1] at H
 refine cF rfl (eqF cc1) <| sk <| sr <| mv (.string (⟨#[]⟩)) rfl <| sr <| mv (.int .i64 x0) rfl <| mv (.int .i64 x0) rfl <| sq <| bk ?_
 obtain ⟨o7, hl9, HO8⟩ := obx H
 refine FW.cutX 0 (fun σ w => ∃ (s11 : ByteArray) (J10 : IMem), s11 = o7 ∧ Has σ [(0, .int .i64 x0), (3, .string s11)] ∧ I.le J10 ∧ Own J10 w (F)) ?_ ?_
 ·refine FW.loop k (FL.ind (fun q σ w => ∃ (s3 : ByteArray) (n4 : Int) (J2 : IMem), speculumref01_Text.l0 q s3 n4 = some o7 ∧ q ≤ k ∧ Has σ [(0, .int .i64 x0), (3, .string s3), (4, .int .i64 n4)] ∧ I.le J2 ∧ Own J2 w (F)) ?_ ?_ k k _ _ (Nat.le_refl _) ⟨(⟨#[]⟩), x0, I, hl9, Nat.le_refl _, ⟨rfl, rfl, rfl, trivial⟩, (IMem.le.refl _), S⟩)
  ·rintro σ w ⟨s3, n4, J2, H, _⟩; cases H
  rintro q5 σ w ⟨s3, n4, J2, H, hq12, hσ, hL6, S⟩
  rw [hσ.eq]
  rw [speculumref01_Text.l0] at H
  refine sq <| sr <| mv (.int .i64 n4) rfl <| u rfl (x_bin rfl rfl rfl) ?_
  by_cases cc13 : n4 = 0
  ·rw [if_pos cc13] at H
   refine cF rfl (neF cc13) <| ex ⟨s3, J2, (si H), ⟨rfl, rfl, trivial⟩, hL6, S⟩
  rw [if_neg cc13] at H
  refine cT rfl (neT cc13) <| sk <| bk <| sr <| mv (.int .i64 n4) rfl <| u rfl (x_rem rfl rfl (by decide)) <| mv (.int .i64 (n4.tmod 10)) rfl <| sq <| sr <| mv (.int .i64 (n4.tmod 10)) rfl <| u rfl (x_bin rfl rfl rfl) ?_
  by_cases cc14 : (n4.tmod 10) < 0
  ·rw [if_pos cc14] at H
   refine cT rfl (deT cc14) <| FW.anew [(0, .int .i64 x0), (3, .string s3), (4, .int .i64 n4), (5, .int .i64 (n4.tmod 10))] ⟨rfl, rfl, rfl, rfl, trivial⟩ fun σ => rg <| mv (.int .i64 (n4.tmod 10)) rfl <| u rfl (x_neg rfl) <| mv (.int .i64 (i64 (0 - (n4.tmod 10)))) rfl <| sr <| mv (.int .i64 (i64 (0 - (n4.tmod 10)))) rfl <| mv (.int .i64 (i64 (0 - (n4.tmod 10)))) rfl <| u rfl (x_bin rfl rfl rfl) ?_
   obtain ⟨s16, h15, H⟩ := obx H
   refine g rfl (o_scutLR tstr9 rfl rfl rfl h15 (mv (.string s3) rfl ?_))
   obtain ⟨s17, h18, H⟩ := obx H
   refine u rfl (x_catD rfl rfl h18) <| mv (.string s17) rfl <| FW.anew [(0, .int .i64 x0), (3, .string s17), (4, .int .i64 n4)] ⟨rfl, rfl, rfl, trivial⟩ fun σ => rg <| mv (.int .i64 n4) rfl <| u rfl (x_quo rfl rfl (by decide)) <| mv (.int .i64 (i64 (n4.tdiv 10))) rfl ⟨q5, Nat.le_refl _, s17, (i64 (n4.tdiv 10)), J2, H, (Nat.le_of_succ_le hq12), ⟨rfl, rfl, rfl, trivial⟩, hL6, S⟩
  rw [if_neg cc14] at H
  refine cF rfl (deF cc14) <| sk <| sq <| FW.anew [(0, .int .i64 x0), (3, .string s3), (4, .int .i64 n4), (5, .int .i64 (n4.tmod 10))] ⟨rfl, rfl, rfl, rfl, trivial⟩ fun σ => rg <| mv (.int .i64 (n4.tmod 10)) rfl <| mv (.int .i64 (n4.tmod 10)) rfl <| u rfl (x_bin rfl rfl rfl) ?_
  obtain ⟨s20, h19, H⟩ := obx H
  refine g rfl (o_scutLR tstr9 rfl rfl rfl h19 (mv (.string s3) rfl ?_))
  obtain ⟨s21, h22, H⟩ := obx H
  refine u rfl (x_catD rfl rfl h22) <| mv (.string s21) rfl <| FW.anew [(0, .int .i64 x0), (3, .string s21), (4, .int .i64 n4)] ⟨rfl, rfl, rfl, trivial⟩ fun σ => rg <| mv (.int .i64 n4) rfl <| u rfl (x_quo rfl rfl (by decide)) <| mv (.int .i64 (i64 (n4.tdiv 10))) rfl ⟨q5, Nat.le_refl _, s21, (i64 (n4.tdiv 10)), J2, H, (Nat.le_of_succ_le hq12), ⟨rfl, rfl, rfl, trivial⟩, hL6, S⟩
 rintro σ w ⟨s11, J10, ho, hσ, hL6, S⟩
 subst ho
 have H := HO8
 have hI := hI.trans hL6
 rw [hσ.eq]
 refine sq <| sr <| mv (.int .i64 x0) rfl <| u rfl (x_bin rfl rfl rfl) ?_
 by_cases cc23 : x0 < 0
 ·rw [if_pos cc23] at H
  refine cT rfl (deT cc23) <| sr <| mv (.string s11) rfl ?_
  obtain ⟨s24, h25, H⟩ := obx H
  refine u rfl (x_catD rfl rfl h25) <| mv (.string s24) rfl <| rt ?_
  obtain rfl := si H
  exact ⟨_, ⟨_, rfl, rfl⟩, ⟨rfl, (S.weaken hI)⟩⟩
 rw [if_neg cc23] at H
 refine cF rfl (deF cc23) <| sk <| sr <| mv (.string s11) rfl <| mv (.string s11) rfl <| rt ?_
 obtain rfl := si H
 exact ⟨_, ⟨_, rfl, rfl⟩, ⟨rfl, (S.weaken hI)⟩⟩
def speculumref01_Int.l0 : Nat → ByteArray → Int → Int → Option Int
  | 0, _, _, _ => none
  | k + 1, x0, n2, n3 => (if n3 < (x0.size : Int) then (if n3 < 12 then ((sat x0 n3).bind fun y14 => (speculumref01_Int.l0 k x0 (i64 ((i64 ((i64 (10 * n2)) + (i64 y14))) - 48)) (i64 (n3 + 1)))) else (some n2)) else (some n2))
def speculumref01_Int.f (k : Nat) (x0 : ByteArray) : Option (Int × Bool) := ((speculumref01_Int.l0 k x0 0 0).bind fun n10 => (if n10 < 0 then (some (0, false)) else (if n10 > 4294967295 then (some (0, false)) else ((speculumref01_Text.f k n10).bind fun y18 => (if y18 = x0 then (some (n10, true)) else (some (0, false)))))))
abbrev speculumref01_Int.C (k : Nat) : Prop := ∀ {x0 : ByteArray} {F : List It} {I : IMem} {w : World} {r : Int × Bool}, Glob I → Own I w (F) → speculumref01_Int.f k x0 = some r →
    Calls Tryz.prog 155 #[.string x0] w fun e w' => ∃ v, e = .returned v ∧ v = .tuple #[.int .i64 r.1, .bool r.2] ∧ Own I w' (F)
theorem speculumref01_Int.ok (k : Nat) : speculumref01_Int.C k := by
 intro x0 F I w r hG S H
 have hI := IMem.le.refl I
 rw [speculumref01_Int.f] at H
 refine Calls.ofFW (args := [.string x0]) Tryz.func155 rfl rfl <| sr <| mv (.int .i64 0) rfl <| mv (.bool false) rfl <| sr <| mv (.int .i64 0) rfl <| sq <| sr <| mv (.int .i64 0) rfl <| bk ?_
 obtain ⟨o6, hl8, HO7⟩ := obx H
 refine FW.cutX 0 (fun σ w => ∃ (n10 : Int) (J9 : IMem), n10 = o6 ∧ Has σ [(0, .string x0), (4, .int .i64 n10)] ∧ I.le J9 ∧ Own J9 w (F)) ?_ ?_
 ·refine FW.loop k (FL.ind (fun q σ w => ∃ (n2 : Int) (n3 : Int) (J1 : IMem), speculumref01_Int.l0 q x0 n2 n3 = some o6 ∧ q ≤ k ∧ Has σ [(0, .string x0), (4, .int .i64 n2), (5, .int .i64 n3)] ∧ I.le J1 ∧ Own J1 w (F)) ?_ ?_ k k _ _ (Nat.le_refl _) ⟨0, 0, I, hl8, Nat.le_refl _, ⟨rfl, rfl, rfl, trivial⟩, (IMem.le.refl _), S⟩)
  ·rintro σ w ⟨n2, n3, J1, H, _⟩; cases H
  rintro q4 σ w ⟨n2, n3, J1, H, hq11, hσ, hL5, S⟩
  rw [hσ.eq]
  rw [speculumref01_Int.l0] at H
  refine sq <| sr <| mv (.int .i64 n3) rfl <| mv (.string x0) rfl <| u rfl (x_lens tstr9 rfl) <| u rfl (x_bin rfl rfl rfl) <| mv (.bool (decide (n3 < (x0.size : Int)))) rfl ?_
  by_cases cc12 : n3 < (x0.size : Int)
  ·rw [if_pos cc12] at H
   refine gu rfl rfl rfl (deT cc12) (x_movV (v := .int .i64 n3) rfl) <| gu rfl rfl rfl (deT cc12) (x_bin rfl rfl rfl) <| u rfl (x_pickTV (v := .bool (decide (n3 < 12))) rfl (deT cc12) rfl) ?_
   by_cases cc13 : n3 < 12
   ·rw [if_pos cc13] at H
    refine cT rfl (deT cc13) <| sk <| sq <| bk <| FW.anew [(0, .string x0), (4, .int .i64 n2), (5, .int .i64 n3)] ⟨rfl, rfl, rfl, trivial⟩ fun σ => rg <| mv (.int .i64 n2) rfl <| u rfl (x_bin rfl rfl rfl) <| mv (.string x0) rfl <| mv (.int .i64 n3) rfl ?_
    obtain ⟨y14, h15, H⟩ := obx H
    refine u rfl (x_sat tstr9 rfl rfl h15) <| u rfl (x_conv tint3 tint_5 rfl) <| u rfl (x_bin rfl rfl rfl) <| u rfl (x_bin rfl rfl rfl) <| mv (.int .i64 (i64 ((i64 ((i64 (10 * n2)) + (i64 y14))) - 48))) rfl <| FW.anew [(0, .string x0), (4, .int .i64 (i64 ((i64 ((i64 (10 * n2)) + (i64 y14))) - 48))), (5, .int .i64 n3)] ⟨rfl, rfl, rfl, trivial⟩ fun σ => rg <| mv (.int .i64 n3) rfl <| u rfl (x_bin rfl rfl rfl) <| mv (.int .i64 (i64 (n3 + 1))) rfl ⟨q4, Nat.le_refl _, (i64 ((i64 ((i64 (10 * n2)) + (i64 y14))) - 48)), (i64 (n3 + 1)), J1, H, (Nat.le_of_succ_le hq11), ⟨rfl, rfl, rfl, trivial⟩, hL5, S⟩
   rw [if_neg cc13] at H
   refine cF rfl (deF cc13) <| ex ⟨n2, J1, (si H), ⟨rfl, rfl, trivial⟩, hL5, S⟩
  rw [if_neg cc12] at H
  refine gn rfl rfl rfl (deF cc12) <| gn rfl rfl rfl (deF cc12) <| u rfl (x_pickFV (v := .bool false) rfl (deF cc12) rfl) <| cF rfl rfl <| ex ⟨n2, J1, (si H), ⟨rfl, rfl, trivial⟩, hL5, S⟩
 rintro σ w ⟨n10, J9, ho, hσ, hL5, S⟩
 subst ho
 have H := HO7
 have hI := hI.trans hL5
 have hG := hG.mono hL5
 rw [hσ.eq]
 refine sq <| sr <| mv (.int .i64 n10) rfl <| u rfl (x_bin rfl rfl rfl) <| mv (.bool (decide (n10 < 0))) rfl ?_
 by_cases cc16 : n10 < 0
 ·rw [if_pos cc16] at H
  refine gn rfl rfl rfl (deT cc16) <| gn rfl rfl rfl (deT cc16) <| u rfl (x_pickTV (v := .bool true) rfl (deT cc16) rfl) <| mv (.bool true) rfl <| gn rfl rfl rfl rfl <| gn rfl rfl rfl rfl <| gn rfl rfl rfl rfl <| gn rfl rfl rfl rfl <| u rfl (x_pickTV (v := .bool true) rfl rfl rfl) <| cT rfl rfl <| sr <| mv (.int .i64 0) rfl <| mv (.bool false) rfl <| rt ?_
  obtain rfl := si H
  exact ⟨_, ⟨_, rfl, ⟨_, rfl, rfl⟩⟩, ⟨rfl, (S.weaken hI)⟩⟩
 rw [if_neg cc16] at H
 refine gu rfl rfl rfl (deF cc16) (x_movV (v := .int .i64 n10) rfl) <| gu rfl rfl rfl (deF cc16) (x_bin rfl rfl rfl) <| u rfl (x_pickFV (v := .bool (decide (n10 > 4294967295))) rfl (deF cc16) rfl) <| mv (.bool (decide (n10 > 4294967295))) rfl ?_
 by_cases cc17 : n10 > 4294967295
 ·rw [if_pos cc17] at H
  refine gn rfl rfl rfl (deT cc17) <| gn rfl rfl rfl (deT cc17) <| gn rfl rfl rfl (deT cc17) <| gn rfl rfl rfl (deT cc17) <| u rfl (x_pickTV (v := .bool true) rfl (deT cc17) rfl) <| cT rfl rfl <| sq <| FW.anew [] trivial fun σ => rg <| mv (.int .i64 0) rfl <| mv (.bool false) rfl <| rt ?_
  obtain rfl := si H
  exact ⟨_, ⟨_, rfl, ⟨_, rfl, rfl⟩⟩, ⟨rfl, (S.weaken hI)⟩⟩
 rw [if_neg cc17] at H
 refine gu rfl rfl rfl (deF cc17) (x_movV (v := .int .i64 n10) rfl) ?_
 obtain ⟨y18, hy19, H⟩ := obx H
 refine OK.gt rfl rfl rfl (deF cc17) (cl fb156 (@speculumref01_Text.ok k n10 _ _ _ _ hG S hy19) rfl ?_)
 rintro _ w ⟨rfl, S⟩
 refine gu rfl rfl rfl (deF cc17) (x_movV (v := .string x0) rfl) <| gu rfl rfl rfl (deF cc17) (x_sne rfl rfl) <| u rfl (x_pickFV (v := .bool (!decide (y18 = x0))) rfl (deF cc17) rfl) ?_
 by_cases cc20 : y18 = x0
 ·rw [if_pos cc20] at H
  refine cF rfl (noF (deT cc20)) <| sk <| sq <| FW.anew [(4, .int .i64 n10)] ⟨rfl, trivial⟩ fun σ => rg <| mv (.int .i64 n10) rfl <| mv (.int .i64 n10) rfl <| mv (.bool true) rfl <| rt ?_
  obtain rfl := si H
  exact ⟨_, ⟨_, rfl, ⟨_, rfl, rfl⟩⟩, ⟨rfl, (S.weaken hI)⟩⟩
 rw [if_neg cc20] at H
 refine cT rfl (noT (deF cc20)) <| sq <| FW.anew [] trivial fun σ => rg <| mv (.int .i64 0) rfl <| mv (.bool false) rfl <| rt ?_
 obtain rfl := si H
 exact ⟨_, ⟨_, rfl, ⟨_, rfl, rfl⟩⟩, ⟨rfl, (S.weaken hI)⟩⟩
end Go.Proofs.YtafnenafbognkaaGreatDoor
namespace Go.Proofs.YtafnenafbognkaaGreatDoor
open Sp
set_option maxRecDepth 100000
set_option maxHeartbeats 4000000
def speculumref11_P_num.l0 : Nat → T_speculumref11_P → Int → Option Int
  | 0, _, _ => none
  | k + 1, x0, n2 => (if n2 < (x0.S.size : Int) then ((sat x0.S n2).bind fun y13 => ((speculumref11_digit.f k y13).bind fun y15 => (if y15 = true then (speculumref11_P_num.l0 k x0 (i64 (n2 + 1))) else (some n2)))) else (some n2))
def speculumref11_P_num.f (k : Nat) (x0 : T_speculumref11_P) : Option (Int × T_speculumref11_P) := ((speculumref11_P_num.l0 k x0 x0.At).bind fun n9 => ((scutLR x0.S x0.At n9).bind fun s20 => ((speculumref01_Int.f k s20).bind fun y21 => (if x0.Bad = true then (some (y21.1, (T_speculumref11_P.mk x0.S n9 x0.N true))) else (some (y21.1, (T_speculumref11_P.mk x0.S n9 x0.N (!y21.2))))))))
abbrev speculumref11_P_num.C (k : Nat) : Prop := ∀ {x0 : T_speculumref11_P} {x0v2 : Value} {bx0 : Nat} {F : List It} {I : IMem} {w : World} {r : Int × T_speculumref11_P}, Glob I → Own I w (.bk bx0 135 [.string x0.S, .int .i64 x0.At, x0v2, .bool x0.Bad] :: .tv x0v2 163 6 :: F) → SlR R_speculumref11_Node I x0v2 x0.N → speculumref11_P_num.f k x0 = some r →
    Calls Tryz.prog 151 #[pt bx0] w fun e w' => ∃ v, e = .returned v ∧ ∃ (y_1v2 : Value) (J : IMem), I.le J ∧ v = .int .i64 r.1 ∧ SlR R_speculumref11_Node J y_1v2 r.2.N ∧ Own J w' (.bk bx0 135 [.string r.2.S, .int .i64 r.2.At, y_1v2, .bool r.2.Bad] :: .tv y_1v2 163 6 :: F)
theorem speculumref11_P_num.ok (k : Nat) : speculumref11_P_num.C k := by
 intro x0 x0v2 bx0 F I w r hG S x0h2 H
 have hI := IMem.le.refl I
 rw [speculumref11_P_num.f] at H
 refine Calls.ofFW (args := [pt bx0]) Tryz.func151 rfl rfl <| sr <| mv (.int .i64 0) rfl <| sr <| mv (pt bx0) rfl <| u rfl (x_nk rfl) <| u rfl (x_fa tf135_1 rfl) <| u rfl (x_ld tsc3 rfl (S.load 0 rfl 1 rfl)) <| mv (.int .i64 x0.At) rfl <| sq <| bk ?_
 obtain ⟨o5, hl7, HO6⟩ := obx H
 refine FW.cutX 0 (fun σ w => ∃ (n9 : Int) (J8 : IMem), n9 = o5 ∧ Has σ [(0, pt bx0), (3, .int .i64 x0.At)] ∧ I.le J8 ∧ Own J8 w (.bk bx0 135 [.string x0.S, .int .i64 n9, x0v2, .bool x0.Bad] :: .tv x0v2 163 6 :: F)) ?_ ?_
 ·refine FW.loop k (FL.ind (fun q σ w => ∃ (n2 : Int) (J1 : IMem), speculumref11_P_num.l0 q x0 n2 = some o5 ∧ q ≤ k ∧ Has σ [(0, pt bx0), (3, .int .i64 x0.At)] ∧ I.le J1 ∧ Own J1 w (.bk bx0 135 [.string x0.S, .int .i64 n2, x0v2, .bool x0.Bad] :: .tv x0v2 163 6 :: F)) ?_ ?_ k k _ _ (Nat.le_refl _) ⟨x0.At, I, hl7, Nat.le_refl _, ⟨rfl, rfl, trivial⟩, (IMem.le.refl _), S⟩)
  ·rintro σ w ⟨n2, J1, H, _⟩; cases H
  rintro q3 σ w ⟨n2, J1, H, hq10, hσ, hL4, S⟩
  have hG := hG.mono hL4
  rw [hσ.eq]
  rw [speculumref11_P_num.l0] at H
  refine sq <| sq ?_
  have S := S.drew
  refine FW.regionD mixed ?_
  have hO := Hold.nil (w := { w with drawn := w.drawn + 1 })
  refine am 0 (pt bx0) rfl (by kernel_rfl) hO <| ap 1 rfl (by kernel_rfl) hO (fun w => x_nk rfl) <| ap 2 rfl (by kernel_rfl) hO (fun w => x_fa tf135_1 rfl) ?_
  have hR11 := IMem.le.refl J1
  refine ak (Stab J1 [.bk bx0 135 [.string x0.S, .int .i64 n2, x0v2, .bool x0.Bad]]) 3 rfl (by kernel_rfl) hO (Stab.of S 0 rfl hR11) (fun w hS => x_ld tsc3 rfl (hS.load 0 rfl 1 rfl)) fun hO => am 4 (pt bx0) rfl (by kernel_rfl) hO <| ap 5 rfl (by kernel_rfl) hO (fun w => x_nk rfl) <| ap 6 rfl (by kernel_rfl) hO (fun w => x_fa tf135_0 rfl) <| ak (Stab J1 [.bk bx0 135 [.string x0.S, .int .i64 n2, x0v2, .bool x0.Bad]]) 7 rfl (by kernel_rfl) hO (Stab.of S 0 rfl hR11) (fun w hS => x_ld tsc9 rfl (hS.load 0 rfl 0 rfl)) fun hO => ap 8 rfl (by kernel_rfl) hO (fun w => x_lens tstr9 rfl) <| ap 9 rfl (by kernel_rfl) hO (fun w => x_bin rfl rfl rfl) <| am 10 (.bool (decide (n2 < (x0.S.size : Int)))) rfl (by kernel_rfl) hO ?_
  by_cases cc12 : n2 < (x0.S.size : Int)
  ·rw [if_pos cc12] at H
   refine AQ.pure 11 rfl (by kernel_rfl) (by kernel_rfl) (by kernel_rfl) (gT rfl rfl (deT cc12)) hO (fun w => x_movV (v := pt bx0) rfl) <| AQ.pure 12 rfl (by kernel_rfl) (by kernel_rfl) (by kernel_rfl) (gT rfl rfl (deT cc12)) hO (fun w => x_nk rfl) <| AQ.pure 13 rfl (by kernel_rfl) (by kernel_rfl) (by kernel_rfl) (gT rfl rfl (deT cc12)) hO (fun w => x_fa tf135_0 rfl) <| AQ.take (S := Stab J1 [.bk bx0 135 [.string x0.S, .int .i64 n2, x0v2, .bool x0.Bad]]) 14 rfl (by kernel_rfl) (by kernel_rfl) (by kernel_rfl) (gT rfl rfl (deT cc12)) hO (Stab.of S 0 rfl hR11) (fun w hS => x_ld tsc9 rfl (hS.load 0 rfl 0 rfl)) fun hO => AQ.pure 15 rfl (by kernel_rfl) (by kernel_rfl) (by kernel_rfl) (gT rfl rfl (deT cc12)) hO (fun w => x_movV (v := pt bx0) rfl) <| AQ.pure 16 rfl (by kernel_rfl) (by kernel_rfl) (by kernel_rfl) (gT rfl rfl (deT cc12)) hO (fun w => x_nk rfl) <| AQ.pure 17 rfl (by kernel_rfl) (by kernel_rfl) (by kernel_rfl) (gT rfl rfl (deT cc12)) hO (fun w => x_fa tf135_1 rfl) <| AQ.take (S := Stab J1 [.bk bx0 135 [.string x0.S, .int .i64 n2, x0v2, .bool x0.Bad]]) 18 rfl (by kernel_rfl) (by kernel_rfl) (by kernel_rfl) (gT rfl rfl (deT cc12)) hO (Stab.of S 0 rfl hR11) (fun w hS => x_ld tsc3 rfl (hS.load 0 rfl 1 rfl)) fun hO => ?_
   obtain ⟨y13, h14, H⟩ := obx H
   refine AQ.pure 19 rfl (by kernel_rfl) (by kernel_rfl) (by kernel_rfl) (gT rfl rfl (deT cc12)) hO (fun w => x_sat tstr9 rfl rfl h14) <| AQ.one 20 [18, 14, 7, 3] [true, true, true, true] (by kernel_rfl) rfl (by kernel_rfl) ?_
   obtain ⟨y15, hy16, H⟩ := obx H
   refine OK.gt rfl rfl rfl (deT cc12) (cl fb150 (@speculumref11_digit.ok q3 y13 _ _ _ _ hG S hy16) rfl ?_)
   rintro _ w ⟨rfl, S⟩
   refine andI (Hold.cons (Stab.of S 0 rfl hR11) (Hold.cons (Stab.of S 0 rfl hR11) (Hold.cons (Stab.of S 0 rfl hR11) (Hold.cons (Stab.of S 0 rfl hR11) Hold.nil)))) fun hO => ap 21 rfl (by kernel_rfl) hO (fun w => x_pickTV (v := .bool y15) rfl (deT cc12) rfl) <| AQ.done (by kernel_rfl) ?_
   by_cases cc17 : y15 = true
   ·rw [if_pos cc17] at H
    refine cT rfl cc17 <| sk <| bk <| FW.anew [(0, pt bx0), (3, .int .i64 x0.At)] ⟨rfl, rfl, trivial⟩ fun σ => rg <| mv (pt bx0) rfl <| mv (pt bx0) rfl <| u rfl (x_nk rfl) <| u rfl (x_fa tf135_1 rfl) <| u rfl (x_ld tsc3 rfl (S.load 0 rfl 1 rfl)) <| u rfl (x_bin rfl rfl rfl) <| u rfl (x_nk rfl) <| u rfl (x_fa tf135_1 rfl) <| g rfl (o_st tone3 S 0 rfl rfl rfl rfl fun w S => ⟨q3, Nat.le_refl _, (i64 (n2 + 1)), J1, H, (Nat.le_of_succ_le hq10), ⟨rfl, rfl, trivial⟩, hL4, S⟩)
   rw [if_neg cc17] at H
   refine cF rfl (vaF cc17) <| ex ⟨n2, J1, (si H), ⟨rfl, rfl, trivial⟩, hL4, S⟩
  rw [if_neg cc12] at H
  refine AQ.skip 11 rfl (by kernel_rfl) (by kernel_rfl) (by kernel_rfl) rfl rfl (deF cc12) hO <| AQ.skip 12 rfl (by kernel_rfl) (by kernel_rfl) (by kernel_rfl) rfl rfl (deF cc12) hO <| AQ.skip 13 rfl (by kernel_rfl) (by kernel_rfl) (by kernel_rfl) rfl rfl (deF cc12) hO <| AQ.skip 14 rfl (by kernel_rfl) (by kernel_rfl) (by kernel_rfl) rfl rfl (deF cc12) hO <| AQ.skip 15 rfl (by kernel_rfl) (by kernel_rfl) (by kernel_rfl) rfl rfl (deF cc12) hO <| AQ.skip 16 rfl (by kernel_rfl) (by kernel_rfl) (by kernel_rfl) rfl rfl (deF cc12) hO <| AQ.skip 17 rfl (by kernel_rfl) (by kernel_rfl) (by kernel_rfl) rfl rfl (deF cc12) hO <| AQ.skip 18 rfl (by kernel_rfl) (by kernel_rfl) (by kernel_rfl) rfl rfl (deF cc12) hO <| AQ.skip 19 rfl (by kernel_rfl) (by kernel_rfl) (by kernel_rfl) rfl rfl (deF cc12) hO <| AQ.skip 20 rfl (by kernel_rfl) (by kernel_rfl) (by kernel_rfl) rfl rfl (deF cc12) hO <| ap 21 rfl (by kernel_rfl) hO (fun w => x_pickFV (v := .bool false) rfl (deF cc12) rfl) <| AQ.done (by kernel_rfl) <| cF rfl rfl <| ex ⟨n2, J1, (si H), ⟨rfl, rfl, trivial⟩, hL4, S⟩
 rintro σ w ⟨n9, J8, ho, hσ, hL4, S⟩
 subst ho
 have H := HO6
 have x0h2 := x0h2.mono hL4
 have hI := hI.trans hL4
 have hG := hG.mono hL4
 rw [hσ.eq]
 refine sq ?_
 have S := S.drew
 refine FW.regionD mixed ?_
 have hO := Hold.nil (w := { w with drawn := w.drawn + 1 })
 refine am 0 (pt bx0) rfl (by kernel_rfl) hO <| ap 1 rfl (by kernel_rfl) hO (fun w => x_nk rfl) <| ap 2 rfl (by kernel_rfl) hO (fun w => x_fa tf135_0 rfl) ?_
 have hR18 := IMem.le.refl J8
 refine ak (Stab J8 [.bk bx0 135 [.string x0.S, .int .i64 n9, x0v2, .bool x0.Bad]]) 3 rfl (by kernel_rfl) hO (Stab.of S 0 rfl hR18) (fun w hS => x_ld tsc9 rfl (hS.load 0 rfl 0 rfl)) fun hO => am 4 (.int .i64 x0.At) rfl (by kernel_rfl) hO <| am 5 (pt bx0) rfl (by kernel_rfl) hO <| ap 6 rfl (by kernel_rfl) hO (fun w => x_nk rfl) <| ap 7 rfl (by kernel_rfl) hO (fun w => x_fa tf135_1 rfl) <| ak (Stab J8 [.bk bx0 135 [.string x0.S, .int .i64 n9, x0v2, .bool x0.Bad]]) 8 rfl (by kernel_rfl) hO (Stab.of S 0 rfl hR18) (fun w hS => x_ld tsc3 rfl (hS.load 0 rfl 1 rfl)) fun hO => AQ.one 9 [8, 3] [false, false] (by kernel_rfl) rfl (by kernel_rfl) ?_
 obtain ⟨s20, h19, H⟩ := obx H
 refine g rfl (o_scutLR tstr9 rfl rfl rfl h19 (andI Hold.nil fun hO => AQ.one 10 [] [] (by kernel_rfl) rfl (by kernel_rfl) ?_))
 obtain ⟨y21, hy22, H⟩ := obx H
 refine g rfl (cl fb155 (@speculumref01_Int.ok k s20 _ _ _ _ hG S hy22) rfl ?_)
 rintro _ w ⟨rfl, S⟩
 refine andI Hold.nil fun hO => am 11 (.tuple #[.int .i64 y21.1, .bool y21.2]) rfl (by kernel_rfl) hO <| ap 12 rfl (by kernel_rfl) hO (fun w => x_ext rfl rfl) <| ap 13 rfl (by kernel_rfl) hO (fun w => x_ext rfl rfl) <| ap 14 rfl (by kernel_rfl) hO (fun w => x_asgV (v := .int .i64 y21.1) rfl) <| ap 15 rfl (by kernel_rfl) hO (fun w => x_asgV (v := .bool y21.2) rfl) <| AQ.done (by kernel_rfl) <| sq <| FW.anew [(0, pt bx0), (4, .int .i64 y21.1), (5, .bool y21.2)] ⟨rfl, rfl, rfl, trivial⟩ fun σ => rg <| mv (pt bx0) rfl <| mv (pt bx0) rfl <| u rfl (x_nk rfl) <| u rfl (x_fa tf135_3 rfl) <| u rfl (x_ld tsc4 rfl (S.load 0 rfl 3 rfl)) <| mv (.bool x0.Bad) rfl ?_
 by_cases cc23 : x0.Bad = true
 ·rw [if_pos cc23] at H
  refine gn rfl rfl rfl cc23 <| gn rfl rfl rfl cc23 <| u rfl (x_pickTV (v := .bool true) rfl cc23 rfl) <| u rfl (x_nk rfl) <| u rfl (x_fa tf135_3 rfl) <| g rfl (o_st tone4 S 0 rfl rfl rfl rfl fun w S => sq (FW.anew [(4, .int .i64 y21.1)] ⟨rfl, trivial⟩ fun σ => rg (mv (.int .i64 y21.1) rfl (mv (.int .i64 y21.1) rfl (rt ?_)))))
  obtain rfl := si H
  exact ⟨_, ⟨_, rfl, rfl⟩, ⟨x0v2, J8, hI, rfl, x0h2, S⟩⟩
 rw [if_neg cc23] at H
 refine gu rfl rfl rfl (vaF cc23) (x_movV (v := .bool y21.2) rfl) <| gu rfl rfl rfl (vaF cc23) (x_not' rfl) <| u rfl (x_pickFV (v := .bool (!y21.2)) rfl (vaF cc23) rfl) <| u rfl (x_nk rfl) <| u rfl (x_fa tf135_3 rfl) <| g rfl (o_st tone4 S 0 rfl rfl rfl rfl fun w S => sq (FW.anew [(4, .int .i64 y21.1)] ⟨rfl, trivial⟩ fun σ => rg (mv (.int .i64 y21.1) rfl (mv (.int .i64 y21.1) rfl (rt ?_)))))
 obtain rfl := si H
 exact ⟨_, ⟨_, rfl, rfl⟩, ⟨x0v2, J8, hI, rfl, x0h2, S⟩⟩
def speculumref11_P_set.l0 : Nat → Bool → Int → ByteArray → Int → (List T_speculumref11_Node) → Bool → (List Int) → (List Int) → Option (Sum (Int × T_speculumref11_P) (ByteArray × Int × (List T_speculumref11_Node) × Bool × (List Int) × (List Int)))
  | 0, _, _, _, _, _, _, _, _ => none
  | k + 1, b8, n16, s17, n18, l19, b22, l23, l26 => (if n16 ≤ (s17.size : Int) then (if b22 = true then (some (.inr (s17, n18, l19, b22, l23, l26))) else ((speculumref11_P_sign.f k (T_speculumref11_P.mk s17 n18 l19 b22)).bind fun y50 => (if y50.1 = 44 then (speculumref11_P_set.l0 k b8 (i64 (n16 + 1)) y50.2.S (i64 (y50.2.At + 1)) y50.2.N y50.2.Bad l23 l26) else (if y50.1 = 93 then (if (l23.length : Int) > 0 then ((speculumref11_P_put.f k (T_speculumref11_P.mk y50.2.S (i64 (y50.2.At + 1)) y50.2.N y50.2.Bad) (T_speculumref11_Node.mk 115 [] l23 l26 b8 false)).bind fun y57 => (some (.inl (y57.1, y57.2)))) else ((speculumref11_digit.f k y50.1).bind fun y61 => (if y61 = true then ((speculumref11_P_num.f k y50.2).bind fun y64 => (if y64.2.At < (y64.2.S.size : Int) then ((sat y64.2.S y64.2.At).bind fun y70 => ((if y70 = 45 then ((speculumref11_P_num.f k (T_speculumref11_P.mk y64.2.S (i64 (y64.2.At + 1)) y64.2.N y64.2.Bad)).bind fun y84 => (some (y84.1, y84.2.S, y84.2.At, y84.2.N, y84.2.Bad))) else (some (y64.1, y64.2.S, y64.2.At, y64.2.N, y64.2.Bad))).bind fun (n73, s74, n75, l76, b79) => (if b79 = true then ((app 8 l23 [y64.1]).bind fun l93 => ((app 8 l26 [n73]).bind fun l103 => (speculumref11_P_set.l0 k b8 (i64 (n16 + 1)) s74 n75 l76 true l93 l103))) else ((app 8 l23 [y64.1]).bind fun l113 => ((app 8 l26 [n73]).bind fun l123 => (speculumref11_P_set.l0 k b8 (i64 (n16 + 1)) s74 n75 l76 (decide (y64.1 > n73)) l113 l123)))))) else (if y64.2.Bad = true then ((app 8 l23 [y64.1]).bind fun l134 => ((app 8 l26 [y64.1]).bind fun l144 => (speculumref11_P_set.l0 k b8 (i64 (n16 + 1)) y64.2.S y64.2.At y64.2.N true l134 l144))) else ((app 8 l23 [y64.1]).bind fun l154 => ((app 8 l26 [y64.1]).bind fun l164 => (speculumref11_P_set.l0 k b8 (i64 (n16 + 1)) y64.2.S y64.2.At y64.2.N (decide (y64.1 > y64.1)) l154 l164)))))) else (speculumref11_P_set.l0 k b8 (i64 (n16 + 1)) y50.2.S y50.2.At y50.2.N true l23 l26)))) else ((speculumref11_digit.f k y50.1).bind fun y170 => (if y170 = true then ((speculumref11_P_num.f k y50.2).bind fun y173 => (if y173.2.At < (y173.2.S.size : Int) then ((sat y173.2.S y173.2.At).bind fun y179 => ((if y179 = 45 then ((speculumref11_P_num.f k (T_speculumref11_P.mk y173.2.S (i64 (y173.2.At + 1)) y173.2.N y173.2.Bad)).bind fun y193 => (some (y193.1, y193.2.S, y193.2.At, y193.2.N, y193.2.Bad))) else (some (y173.1, y173.2.S, y173.2.At, y173.2.N, y173.2.Bad))).bind fun (n182, s183, n184, l185, b188) => (if b188 = true then ((app 8 l23 [y173.1]).bind fun l202 => ((app 8 l26 [n182]).bind fun l212 => (speculumref11_P_set.l0 k b8 (i64 (n16 + 1)) s183 n184 l185 true l202 l212))) else ((app 8 l23 [y173.1]).bind fun l222 => ((app 8 l26 [n182]).bind fun l232 => (speculumref11_P_set.l0 k b8 (i64 (n16 + 1)) s183 n184 l185 (decide (y173.1 > n182)) l222 l232)))))) else (if y173.2.Bad = true then ((app 8 l23 [y173.1]).bind fun l243 => ((app 8 l26 [y173.1]).bind fun l253 => (speculumref11_P_set.l0 k b8 (i64 (n16 + 1)) y173.2.S y173.2.At y173.2.N true l243 l253))) else ((app 8 l23 [y173.1]).bind fun l263 => ((app 8 l26 [y173.1]).bind fun l273 => (speculumref11_P_set.l0 k b8 (i64 (n16 + 1)) y173.2.S y173.2.At y173.2.N (decide (y173.1 > y173.1)) l263 l273)))))) else (speculumref11_P_set.l0 k b8 (i64 (n16 + 1)) y50.2.S y50.2.At y50.2.N true l23 l26))))))) else (some (.inr (s17, n18, l19, b22, l23, l26))))
def speculumref11_P_set.f (k : Nat) (x0 : T_speculumref11_P) : Option (Int × T_speculumref11_P) := ((speculumref11_P_sign.f k x0).bind fun y2 => ((if y2.1 = 94 then (some ((i64 (y2.2.At + 1)), true)) else (some (y2.2.At, false))).bind fun (n7, b8) => (((speculumref11_P_set.l0 k b8 0 y2.2.S n7 y2.2.N y2.2.Bad [] []) : Option (Sum (Int × T_speculumref11_P) (ByteArray × Int × (List T_speculumref11_Node) × Bool × (List Int) × (List Int)))).bind fun o => match o with | .inl r => some r | .inr (s35, n36, l37, b40, l41, l44) => (some (0, (T_speculumref11_P.mk s35 n36 l37 true))))))
abbrev speculumref11_P_set.C (k : Nat) : Prop := ∀ {x0 : T_speculumref11_P} {x0v2 : Value} {bx0 : Nat} {F : List It} {I : IMem} {w : World} {r : Int × T_speculumref11_P}, Glob I → Own I w (.bk bx0 135 [.string x0.S, .int .i64 x0.At, x0v2, .bool x0.Bad] :: .tv x0v2 163 6 :: F) → SlR R_speculumref11_Node I x0v2 x0.N → speculumref11_P_set.f k x0 = some r →
    Calls Tryz.prog 152 #[pt bx0] w fun e w' => ∃ v, e = .returned v ∧ ∃ (y_1v2 : Value) (J : IMem), I.le J ∧ v = .int .i64 r.1 ∧ SlR R_speculumref11_Node J y_1v2 r.2.N ∧ Own J w' (.bk bx0 135 [.string r.2.S, .int .i64 r.2.At, y_1v2, .bool r.2.Bad] :: .tv y_1v2 163 6 :: F)
theorem speculumref11_P_set.ok (k : Nat) : speculumref11_P_set.C k := by
 intro x0 x0v2 bx0 F I w r hG S x0h2 H
 have hI := IMem.le.refl I
 rw [speculumref11_P_set.f] at H
 refine Calls.ofFW (args := [pt bx0]) Tryz.func152 rfl rfl <| sr <| mv (.int .i64 0) rfl <| sr <| u rfl (x_bld tz163 tpl163 rfl (.one rfl PC.nil) rfl) <| g rfl (o_all tz163 S fun b1 w S => g rfl (o_stA tag163 S 0 rfl rfl rfl rfl (c1 rfl (c1 rfl (c1 rfl (c1 rfl (c1 rfl (c1 rfl c0)))))) rfl fun w S => sq (sq (rg (mv (pt bx0) rfl ?_)))))
 obtain ⟨y2, hy3, H⟩ := obx H
 refine g rfl (cl fb87 (@speculumref11_P_sign.ok k x0 _ _ _ _ _ _ hG (S.sel 3 [1, 2, 0] rfl) x0h2 hy3) rfl ?_)
 rintro _ w ⟨y2_1v2, J4, hJ5, rfl, y2_1h2, S⟩
 have hI := hI.trans hJ5
 have hG := hG.mono hJ5
 refine u rfl (x_bin rfl rfl rfl) ?_
 obtain ⟨o9, H, HO10⟩ := obx H
 have hL11 := IMem.le.refl J4
 refine FW.cutN (fun σ w => ∃ (n7 : Int) (b8 : Bool) (J6 : IMem), (n7, b8) = o9 ∧ Has σ [(0, pt bx0), (3, pt b1)] ∧ J4.le J6 ∧ Own J6 w (.bk bx0 135 [.string y2.2.S, .int .i64 n7, y2_1v2, .bool y2.2.Bad] :: .tv y2_1v2 163 6 :: .bk b1 163 [.int .u8 115, (.slice none 0 0), (.slice none 0 0), (.slice none 0 0), .bool b8, .bool false] :: F)) ?_ ?_
 ·by_cases cc12 : y2.1 = 94
  ·rw [if_pos cc12] at H
   refine cT rfl (eqT cc12) <| sq <| FW.anew [(0, pt bx0), (3, pt b1)] ⟨rfl, rfl, trivial⟩ fun σ => rg <| u rfl (x_fa tf163_4 rfl) <| g rfl (o_st tone4 S 2 rfl rfl rfl rfl fun w S => rg (mv (pt bx0) rfl (mv (pt bx0) rfl (u rfl (x_nk rfl) (u rfl (x_fa tf135_1 rfl) (u rfl (x_ld tsc3 rfl (S.load 0 rfl 1 rfl)) (u rfl (x_bin rfl rfl rfl) (u rfl (x_nk rfl) (u rfl (x_fa tf135_1 rfl) (g rfl (o_st tone3 S 0 rfl rfl rfl rfl fun w S => ⟨(i64 (y2.2.At + 1)), true, J4, (si H), ⟨rfl, rfl, trivial⟩, hL11, S⟩)))))))))))
  rw [if_neg cc12] at H
  refine cF rfl (eqF cc12) <| sk ⟨y2.2.At, false, J4, (si H), ⟨rfl, rfl, trivial⟩, hL11, S⟩
 rintro σ w ⟨n7, b8, J6, ho, hσ, hL11, S⟩
 subst ho
 have H := HO10
 try dsimp only at H
 have y2_1h2 := y2_1h2.mono hL11
 have hI := hI.trans hL11
 have hG := hG.mono hL11
 rw [hσ.eq]
 refine sq <| sr <| mv (.int .i64 0) rfl <| bk ?_
 have S := S.nil_tv 3 1
 have S := S.nil_tv 3 1
 obtain ⟨o31, hl33, HO32⟩ := obx H
 refine FW.cutX 0 (fun σ w => ∃ (s35 : ByteArray) (n36 : Int) (l37 : (List T_speculumref11_Node)) (b40 : Bool) (l41 : (List Int)) (l44 : (List Int)) (v38 : Value) (v42 : Value) (v45 : Value) (J34 : IMem), (.inr (s35, n36, l37, b40, l41, l44)) = o31 ∧ Has σ [(0, pt bx0)] ∧ J6.le J34 ∧ Own J34 w (.tv v45 3 1 :: .tv v42 3 1 :: .bk bx0 135 [.string s35, .int .i64 n36, v38, .bool b40] :: .tv v38 163 6 :: .bk b1 163 [.int .u8 115, (.slice none 0 0), v42, v45, .bool b8, .bool false] :: F) ∧ SlR R_speculumref11_Node J34 v38 l37 ∧ SlR (tInt' .i64) J34 v42 l41 ∧ SlR (tInt' .i64) J34 v45 l44) ?_ ?_
 ·refine FW.loop k (FL.ind (fun q σ w => ∃ (n16 : Int) (s17 : ByteArray) (n18 : Int) (l19 : (List T_speculumref11_Node)) (b22 : Bool) (l23 : (List Int)) (l26 : (List Int)) (v20 : Value) (v24 : Value) (v27 : Value) (J15 : IMem), speculumref11_P_set.l0 q b8 n16 s17 n18 l19 b22 l23 l26 = some o31 ∧ q ≤ k ∧ Has σ [(0, pt bx0), (3, pt b1), (4, .int .i64 n16)] ∧ J6.le J15 ∧ Own J15 w (.tv v27 3 1 :: .tv v24 3 1 :: .bk bx0 135 [.string s17, .int .i64 n18, v20, .bool b22] :: .tv v20 163 6 :: .bk b1 163 [.int .u8 115, (.slice none 0 0), v24, v27, .bool b8, .bool false] :: F) ∧ SlR R_speculumref11_Node J15 v20 l19 ∧ SlR (tInt' .i64) J15 v24 l23 ∧ SlR (tInt' .i64) J15 v27 l26) ?_ ?_ k k _ _ (Nat.le_refl _) ⟨0, y2.2.S, n7, y2.2.N, y2.2.Bad, [], [], y2_1v2, (.slice none 0 0), (.slice none 0 0), J6, hl33, Nat.le_refl _, ⟨rfl, rfl, rfl, trivial⟩, (IMem.le.refl _), S, y2_1h2, (SlR.nil _ _), (SlR.nil _ _)⟩)
  ·rintro σ w ⟨n16, s17, n18, l19, b22, l23, l26, v20, v24, v27, J15, H, _⟩; cases H
  rintro q29 σ w ⟨n16, s17, n18, l19, b22, l23, l26, v20, v24, v27, J15, H, hq47, hσ, hL30, S, h21, h25, h28⟩
  have hI := hI.trans hL30
  have hG := hG.mono hL30
  rw [hσ.eq]
  rw [speculumref11_P_set.l0] at H
  refine sq <| sr <| mv (.int .i64 n16) rfl <| mv (pt bx0) rfl <| u rfl (x_nk rfl) <| u rfl (x_fa tf135_0 rfl) <| u rfl (x_ld tsc9 rfl (S.load 2 rfl 0 rfl)) <| u rfl (x_lens tstr9 rfl) <| u rfl (x_bin rfl rfl rfl) <| mv (.bool (decide (n16 ≤ (s17.size : Int)))) rfl ?_
  by_cases cc48 : n16 ≤ (s17.size : Int)
  ·rw [if_pos cc48] at H
   refine gu rfl rfl rfl (deT cc48) (x_movV (v := pt bx0) rfl) <| gu rfl rfl rfl (deT cc48) (x_nk rfl) <| gu rfl rfl rfl (deT cc48) (x_fa tf135_3 rfl) <| gu rfl rfl rfl (deT cc48) (x_ld tsc4 rfl (S.load 2 rfl 3 rfl)) <| gu rfl rfl rfl (deT cc48) (x_not' rfl) <| u rfl (x_pickTV (v := .bool (!b22)) rfl (deT cc48) rfl) ?_
   by_cases cc49 : b22 = true
   ·rw [if_pos cc49] at H
    refine cF rfl (noF cc49) <| ex ⟨s17, n18, l19, b22, l23, l26, v20, v24, v27, J15, (si H), ⟨rfl, trivial⟩, hL30, S, h21, h25, h28⟩
   rw [if_neg cc49] at H
   refine cT rfl (noT (vaF cc49)) <| sk <| sq <| bk <| sq <| FW.anew [(0, pt bx0), (3, pt b1), (4, .int .i64 n16)] ⟨rfl, rfl, rfl, trivial⟩ fun σ => rg <| mv (pt bx0) rfl ?_
   obtain ⟨y50, hy51, H⟩ := obx H
   refine g rfl (cl fb87 (@speculumref11_P_sign.ok q29 (T_speculumref11_P.mk s17 n18 l19 b22) _ _ _ _ _ _ hG (S.sel 5 [2, 3, 0, 1, 4] rfl) h21 hy51) rfl ?_)
   rintro _ w ⟨y50_1v2, J52, hJ53, rfl, y50_1h2, S⟩
   have h25 := h25.mono hJ53
   have h28 := h28.mono hJ53
   have hI := hI.trans hJ53
   have hL30 := hL30.trans hJ53
   have hG := hG.mono hJ53
   refine mv (.int .u8 y50.1) rfl <| bk <| sr <| mv (.int .u8 y50.1) rfl <| u rfl (x_bin rfl rfl rfl) <| mv (.bool (y50.1 == 44)) rfl ?_
   by_cases cc54 : y50.1 = 44
   ·rw [if_pos cc54] at H
    refine cT rfl (eqT cc54) <| rg <| mv (pt bx0) rfl <| mv (pt bx0) rfl <| u rfl (x_nk rfl) <| u rfl (x_fa tf135_1 rfl) <| u rfl (x_ld tsc3 rfl (S.load 0 rfl 1 rfl)) <| u rfl (x_bin rfl rfl rfl) <| u rfl (x_nk rfl) <| u rfl (x_fa tf135_1 rfl) <| g rfl (o_st tone3 S 0 rfl rfl rfl rfl fun w S => FW.anew [(0, pt bx0), (3, pt b1), (4, .int .i64 n16)] ⟨rfl, rfl, rfl, trivial⟩ fun σ => rg (mv (.int .i64 n16) rfl (u rfl (x_bin rfl rfl rfl) (mv (.int .i64 (i64 (n16 + 1))) rfl ⟨q29, Nat.le_refl _, (i64 (n16 + 1)), y50.2.S, (i64 (y50.2.At + 1)), y50.2.N, y50.2.Bad, l23, l26, y50_1v2, v24, v27, J52, H, (Nat.le_of_succ_le hq47), ⟨rfl, rfl, rfl, trivial⟩, hL30, (S.sel 5 [2, 3, 0, 1, 4] rfl), y50_1h2, h25, h28⟩))))
   rw [if_neg cc54] at H
   refine cF rfl (eqF cc54) <| sr <| mv (.int .u8 y50.1) rfl <| u rfl (x_bin rfl rfl rfl) <| mv (.bool (y50.1 == 93)) rfl ?_
   by_cases cc55 : y50.1 = 93
   ·rw [if_pos cc55] at H
    refine gu rfl rfl rfl (eqT cc55) (x_fa tf163_2 rfl) <| gu rfl rfl rfl (eqT cc55) (x_ld tsc161 rfl (S.load 4 rfl 2 rfl)) <| gu rfl rfl rfl (eqT cc55) (x_lenD (r := (tInt' .i64)) tsl161 h25) <| gu rfl rfl rfl (eqT cc55) (x_bin rfl rfl rfl) <| u rfl (x_pickTV (v := .bool (decide ((l23.length : Int) > 0))) rfl (eqT cc55) rfl) <| mv (.bool (decide ((l23.length : Int) > 0))) rfl ?_
    by_cases cc56 : (l23.length : Int) > 0
    ·rw [if_pos cc56] at H
     refine cT rfl (deT cc56) <| sq <| FW.anew [(0, pt bx0), (3, pt b1)] ⟨rfl, rfl, trivial⟩ fun σ => rg <| mv (pt bx0) rfl <| mv (pt bx0) rfl <| u rfl (x_nk rfl) <| u rfl (x_fa tf135_1 rfl) <| u rfl (x_ld tsc3 rfl (S.load 0 rfl 1 rfl)) <| u rfl (x_bin rfl rfl rfl) <| u rfl (x_nk rfl) <| u rfl (x_fa tf135_1 rfl) <| g rfl (o_st tone3 S 0 rfl rfl rfl rfl fun w S => sq (FW.anew [(0, pt bx0), (3, pt b1)] ⟨rfl, rfl, trivial⟩ fun σ => rg (mv (pt bx0) rfl (u rfl (x_ldA tag163 rfl (S.loadW 4 rfl) rfl) ?_))))
     obtain ⟨y57, hy58, H⟩ := obx H
     refine g rfl (cl fb120 (@speculumref11_P_put.ok q29 (T_speculumref11_P.mk y50.2.S (i64 (y50.2.At + 1)) y50.2.N y50.2.Bad) (T_speculumref11_Node.mk 115 [] l23 l26 b8 false) _ _ _ _ _ _ _ _ _ hG S y50_1h2 (SlR.nil _ _) h25 h28 hy58) rfl ?_)
     rintro _ w ⟨y57_1v2, J59, hJ60, rfl, y57_1h2, S⟩
     have hI := hI.trans hJ60
     refine mv (.int .i64 y57.1) rfl <| rt ?_
     obtain rfl := si H
     obtain rfl := si HO32
     exact ⟨_, ⟨_, rfl, rfl⟩, ⟨y57_1v2, J59, hI, rfl, y57_1h2, (S.sel 5 [0, 1] rfl)⟩⟩
    rw [if_neg cc56] at H
    refine cF rfl (deF cc56) <| sq <| FW.anew [(0, pt bx0), (3, pt b1), (4, .int .i64 n16), (5, .int .u8 y50.1)] ⟨rfl, rfl, rfl, rfl, trivial⟩ fun σ => rg <| mv (.int .u8 y50.1) rfl ?_
    obtain ⟨y61, hy62, H⟩ := obx H
    refine g rfl (cl fb150 (@speculumref11_digit.ok q29 y50.1 _ _ _ _ hG S hy62) rfl ?_)
    rintro _ w ⟨rfl, S⟩
    refine mv (.bool y61) rfl ?_
    by_cases cc63 : y61 = true
    ·rw [if_pos cc63] at H
     refine cT rfl cc63 <| sr <| mv (pt bx0) rfl ?_
     obtain ⟨y64, hy65, H⟩ := obx H
     refine g rfl (cl fb151 (@speculumref11_P_num.ok q29 y50.2 _ _ _ _ _ _ hG S y50_1h2 hy65) rfl ?_)
     rintro _ w ⟨y64_1v2, J66, hJ67, rfl, y64_1h2, S⟩
     have h25 := h25.mono hJ67
     have h28 := h28.mono hJ67
     have hL30 := hL30.trans hJ67
     have hG := hG.mono hJ67
     refine mv (.int .i64 y64.1) rfl <| sr <| mv (.int .i64 y64.1) rfl <| mv (.int .i64 y64.1) rfl <| sq <| sq <| FW.anew [(0, pt bx0), (3, pt b1), (4, .int .i64 n16), (6, .int .i64 y64.1), (7, .int .i64 y64.1)] ⟨rfl, rfl, rfl, rfl, rfl, trivial⟩ fun σ => ?_
     have S := S.drew
     refine FW.regionD mixed ?_
     have hO := Hold.nil (w := { w with drawn := w.drawn + 1 })
     refine am 0 (pt bx0) rfl (by kernel_rfl) hO <| ap 1 rfl (by kernel_rfl) hO (fun w => x_nk rfl) <| ap 2 rfl (by kernel_rfl) hO (fun w => x_fa tf135_1 rfl) ?_
     have hR68 := IMem.le.refl J66
     refine ak (Stab J66 [.bk bx0 135 [.string y64.2.S, .int .i64 y64.2.At, y64_1v2, .bool y64.2.Bad]]) 3 rfl (by kernel_rfl) hO (Stab.of S 0 rfl hR68) (fun w hS => x_ld tsc3 rfl (hS.load 0 rfl 1 rfl)) fun hO => am 4 (pt bx0) rfl (by kernel_rfl) hO <| ap 5 rfl (by kernel_rfl) hO (fun w => x_nk rfl) <| ap 6 rfl (by kernel_rfl) hO (fun w => x_fa tf135_0 rfl) <| ak (Stab J66 [.bk bx0 135 [.string y64.2.S, .int .i64 y64.2.At, y64_1v2, .bool y64.2.Bad]]) 7 rfl (by kernel_rfl) hO (Stab.of S 0 rfl hR68) (fun w hS => x_ld tsc9 rfl (hS.load 0 rfl 0 rfl)) fun hO => ap 8 rfl (by kernel_rfl) hO (fun w => x_lens tstr9 rfl) <| ap 9 rfl (by kernel_rfl) hO (fun w => x_bin rfl rfl rfl) <| am 10 (.bool (decide (y64.2.At < (y64.2.S.size : Int)))) rfl (by kernel_rfl) hO ?_
     by_cases cc69 : y64.2.At < (y64.2.S.size : Int)
     ·rw [if_pos cc69] at H
      refine AQ.pure 11 rfl (by kernel_rfl) (by kernel_rfl) (by kernel_rfl) (gT rfl rfl (deT cc69)) hO (fun w => x_movV (v := pt bx0) rfl) <| AQ.pure 12 rfl (by kernel_rfl) (by kernel_rfl) (by kernel_rfl) (gT rfl rfl (deT cc69)) hO (fun w => x_nk rfl) <| AQ.pure 13 rfl (by kernel_rfl) (by kernel_rfl) (by kernel_rfl) (gT rfl rfl (deT cc69)) hO (fun w => x_fa tf135_0 rfl) <| AQ.take (S := Stab J66 [.bk bx0 135 [.string y64.2.S, .int .i64 y64.2.At, y64_1v2, .bool y64.2.Bad]]) 14 rfl (by kernel_rfl) (by kernel_rfl) (by kernel_rfl) (gT rfl rfl (deT cc69)) hO (Stab.of S 0 rfl hR68) (fun w hS => x_ld tsc9 rfl (hS.load 0 rfl 0 rfl)) fun hO => AQ.pure 15 rfl (by kernel_rfl) (by kernel_rfl) (by kernel_rfl) (gT rfl rfl (deT cc69)) hO (fun w => x_movV (v := pt bx0) rfl) <| AQ.pure 16 rfl (by kernel_rfl) (by kernel_rfl) (by kernel_rfl) (gT rfl rfl (deT cc69)) hO (fun w => x_nk rfl) <| AQ.pure 17 rfl (by kernel_rfl) (by kernel_rfl) (by kernel_rfl) (gT rfl rfl (deT cc69)) hO (fun w => x_fa tf135_1 rfl) <| AQ.take (S := Stab J66 [.bk bx0 135 [.string y64.2.S, .int .i64 y64.2.At, y64_1v2, .bool y64.2.Bad]]) 18 rfl (by kernel_rfl) (by kernel_rfl) (by kernel_rfl) (gT rfl rfl (deT cc69)) hO (Stab.of S 0 rfl hR68) (fun w hS => x_ld tsc3 rfl (hS.load 0 rfl 1 rfl)) fun hO => ?_
      obtain ⟨y70, h71, H⟩ := obx H
      refine AQ.pure 19 rfl (by kernel_rfl) (by kernel_rfl) (by kernel_rfl) (gT rfl rfl (deT cc69)) hO (fun w => x_sat tstr9 rfl rfl h71) <| AQ.pure 20 rfl (by kernel_rfl) (by kernel_rfl) (by kernel_rfl) (gT rfl rfl (deT cc69)) hO (fun w => x_bin rfl rfl rfl) <| ap 21 rfl (by kernel_rfl) hO (fun w => x_pickTV (v := .bool (y70 == 45)) rfl (deT cc69) rfl) <| AQ.done (by kernel_rfl) ?_
      obtain ⟨o80, H, HO81⟩ := obx H
      have hL82 := IMem.le.refl J66
      refine FW.cutN (fun σ w => ∃ (n73 : Int) (s74 : ByteArray) (n75 : Int) (l76 : (List T_speculumref11_Node)) (b79 : Bool) (v77 : Value) (J72 : IMem), (n73, s74, n75, l76, b79) = o80 ∧ Has σ [(0, pt bx0), (3, pt b1), (4, .int .i64 n16), (6, .int .i64 y64.1), (7, .int .i64 n73)] ∧ J66.le J72 ∧ Own J72 w (.bk bx0 135 [.string s74, .int .i64 n75, v77, .bool b79] :: .tv v77 163 6 :: .tv v27 3 1 :: .tv v24 3 1 :: .bk b1 163 [.int .u8 115, (.slice none 0 0), v24, v27, .bool b8, .bool false] :: F) ∧ SlR R_speculumref11_Node J72 v77 l76) ?_ ?_
      ·by_cases cc83 : y70 = 45
       ·rw [if_pos cc83] at H
        refine cT rfl (eqT cc83) <| sq <| FW.anew [(0, pt bx0), (3, pt b1), (4, .int .i64 n16), (6, .int .i64 y64.1)] ⟨rfl, rfl, rfl, rfl, trivial⟩ fun σ => rg <| mv (pt bx0) rfl <| mv (pt bx0) rfl <| u rfl (x_nk rfl) <| u rfl (x_fa tf135_1 rfl) <| u rfl (x_ld tsc3 rfl (S.load 0 rfl 1 rfl)) <| u rfl (x_bin rfl rfl rfl) <| u rfl (x_nk rfl) <| u rfl (x_fa tf135_1 rfl) <| g rfl (o_st tone3 S 0 rfl rfl rfl rfl fun w S => FW.anew [(0, pt bx0), (3, pt b1), (4, .int .i64 n16), (6, .int .i64 y64.1)] ⟨rfl, rfl, rfl, rfl, trivial⟩ fun σ => rg (mv (pt bx0) rfl ?_))
        obtain ⟨y84, hy85, H⟩ := obx H
        refine g rfl (cl fb151 (@speculumref11_P_num.ok q29 (T_speculumref11_P.mk y64.2.S (i64 (y64.2.At + 1)) y64.2.N y64.2.Bad) _ _ _ _ _ _ hG S y64_1h2 hy85) rfl ?_)
        rintro _ w ⟨y84_1v2, J86, hJ87, rfl, y84_1h2, S⟩
        have hL82 := hL82.trans hJ87
        refine mv (.int .i64 y84.1) rfl ⟨y84.1, y84.2.S, y84.2.At, y84.2.N, y84.2.Bad, y84_1v2, J86, (si H), ⟨rfl, rfl, rfl, rfl, rfl, trivial⟩, hL82, S, y84_1h2⟩
       rw [if_neg cc83] at H
       refine cF rfl (eqF cc83) <| sk ⟨y64.1, y64.2.S, y64.2.At, y64.2.N, y64.2.Bad, y64_1v2, J66, (si H), ⟨rfl, rfl, rfl, rfl, rfl, trivial⟩, hL82, S, y64_1h2⟩
      rintro σ w ⟨n73, s74, n75, l76, b79, v77, J72, ho, hσ, hL82, S, h78⟩
      subst ho
      have H := HO81
      try dsimp only at H
      have h25 := h25.mono hL82
      have h28 := h28.mono hL82
      have hL30 := hL30.trans hL82
      rw [hσ.eq]
      refine sr <| mv (pt bx0) rfl <| mv (pt bx0) rfl <| u rfl (x_nk rfl) <| u rfl (x_fa tf135_3 rfl) <| u rfl (x_ld tsc4 rfl (S.load 0 rfl 3 rfl)) <| mv (.bool b79) rfl ?_
      by_cases cc88 : b79 = true
      ·rw [if_pos cc88] at H
       refine gn rfl rfl rfl cc88 <| gn rfl rfl rfl cc88 <| gn rfl rfl rfl cc88 <| u rfl (x_pickTV (v := .bool true) rfl cc88 rfl) <| u rfl (x_nk rfl) <| u rfl (x_fa tf135_3 rfl) <| g rfl (o_st tone4 S 0 rfl rfl rfl rfl fun w S => sq (FW.anew [(0, pt bx0), (3, pt b1), (4, .int .i64 n16), (6, .int .i64 y64.1), (7, .int .i64 n73)] ⟨rfl, rfl, rfl, rfl, rfl, trivial⟩ fun σ => rg (u rfl (x_fa tf163_2 rfl) (u rfl (x_ld tsc161 rfl (S.load 4 rfl 2 rfl)) (mv (.int .i64 y64.1) rfl (g rfl (o_bsl tsl161 tz3 rfl rfl rfl rfl (.one rfl PC.nil) rfl S fun b89 w S => ?_)))))))
       obtain ⟨J90, hJ92, S, h91⟩ := S.freeze (r := (tInt' .i64)) (l := [y64.1]) 0 rfl ⟨[.int .i64 y64.1], _, rfl, rfl, rfl⟩ rfl rfl
       have h25 := h25.mono hJ92
       have h78 := h78.mono hJ92
       have h28 := h28.mono hJ92
       have hL30 := hL30.trans hJ92
       obtain ⟨l93, h95, H⟩ := obx H
       refine g rfl (o_appD (r := (tInt' .i64)) tsl161 rfl tz3 rfl rfl S 4 rfl rfl h25 h91 h95 fun v94 w J97 hJ98 S h96 => ?_)
       have h78 := h78.mono hJ98
       have h28 := h28.mono hJ98
       have hL30 := hL30.trans hJ98
       refine u rfl (x_fa tf163_2 rfl) <| g rfl (o_st tone161 S 5 rfl rfl rfl h96.one fun w S => FW.anew [(0, pt bx0), (3, pt b1), (4, .int .i64 n16), (7, .int .i64 n73)] ⟨rfl, rfl, rfl, rfl, trivial⟩ fun σ => rg (u rfl (x_fa tf163_3 rfl) (u rfl (x_ld tsc161 rfl (S.load 5 rfl 3 rfl)) (mv (.int .i64 n73) rfl (g rfl (o_bsl tsl161 tz3 rfl rfl rfl rfl (.one rfl PC.nil) rfl S fun b99 w S => ?_))))))
       obtain ⟨J100, hJ102, S, h101⟩ := S.freeze (r := (tInt' .i64)) (l := [n73]) 0 rfl ⟨[.int .i64 n73], _, rfl, rfl, rfl⟩ rfl rfl
       have h28 := h28.mono hJ102
       have h78 := h78.mono hJ102
       have h96 := h96.mono hJ102
       have hL30 := hL30.trans hJ102
       obtain ⟨l103, h105, H⟩ := obx H
       refine g rfl (o_appD (r := (tInt' .i64)) tsl161 rfl tz3 rfl rfl S 4 rfl rfl h28 h101 h105 fun v104 w J107 hJ108 S h106 => ?_)
       have h78 := h78.mono hJ108
       have h96 := h96.mono hJ108
       have hL30 := hL30.trans hJ108
       refine u rfl (x_fa tf163_3 rfl) <| g rfl (o_st tone161 S 6 rfl rfl rfl h106.one fun w S => FW.anew [(0, pt bx0), (3, pt b1), (4, .int .i64 n16)] ⟨rfl, rfl, rfl, trivial⟩ fun σ => rg (mv (.int .i64 n16) rfl (u rfl (x_bin rfl rfl rfl) (mv (.int .i64 (i64 (n16 + 1))) rfl ⟨q29, Nat.le_refl _, (i64 (n16 + 1)), s74, n75, l76, true, l93, l103, v77, v94, v104, J107, H, (Nat.le_of_succ_le hq47), ⟨rfl, rfl, rfl, trivial⟩, hL30, (S.sel 7 [4, 5, 2, 3, 6] rfl), h78, h96, h106⟩))))
      rw [if_neg cc88] at H
      refine gu rfl rfl rfl (vaF cc88) (x_movV (v := .int .i64 y64.1) rfl) <| gu rfl rfl rfl (vaF cc88) (x_movV (v := .int .i64 n73) rfl) <| gu rfl rfl rfl (vaF cc88) (x_bin rfl rfl rfl) <| u rfl (x_pickFV (v := .bool (decide (y64.1 > n73))) rfl (vaF cc88) rfl) <| u rfl (x_nk rfl) <| u rfl (x_fa tf135_3 rfl) <| g rfl (o_st tone4 S 0 rfl rfl rfl rfl fun w S => sq (FW.anew [(0, pt bx0), (3, pt b1), (4, .int .i64 n16), (6, .int .i64 y64.1), (7, .int .i64 n73)] ⟨rfl, rfl, rfl, rfl, rfl, trivial⟩ fun σ => rg (u rfl (x_fa tf163_2 rfl) (u rfl (x_ld tsc161 rfl (S.load 4 rfl 2 rfl)) (mv (.int .i64 y64.1) rfl (g rfl (o_bsl tsl161 tz3 rfl rfl rfl rfl (.one rfl PC.nil) rfl S fun b109 w S => ?_)))))))
      obtain ⟨J110, hJ112, S, h111⟩ := S.freeze (r := (tInt' .i64)) (l := [y64.1]) 0 rfl ⟨[.int .i64 y64.1], _, rfl, rfl, rfl⟩ rfl rfl
      have h25 := h25.mono hJ112
      have h78 := h78.mono hJ112
      have h28 := h28.mono hJ112
      have hL30 := hL30.trans hJ112
      obtain ⟨l113, h115, H⟩ := obx H
      refine g rfl (o_appD (r := (tInt' .i64)) tsl161 rfl tz3 rfl rfl S 4 rfl rfl h25 h111 h115 fun v114 w J117 hJ118 S h116 => ?_)
      have h78 := h78.mono hJ118
      have h28 := h28.mono hJ118
      have hL30 := hL30.trans hJ118
      refine u rfl (x_fa tf163_2 rfl) <| g rfl (o_st tone161 S 5 rfl rfl rfl h116.one fun w S => FW.anew [(0, pt bx0), (3, pt b1), (4, .int .i64 n16), (7, .int .i64 n73)] ⟨rfl, rfl, rfl, rfl, trivial⟩ fun σ => rg (u rfl (x_fa tf163_3 rfl) (u rfl (x_ld tsc161 rfl (S.load 5 rfl 3 rfl)) (mv (.int .i64 n73) rfl (g rfl (o_bsl tsl161 tz3 rfl rfl rfl rfl (.one rfl PC.nil) rfl S fun b119 w S => ?_))))))
      obtain ⟨J120, hJ122, S, h121⟩ := S.freeze (r := (tInt' .i64)) (l := [n73]) 0 rfl ⟨[.int .i64 n73], _, rfl, rfl, rfl⟩ rfl rfl
      have h28 := h28.mono hJ122
      have h78 := h78.mono hJ122
      have h116 := h116.mono hJ122
      have hL30 := hL30.trans hJ122
      obtain ⟨l123, h125, H⟩ := obx H
      refine g rfl (o_appD (r := (tInt' .i64)) tsl161 rfl tz3 rfl rfl S 4 rfl rfl h28 h121 h125 fun v124 w J127 hJ128 S h126 => ?_)
      have h78 := h78.mono hJ128
      have h116 := h116.mono hJ128
      have hL30 := hL30.trans hJ128
      refine u rfl (x_fa tf163_3 rfl) <| g rfl (o_st tone161 S 6 rfl rfl rfl h126.one fun w S => FW.anew [(0, pt bx0), (3, pt b1), (4, .int .i64 n16)] ⟨rfl, rfl, rfl, trivial⟩ fun σ => rg (mv (.int .i64 n16) rfl (u rfl (x_bin rfl rfl rfl) (mv (.int .i64 (i64 (n16 + 1))) rfl ⟨q29, Nat.le_refl _, (i64 (n16 + 1)), s74, n75, l76, (decide (y64.1 > n73)), l113, l123, v77, v114, v124, J127, H, (Nat.le_of_succ_le hq47), ⟨rfl, rfl, rfl, trivial⟩, hL30, (S.sel 7 [4, 5, 2, 3, 6] rfl), h78, h116, h126⟩))))
     rw [if_neg cc69] at H
     refine AQ.skip 11 rfl (by kernel_rfl) (by kernel_rfl) (by kernel_rfl) rfl rfl (deF cc69) hO <| AQ.skip 12 rfl (by kernel_rfl) (by kernel_rfl) (by kernel_rfl) rfl rfl (deF cc69) hO <| AQ.skip 13 rfl (by kernel_rfl) (by kernel_rfl) (by kernel_rfl) rfl rfl (deF cc69) hO <| AQ.skip 14 rfl (by kernel_rfl) (by kernel_rfl) (by kernel_rfl) rfl rfl (deF cc69) hO <| AQ.skip 15 rfl (by kernel_rfl) (by kernel_rfl) (by kernel_rfl) rfl rfl (deF cc69) hO <| AQ.skip 16 rfl (by kernel_rfl) (by kernel_rfl) (by kernel_rfl) rfl rfl (deF cc69) hO <| AQ.skip 17 rfl (by kernel_rfl) (by kernel_rfl) (by kernel_rfl) rfl rfl (deF cc69) hO <| AQ.skip 18 rfl (by kernel_rfl) (by kernel_rfl) (by kernel_rfl) rfl rfl (deF cc69) hO <| AQ.skip 19 rfl (by kernel_rfl) (by kernel_rfl) (by kernel_rfl) rfl rfl (deF cc69) hO <| AQ.skip 20 rfl (by kernel_rfl) (by kernel_rfl) (by kernel_rfl) rfl rfl (deF cc69) hO <| ap 21 rfl (by kernel_rfl) hO (fun w => x_pickFV (v := .bool false) rfl (deF cc69) rfl) <| AQ.done (by kernel_rfl) <| cF rfl rfl <| sk <| sq <| FW.anew [(0, pt bx0), (3, pt b1), (4, .int .i64 n16), (6, .int .i64 y64.1), (7, .int .i64 y64.1)] ⟨rfl, rfl, rfl, rfl, rfl, trivial⟩ fun σ => rg <| mv (pt bx0) rfl <| mv (pt bx0) rfl <| u rfl (x_nk rfl) <| u rfl (x_fa tf135_3 rfl) <| u rfl (x_ld tsc4 rfl (S.load 0 rfl 3 rfl)) <| mv (.bool y64.2.Bad) rfl ?_
     by_cases cc129 : y64.2.Bad = true
     ·rw [if_pos cc129] at H
      refine gn rfl rfl rfl cc129 <| gn rfl rfl rfl cc129 <| gn rfl rfl rfl cc129 <| u rfl (x_pickTV (v := .bool true) rfl cc129 rfl) <| u rfl (x_nk rfl) <| u rfl (x_fa tf135_3 rfl) <| g rfl (o_st tone4 S 0 rfl rfl rfl rfl fun w S => sq (FW.anew [(0, pt bx0), (3, pt b1), (4, .int .i64 n16), (6, .int .i64 y64.1), (7, .int .i64 y64.1)] ⟨rfl, rfl, rfl, rfl, rfl, trivial⟩ fun σ => rg (u rfl (x_fa tf163_2 rfl) (u rfl (x_ld tsc161 rfl (S.load 4 rfl 2 rfl)) (mv (.int .i64 y64.1) rfl (g rfl (o_bsl tsl161 tz3 rfl rfl rfl rfl (.one rfl PC.nil) rfl S fun b130 w S => ?_)))))))
      obtain ⟨J131, hJ133, S, h132⟩ := S.freeze (r := (tInt' .i64)) (l := [y64.1]) 0 rfl ⟨[.int .i64 y64.1], _, rfl, rfl, rfl⟩ rfl rfl
      have h25 := h25.mono hJ133
      have y64_1h2 := y64_1h2.mono hJ133
      have h28 := h28.mono hJ133
      have hL30 := hL30.trans hJ133
      obtain ⟨l134, h136, H⟩ := obx H
      refine g rfl (o_appD (r := (tInt' .i64)) tsl161 rfl tz3 rfl rfl S 4 rfl rfl h25 h132 h136 fun v135 w J138 hJ139 S h137 => ?_)
      have y64_1h2 := y64_1h2.mono hJ139
      have h28 := h28.mono hJ139
      have hL30 := hL30.trans hJ139
      refine u rfl (x_fa tf163_2 rfl) <| g rfl (o_st tone161 S 5 rfl rfl rfl h137.one fun w S => FW.anew [(0, pt bx0), (3, pt b1), (4, .int .i64 n16), (7, .int .i64 y64.1)] ⟨rfl, rfl, rfl, rfl, trivial⟩ fun σ => rg (u rfl (x_fa tf163_3 rfl) (u rfl (x_ld tsc161 rfl (S.load 5 rfl 3 rfl)) (mv (.int .i64 y64.1) rfl (g rfl (o_bsl tsl161 tz3 rfl rfl rfl rfl (.one rfl PC.nil) rfl S fun b140 w S => ?_))))))
      obtain ⟨J141, hJ143, S, h142⟩ := S.freeze (r := (tInt' .i64)) (l := [y64.1]) 0 rfl ⟨[.int .i64 y64.1], _, rfl, rfl, rfl⟩ rfl rfl
      have h28 := h28.mono hJ143
      have y64_1h2 := y64_1h2.mono hJ143
      have h137 := h137.mono hJ143
      have hL30 := hL30.trans hJ143
      obtain ⟨l144, h146, H⟩ := obx H
      refine g rfl (o_appD (r := (tInt' .i64)) tsl161 rfl tz3 rfl rfl S 4 rfl rfl h28 h142 h146 fun v145 w J148 hJ149 S h147 => ?_)
      have y64_1h2 := y64_1h2.mono hJ149
      have h137 := h137.mono hJ149
      have hL30 := hL30.trans hJ149
      refine u rfl (x_fa tf163_3 rfl) <| g rfl (o_st tone161 S 6 rfl rfl rfl h147.one fun w S => FW.anew [(0, pt bx0), (3, pt b1), (4, .int .i64 n16)] ⟨rfl, rfl, rfl, trivial⟩ fun σ => rg (mv (.int .i64 n16) rfl (u rfl (x_bin rfl rfl rfl) (mv (.int .i64 (i64 (n16 + 1))) rfl ⟨q29, Nat.le_refl _, (i64 (n16 + 1)), y64.2.S, y64.2.At, y64.2.N, true, l134, l144, y64_1v2, v135, v145, J148, H, (Nat.le_of_succ_le hq47), ⟨rfl, rfl, rfl, trivial⟩, hL30, (S.sel 7 [4, 5, 2, 3, 6] rfl), y64_1h2, h137, h147⟩))))
     rw [if_neg cc129] at H
     refine gu rfl rfl rfl (vaF cc129) (x_movV (v := .int .i64 y64.1) rfl) <| gu rfl rfl rfl (vaF cc129) (x_movV (v := .int .i64 y64.1) rfl) <| gu rfl rfl rfl (vaF cc129) (x_bin rfl rfl rfl) <| u rfl (x_pickFV (v := .bool (decide (y64.1 > y64.1))) rfl (vaF cc129) rfl) <| u rfl (x_nk rfl) <| u rfl (x_fa tf135_3 rfl) <| g rfl (o_st tone4 S 0 rfl rfl rfl rfl fun w S => sq (FW.anew [(0, pt bx0), (3, pt b1), (4, .int .i64 n16), (6, .int .i64 y64.1), (7, .int .i64 y64.1)] ⟨rfl, rfl, rfl, rfl, rfl, trivial⟩ fun σ => rg (u rfl (x_fa tf163_2 rfl) (u rfl (x_ld tsc161 rfl (S.load 4 rfl 2 rfl)) (mv (.int .i64 y64.1) rfl (g rfl (o_bsl tsl161 tz3 rfl rfl rfl rfl (.one rfl PC.nil) rfl S fun b150 w S => ?_)))))))
     obtain ⟨J151, hJ153, S, h152⟩ := S.freeze (r := (tInt' .i64)) (l := [y64.1]) 0 rfl ⟨[.int .i64 y64.1], _, rfl, rfl, rfl⟩ rfl rfl
     have h25 := h25.mono hJ153
     have y64_1h2 := y64_1h2.mono hJ153
     have h28 := h28.mono hJ153
     have hL30 := hL30.trans hJ153
     obtain ⟨l154, h156, H⟩ := obx H
     refine g rfl (o_appD (r := (tInt' .i64)) tsl161 rfl tz3 rfl rfl S 4 rfl rfl h25 h152 h156 fun v155 w J158 hJ159 S h157 => ?_)
     have y64_1h2 := y64_1h2.mono hJ159
     have h28 := h28.mono hJ159
     have hL30 := hL30.trans hJ159
     refine u rfl (x_fa tf163_2 rfl) <| g rfl (o_st tone161 S 5 rfl rfl rfl h157.one fun w S => FW.anew [(0, pt bx0), (3, pt b1), (4, .int .i64 n16), (7, .int .i64 y64.1)] ⟨rfl, rfl, rfl, rfl, trivial⟩ fun σ => rg (u rfl (x_fa tf163_3 rfl) (u rfl (x_ld tsc161 rfl (S.load 5 rfl 3 rfl)) (mv (.int .i64 y64.1) rfl (g rfl (o_bsl tsl161 tz3 rfl rfl rfl rfl (.one rfl PC.nil) rfl S fun b160 w S => ?_))))))
     obtain ⟨J161, hJ163, S, h162⟩ := S.freeze (r := (tInt' .i64)) (l := [y64.1]) 0 rfl ⟨[.int .i64 y64.1], _, rfl, rfl, rfl⟩ rfl rfl
     have h28 := h28.mono hJ163
     have y64_1h2 := y64_1h2.mono hJ163
     have h157 := h157.mono hJ163
     have hL30 := hL30.trans hJ163
     obtain ⟨l164, h166, H⟩ := obx H
     refine g rfl (o_appD (r := (tInt' .i64)) tsl161 rfl tz3 rfl rfl S 4 rfl rfl h28 h162 h166 fun v165 w J168 hJ169 S h167 => ?_)
     have y64_1h2 := y64_1h2.mono hJ169
     have h157 := h157.mono hJ169
     have hL30 := hL30.trans hJ169
     refine u rfl (x_fa tf163_3 rfl) <| g rfl (o_st tone161 S 6 rfl rfl rfl h167.one fun w S => FW.anew [(0, pt bx0), (3, pt b1), (4, .int .i64 n16)] ⟨rfl, rfl, rfl, trivial⟩ fun σ => rg (mv (.int .i64 n16) rfl (u rfl (x_bin rfl rfl rfl) (mv (.int .i64 (i64 (n16 + 1))) rfl ⟨q29, Nat.le_refl _, (i64 (n16 + 1)), y64.2.S, y64.2.At, y64.2.N, (decide (y64.1 > y64.1)), l154, l164, y64_1v2, v155, v165, J168, H, (Nat.le_of_succ_le hq47), ⟨rfl, rfl, rfl, trivial⟩, hL30, (S.sel 7 [4, 5, 2, 3, 6] rfl), y64_1h2, h157, h167⟩))))
    rw [if_neg cc63] at H
    refine cF rfl (vaF cc63) <| rg <| mv (pt bx0) rfl <| u rfl (x_nk rfl) <| u rfl (x_fa tf135_3 rfl) <| g rfl (o_st tone4 S 0 rfl rfl rfl rfl fun w S => FW.anew [(0, pt bx0), (3, pt b1), (4, .int .i64 n16)] ⟨rfl, rfl, rfl, trivial⟩ fun σ => rg (mv (.int .i64 n16) rfl (u rfl (x_bin rfl rfl rfl) (mv (.int .i64 (i64 (n16 + 1))) rfl ⟨q29, Nat.le_refl _, (i64 (n16 + 1)), y50.2.S, y50.2.At, y50.2.N, true, l23, l26, y50_1v2, v24, v27, J52, H, (Nat.le_of_succ_le hq47), ⟨rfl, rfl, rfl, trivial⟩, hL30, (S.sel 5 [2, 3, 0, 1, 4] rfl), y50_1h2, h25, h28⟩))))
   rw [if_neg cc55] at H
   refine gn rfl rfl rfl (eqF cc55) <| gn rfl rfl rfl (eqF cc55) <| gn rfl rfl rfl (eqF cc55) <| gn rfl rfl rfl (eqF cc55) <| u rfl (x_pickFV (v := .bool false) rfl (eqF cc55) rfl) <| mv (.bool false) rfl <| cF rfl rfl <| sq <| FW.anew [(0, pt bx0), (3, pt b1), (4, .int .i64 n16), (5, .int .u8 y50.1)] ⟨rfl, rfl, rfl, rfl, trivial⟩ fun σ => rg <| mv (.int .u8 y50.1) rfl ?_
   obtain ⟨y170, hy171, H⟩ := obx H
   refine g rfl (cl fb150 (@speculumref11_digit.ok q29 y50.1 _ _ _ _ hG S hy171) rfl ?_)
   rintro _ w ⟨rfl, S⟩
   refine mv (.bool y170) rfl ?_
   by_cases cc172 : y170 = true
   ·rw [if_pos cc172] at H
    refine cT rfl cc172 <| sr <| mv (pt bx0) rfl ?_
    obtain ⟨y173, hy174, H⟩ := obx H
    refine g rfl (cl fb151 (@speculumref11_P_num.ok q29 y50.2 _ _ _ _ _ _ hG S y50_1h2 hy174) rfl ?_)
    rintro _ w ⟨y173_1v2, J175, hJ176, rfl, y173_1h2, S⟩
    have h25 := h25.mono hJ176
    have h28 := h28.mono hJ176
    have hL30 := hL30.trans hJ176
    have hG := hG.mono hJ176
    refine mv (.int .i64 y173.1) rfl <| sr <| mv (.int .i64 y173.1) rfl <| mv (.int .i64 y173.1) rfl <| sq <| sq <| FW.anew [(0, pt bx0), (3, pt b1), (4, .int .i64 n16), (6, .int .i64 y173.1), (7, .int .i64 y173.1)] ⟨rfl, rfl, rfl, rfl, rfl, trivial⟩ fun σ => ?_
    have S := S.drew
    refine FW.regionD mixed ?_
    have hO := Hold.nil (w := { w with drawn := w.drawn + 1 })
    refine am 0 (pt bx0) rfl (by kernel_rfl) hO <| ap 1 rfl (by kernel_rfl) hO (fun w => x_nk rfl) <| ap 2 rfl (by kernel_rfl) hO (fun w => x_fa tf135_1 rfl) ?_
    have hR177 := IMem.le.refl J175
    refine ak (Stab J175 [.bk bx0 135 [.string y173.2.S, .int .i64 y173.2.At, y173_1v2, .bool y173.2.Bad]]) 3 rfl (by kernel_rfl) hO (Stab.of S 0 rfl hR177) (fun w hS => x_ld tsc3 rfl (hS.load 0 rfl 1 rfl)) fun hO => am 4 (pt bx0) rfl (by kernel_rfl) hO <| ap 5 rfl (by kernel_rfl) hO (fun w => x_nk rfl) <| ap 6 rfl (by kernel_rfl) hO (fun w => x_fa tf135_0 rfl) <| ak (Stab J175 [.bk bx0 135 [.string y173.2.S, .int .i64 y173.2.At, y173_1v2, .bool y173.2.Bad]]) 7 rfl (by kernel_rfl) hO (Stab.of S 0 rfl hR177) (fun w hS => x_ld tsc9 rfl (hS.load 0 rfl 0 rfl)) fun hO => ap 8 rfl (by kernel_rfl) hO (fun w => x_lens tstr9 rfl) <| ap 9 rfl (by kernel_rfl) hO (fun w => x_bin rfl rfl rfl) <| am 10 (.bool (decide (y173.2.At < (y173.2.S.size : Int)))) rfl (by kernel_rfl) hO ?_
    by_cases cc178 : y173.2.At < (y173.2.S.size : Int)
    ·rw [if_pos cc178] at H
     refine AQ.pure 11 rfl (by kernel_rfl) (by kernel_rfl) (by kernel_rfl) (gT rfl rfl (deT cc178)) hO (fun w => x_movV (v := pt bx0) rfl) <| AQ.pure 12 rfl (by kernel_rfl) (by kernel_rfl) (by kernel_rfl) (gT rfl rfl (deT cc178)) hO (fun w => x_nk rfl) <| AQ.pure 13 rfl (by kernel_rfl) (by kernel_rfl) (by kernel_rfl) (gT rfl rfl (deT cc178)) hO (fun w => x_fa tf135_0 rfl) <| AQ.take (S := Stab J175 [.bk bx0 135 [.string y173.2.S, .int .i64 y173.2.At, y173_1v2, .bool y173.2.Bad]]) 14 rfl (by kernel_rfl) (by kernel_rfl) (by kernel_rfl) (gT rfl rfl (deT cc178)) hO (Stab.of S 0 rfl hR177) (fun w hS => x_ld tsc9 rfl (hS.load 0 rfl 0 rfl)) fun hO => AQ.pure 15 rfl (by kernel_rfl) (by kernel_rfl) (by kernel_rfl) (gT rfl rfl (deT cc178)) hO (fun w => x_movV (v := pt bx0) rfl) <| AQ.pure 16 rfl (by kernel_rfl) (by kernel_rfl) (by kernel_rfl) (gT rfl rfl (deT cc178)) hO (fun w => x_nk rfl) <| AQ.pure 17 rfl (by kernel_rfl) (by kernel_rfl) (by kernel_rfl) (gT rfl rfl (deT cc178)) hO (fun w => x_fa tf135_1 rfl) <| AQ.take (S := Stab J175 [.bk bx0 135 [.string y173.2.S, .int .i64 y173.2.At, y173_1v2, .bool y173.2.Bad]]) 18 rfl (by kernel_rfl) (by kernel_rfl) (by kernel_rfl) (gT rfl rfl (deT cc178)) hO (Stab.of S 0 rfl hR177) (fun w hS => x_ld tsc3 rfl (hS.load 0 rfl 1 rfl)) fun hO => ?_
     obtain ⟨y179, h180, H⟩ := obx H
     refine AQ.pure 19 rfl (by kernel_rfl) (by kernel_rfl) (by kernel_rfl) (gT rfl rfl (deT cc178)) hO (fun w => x_sat tstr9 rfl rfl h180) <| AQ.pure 20 rfl (by kernel_rfl) (by kernel_rfl) (by kernel_rfl) (gT rfl rfl (deT cc178)) hO (fun w => x_bin rfl rfl rfl) <| ap 21 rfl (by kernel_rfl) hO (fun w => x_pickTV (v := .bool (y179 == 45)) rfl (deT cc178) rfl) <| AQ.done (by kernel_rfl) ?_
     obtain ⟨o189, H, HO190⟩ := obx H
     have hL191 := IMem.le.refl J175
     refine FW.cutN (fun σ w => ∃ (n182 : Int) (s183 : ByteArray) (n184 : Int) (l185 : (List T_speculumref11_Node)) (b188 : Bool) (v186 : Value) (J181 : IMem), (n182, s183, n184, l185, b188) = o189 ∧ Has σ [(0, pt bx0), (3, pt b1), (4, .int .i64 n16), (6, .int .i64 y173.1), (7, .int .i64 n182)] ∧ J175.le J181 ∧ Own J181 w (.bk bx0 135 [.string s183, .int .i64 n184, v186, .bool b188] :: .tv v186 163 6 :: .tv v27 3 1 :: .tv v24 3 1 :: .bk b1 163 [.int .u8 115, (.slice none 0 0), v24, v27, .bool b8, .bool false] :: F) ∧ SlR R_speculumref11_Node J181 v186 l185) ?_ ?_
     ·by_cases cc192 : y179 = 45
      ·rw [if_pos cc192] at H
       refine cT rfl (eqT cc192) <| sq <| FW.anew [(0, pt bx0), (3, pt b1), (4, .int .i64 n16), (6, .int .i64 y173.1)] ⟨rfl, rfl, rfl, rfl, trivial⟩ fun σ => rg <| mv (pt bx0) rfl <| mv (pt bx0) rfl <| u rfl (x_nk rfl) <| u rfl (x_fa tf135_1 rfl) <| u rfl (x_ld tsc3 rfl (S.load 0 rfl 1 rfl)) <| u rfl (x_bin rfl rfl rfl) <| u rfl (x_nk rfl) <| u rfl (x_fa tf135_1 rfl) <| g rfl (o_st tone3 S 0 rfl rfl rfl rfl fun w S => FW.anew [(0, pt bx0), (3, pt b1), (4, .int .i64 n16), (6, .int .i64 y173.1)] ⟨rfl, rfl, rfl, rfl, trivial⟩ fun σ => rg (mv (pt bx0) rfl ?_))
       obtain ⟨y193, hy194, H⟩ := obx H
       refine g rfl (cl fb151 (@speculumref11_P_num.ok q29 (T_speculumref11_P.mk y173.2.S (i64 (y173.2.At + 1)) y173.2.N y173.2.Bad) _ _ _ _ _ _ hG S y173_1h2 hy194) rfl ?_)
       rintro _ w ⟨y193_1v2, J195, hJ196, rfl, y193_1h2, S⟩
       have hL191 := hL191.trans hJ196
       refine mv (.int .i64 y193.1) rfl ⟨y193.1, y193.2.S, y193.2.At, y193.2.N, y193.2.Bad, y193_1v2, J195, (si H), ⟨rfl, rfl, rfl, rfl, rfl, trivial⟩, hL191, S, y193_1h2⟩
      rw [if_neg cc192] at H
      refine cF rfl (eqF cc192) <| sk ⟨y173.1, y173.2.S, y173.2.At, y173.2.N, y173.2.Bad, y173_1v2, J175, (si H), ⟨rfl, rfl, rfl, rfl, rfl, trivial⟩, hL191, S, y173_1h2⟩
     rintro σ w ⟨n182, s183, n184, l185, b188, v186, J181, ho, hσ, hL191, S, h187⟩
     subst ho
     have H := HO190
     try dsimp only at H
     have h25 := h25.mono hL191
     have h28 := h28.mono hL191
     have hL30 := hL30.trans hL191
     rw [hσ.eq]
     refine sr <| mv (pt bx0) rfl <| mv (pt bx0) rfl <| u rfl (x_nk rfl) <| u rfl (x_fa tf135_3 rfl) <| u rfl (x_ld tsc4 rfl (S.load 0 rfl 3 rfl)) <| mv (.bool b188) rfl ?_
     by_cases cc197 : b188 = true
     ·rw [if_pos cc197] at H
      refine gn rfl rfl rfl cc197 <| gn rfl rfl rfl cc197 <| gn rfl rfl rfl cc197 <| u rfl (x_pickTV (v := .bool true) rfl cc197 rfl) <| u rfl (x_nk rfl) <| u rfl (x_fa tf135_3 rfl) <| g rfl (o_st tone4 S 0 rfl rfl rfl rfl fun w S => sq (FW.anew [(0, pt bx0), (3, pt b1), (4, .int .i64 n16), (6, .int .i64 y173.1), (7, .int .i64 n182)] ⟨rfl, rfl, rfl, rfl, rfl, trivial⟩ fun σ => rg (u rfl (x_fa tf163_2 rfl) (u rfl (x_ld tsc161 rfl (S.load 4 rfl 2 rfl)) (mv (.int .i64 y173.1) rfl (g rfl (o_bsl tsl161 tz3 rfl rfl rfl rfl (.one rfl PC.nil) rfl S fun b198 w S => ?_)))))))
      obtain ⟨J199, hJ201, S, h200⟩ := S.freeze (r := (tInt' .i64)) (l := [y173.1]) 0 rfl ⟨[.int .i64 y173.1], _, rfl, rfl, rfl⟩ rfl rfl
      have h25 := h25.mono hJ201
      have h187 := h187.mono hJ201
      have h28 := h28.mono hJ201
      have hL30 := hL30.trans hJ201
      obtain ⟨l202, h204, H⟩ := obx H
      refine g rfl (o_appD (r := (tInt' .i64)) tsl161 rfl tz3 rfl rfl S 4 rfl rfl h25 h200 h204 fun v203 w J206 hJ207 S h205 => ?_)
      have h187 := h187.mono hJ207
      have h28 := h28.mono hJ207
      have hL30 := hL30.trans hJ207
      refine u rfl (x_fa tf163_2 rfl) <| g rfl (o_st tone161 S 5 rfl rfl rfl h205.one fun w S => FW.anew [(0, pt bx0), (3, pt b1), (4, .int .i64 n16), (7, .int .i64 n182)] ⟨rfl, rfl, rfl, rfl, trivial⟩ fun σ => rg (u rfl (x_fa tf163_3 rfl) (u rfl (x_ld tsc161 rfl (S.load 5 rfl 3 rfl)) (mv (.int .i64 n182) rfl (g rfl (o_bsl tsl161 tz3 rfl rfl rfl rfl (.one rfl PC.nil) rfl S fun b208 w S => ?_))))))
      obtain ⟨J209, hJ211, S, h210⟩ := S.freeze (r := (tInt' .i64)) (l := [n182]) 0 rfl ⟨[.int .i64 n182], _, rfl, rfl, rfl⟩ rfl rfl
      have h28 := h28.mono hJ211
      have h187 := h187.mono hJ211
      have h205 := h205.mono hJ211
      have hL30 := hL30.trans hJ211
      obtain ⟨l212, h214, H⟩ := obx H
      refine g rfl (o_appD (r := (tInt' .i64)) tsl161 rfl tz3 rfl rfl S 4 rfl rfl h28 h210 h214 fun v213 w J216 hJ217 S h215 => ?_)
      have h187 := h187.mono hJ217
      have h205 := h205.mono hJ217
      have hL30 := hL30.trans hJ217
      refine u rfl (x_fa tf163_3 rfl) <| g rfl (o_st tone161 S 6 rfl rfl rfl h215.one fun w S => FW.anew [(0, pt bx0), (3, pt b1), (4, .int .i64 n16)] ⟨rfl, rfl, rfl, trivial⟩ fun σ => rg (mv (.int .i64 n16) rfl (u rfl (x_bin rfl rfl rfl) (mv (.int .i64 (i64 (n16 + 1))) rfl ⟨q29, Nat.le_refl _, (i64 (n16 + 1)), s183, n184, l185, true, l202, l212, v186, v203, v213, J216, H, (Nat.le_of_succ_le hq47), ⟨rfl, rfl, rfl, trivial⟩, hL30, (S.sel 7 [4, 5, 2, 3, 6] rfl), h187, h205, h215⟩))))
     rw [if_neg cc197] at H
     refine gu rfl rfl rfl (vaF cc197) (x_movV (v := .int .i64 y173.1) rfl) <| gu rfl rfl rfl (vaF cc197) (x_movV (v := .int .i64 n182) rfl) <| gu rfl rfl rfl (vaF cc197) (x_bin rfl rfl rfl) <| u rfl (x_pickFV (v := .bool (decide (y173.1 > n182))) rfl (vaF cc197) rfl) <| u rfl (x_nk rfl) <| u rfl (x_fa tf135_3 rfl) <| g rfl (o_st tone4 S 0 rfl rfl rfl rfl fun w S => sq (FW.anew [(0, pt bx0), (3, pt b1), (4, .int .i64 n16), (6, .int .i64 y173.1), (7, .int .i64 n182)] ⟨rfl, rfl, rfl, rfl, rfl, trivial⟩ fun σ => rg (u rfl (x_fa tf163_2 rfl) (u rfl (x_ld tsc161 rfl (S.load 4 rfl 2 rfl)) (mv (.int .i64 y173.1) rfl (g rfl (o_bsl tsl161 tz3 rfl rfl rfl rfl (.one rfl PC.nil) rfl S fun b218 w S => ?_)))))))
     obtain ⟨J219, hJ221, S, h220⟩ := S.freeze (r := (tInt' .i64)) (l := [y173.1]) 0 rfl ⟨[.int .i64 y173.1], _, rfl, rfl, rfl⟩ rfl rfl
     have h25 := h25.mono hJ221
     have h187 := h187.mono hJ221
     have h28 := h28.mono hJ221
     have hL30 := hL30.trans hJ221
     obtain ⟨l222, h224, H⟩ := obx H
     refine g rfl (o_appD (r := (tInt' .i64)) tsl161 rfl tz3 rfl rfl S 4 rfl rfl h25 h220 h224 fun v223 w J226 hJ227 S h225 => ?_)
     have h187 := h187.mono hJ227
     have h28 := h28.mono hJ227
     have hL30 := hL30.trans hJ227
     refine u rfl (x_fa tf163_2 rfl) <| g rfl (o_st tone161 S 5 rfl rfl rfl h225.one fun w S => FW.anew [(0, pt bx0), (3, pt b1), (4, .int .i64 n16), (7, .int .i64 n182)] ⟨rfl, rfl, rfl, rfl, trivial⟩ fun σ => rg (u rfl (x_fa tf163_3 rfl) (u rfl (x_ld tsc161 rfl (S.load 5 rfl 3 rfl)) (mv (.int .i64 n182) rfl (g rfl (o_bsl tsl161 tz3 rfl rfl rfl rfl (.one rfl PC.nil) rfl S fun b228 w S => ?_))))))
     obtain ⟨J229, hJ231, S, h230⟩ := S.freeze (r := (tInt' .i64)) (l := [n182]) 0 rfl ⟨[.int .i64 n182], _, rfl, rfl, rfl⟩ rfl rfl
     have h28 := h28.mono hJ231
     have h187 := h187.mono hJ231
     have h225 := h225.mono hJ231
     have hL30 := hL30.trans hJ231
     obtain ⟨l232, h234, H⟩ := obx H
     refine g rfl (o_appD (r := (tInt' .i64)) tsl161 rfl tz3 rfl rfl S 4 rfl rfl h28 h230 h234 fun v233 w J236 hJ237 S h235 => ?_)
     have h187 := h187.mono hJ237
     have h225 := h225.mono hJ237
     have hL30 := hL30.trans hJ237
     refine u rfl (x_fa tf163_3 rfl) <| g rfl (o_st tone161 S 6 rfl rfl rfl h235.one fun w S => FW.anew [(0, pt bx0), (3, pt b1), (4, .int .i64 n16)] ⟨rfl, rfl, rfl, trivial⟩ fun σ => rg (mv (.int .i64 n16) rfl (u rfl (x_bin rfl rfl rfl) (mv (.int .i64 (i64 (n16 + 1))) rfl ⟨q29, Nat.le_refl _, (i64 (n16 + 1)), s183, n184, l185, (decide (y173.1 > n182)), l222, l232, v186, v223, v233, J236, H, (Nat.le_of_succ_le hq47), ⟨rfl, rfl, rfl, trivial⟩, hL30, (S.sel 7 [4, 5, 2, 3, 6] rfl), h187, h225, h235⟩))))
    rw [if_neg cc178] at H
    refine AQ.skip 11 rfl (by kernel_rfl) (by kernel_rfl) (by kernel_rfl) rfl rfl (deF cc178) hO <| AQ.skip 12 rfl (by kernel_rfl) (by kernel_rfl) (by kernel_rfl) rfl rfl (deF cc178) hO <| AQ.skip 13 rfl (by kernel_rfl) (by kernel_rfl) (by kernel_rfl) rfl rfl (deF cc178) hO <| AQ.skip 14 rfl (by kernel_rfl) (by kernel_rfl) (by kernel_rfl) rfl rfl (deF cc178) hO <| AQ.skip 15 rfl (by kernel_rfl) (by kernel_rfl) (by kernel_rfl) rfl rfl (deF cc178) hO <| AQ.skip 16 rfl (by kernel_rfl) (by kernel_rfl) (by kernel_rfl) rfl rfl (deF cc178) hO <| AQ.skip 17 rfl (by kernel_rfl) (by kernel_rfl) (by kernel_rfl) rfl rfl (deF cc178) hO <| AQ.skip 18 rfl (by kernel_rfl) (by kernel_rfl) (by kernel_rfl) rfl rfl (deF cc178) hO <| AQ.skip 19 rfl (by kernel_rfl) (by kernel_rfl) (by kernel_rfl) rfl rfl (deF cc178) hO <| AQ.skip 20 rfl (by kernel_rfl) (by kernel_rfl) (by kernel_rfl) rfl rfl (deF cc178) hO <| ap 21 rfl (by kernel_rfl) hO (fun w => x_pickFV (v := .bool false) rfl (deF cc178) rfl) <| AQ.done (by kernel_rfl) <| cF rfl rfl <| sk <| sq <| FW.anew [(0, pt bx0), (3, pt b1), (4, .int .i64 n16), (6, .int .i64 y173.1), (7, .int .i64 y173.1)] ⟨rfl, rfl, rfl, rfl, rfl, trivial⟩ fun σ => rg <| mv (pt bx0) rfl <| mv (pt bx0) rfl <| u rfl (x_nk rfl) <| u rfl (x_fa tf135_3 rfl) <| u rfl (x_ld tsc4 rfl (S.load 0 rfl 3 rfl)) <| mv (.bool y173.2.Bad) rfl ?_
    by_cases cc238 : y173.2.Bad = true
    ·rw [if_pos cc238] at H
     refine gn rfl rfl rfl cc238 <| gn rfl rfl rfl cc238 <| gn rfl rfl rfl cc238 <| u rfl (x_pickTV (v := .bool true) rfl cc238 rfl) <| u rfl (x_nk rfl) <| u rfl (x_fa tf135_3 rfl) <| g rfl (o_st tone4 S 0 rfl rfl rfl rfl fun w S => sq (FW.anew [(0, pt bx0), (3, pt b1), (4, .int .i64 n16), (6, .int .i64 y173.1), (7, .int .i64 y173.1)] ⟨rfl, rfl, rfl, rfl, rfl, trivial⟩ fun σ => rg (u rfl (x_fa tf163_2 rfl) (u rfl (x_ld tsc161 rfl (S.load 4 rfl 2 rfl)) (mv (.int .i64 y173.1) rfl (g rfl (o_bsl tsl161 tz3 rfl rfl rfl rfl (.one rfl PC.nil) rfl S fun b239 w S => ?_)))))))
     obtain ⟨J240, hJ242, S, h241⟩ := S.freeze (r := (tInt' .i64)) (l := [y173.1]) 0 rfl ⟨[.int .i64 y173.1], _, rfl, rfl, rfl⟩ rfl rfl
     have h25 := h25.mono hJ242
     have y173_1h2 := y173_1h2.mono hJ242
     have h28 := h28.mono hJ242
     have hL30 := hL30.trans hJ242
     obtain ⟨l243, h245, H⟩ := obx H
     refine g rfl (o_appD (r := (tInt' .i64)) tsl161 rfl tz3 rfl rfl S 4 rfl rfl h25 h241 h245 fun v244 w J247 hJ248 S h246 => ?_)
     have y173_1h2 := y173_1h2.mono hJ248
     have h28 := h28.mono hJ248
     have hL30 := hL30.trans hJ248
     refine u rfl (x_fa tf163_2 rfl) <| g rfl (o_st tone161 S 5 rfl rfl rfl h246.one fun w S => FW.anew [(0, pt bx0), (3, pt b1), (4, .int .i64 n16), (7, .int .i64 y173.1)] ⟨rfl, rfl, rfl, rfl, trivial⟩ fun σ => rg (u rfl (x_fa tf163_3 rfl) (u rfl (x_ld tsc161 rfl (S.load 5 rfl 3 rfl)) (mv (.int .i64 y173.1) rfl (g rfl (o_bsl tsl161 tz3 rfl rfl rfl rfl (.one rfl PC.nil) rfl S fun b249 w S => ?_))))))
     obtain ⟨J250, hJ252, S, h251⟩ := S.freeze (r := (tInt' .i64)) (l := [y173.1]) 0 rfl ⟨[.int .i64 y173.1], _, rfl, rfl, rfl⟩ rfl rfl
     have h28 := h28.mono hJ252
     have y173_1h2 := y173_1h2.mono hJ252
     have h246 := h246.mono hJ252
     have hL30 := hL30.trans hJ252
     obtain ⟨l253, h255, H⟩ := obx H
     refine g rfl (o_appD (r := (tInt' .i64)) tsl161 rfl tz3 rfl rfl S 4 rfl rfl h28 h251 h255 fun v254 w J257 hJ258 S h256 => ?_)
     have y173_1h2 := y173_1h2.mono hJ258
     have h246 := h246.mono hJ258
     have hL30 := hL30.trans hJ258
     refine u rfl (x_fa tf163_3 rfl) <| g rfl (o_st tone161 S 6 rfl rfl rfl h256.one fun w S => FW.anew [(0, pt bx0), (3, pt b1), (4, .int .i64 n16)] ⟨rfl, rfl, rfl, trivial⟩ fun σ => rg (mv (.int .i64 n16) rfl (u rfl (x_bin rfl rfl rfl) (mv (.int .i64 (i64 (n16 + 1))) rfl ⟨q29, Nat.le_refl _, (i64 (n16 + 1)), y173.2.S, y173.2.At, y173.2.N, true, l243, l253, y173_1v2, v244, v254, J257, H, (Nat.le_of_succ_le hq47), ⟨rfl, rfl, rfl, trivial⟩, hL30, (S.sel 7 [4, 5, 2, 3, 6] rfl), y173_1h2, h246, h256⟩))))
    rw [if_neg cc238] at H
    refine gu rfl rfl rfl (vaF cc238) (x_movV (v := .int .i64 y173.1) rfl) <| gu rfl rfl rfl (vaF cc238) (x_movV (v := .int .i64 y173.1) rfl) <| gu rfl rfl rfl (vaF cc238) (x_bin rfl rfl rfl) <| u rfl (x_pickFV (v := .bool (decide (y173.1 > y173.1))) rfl (vaF cc238) rfl) <| u rfl (x_nk rfl) <| u rfl (x_fa tf135_3 rfl) <| g rfl (o_st tone4 S 0 rfl rfl rfl rfl fun w S => sq (FW.anew [(0, pt bx0), (3, pt b1), (4, .int .i64 n16), (6, .int .i64 y173.1), (7, .int .i64 y173.1)] ⟨rfl, rfl, rfl, rfl, rfl, trivial⟩ fun σ => rg (u rfl (x_fa tf163_2 rfl) (u rfl (x_ld tsc161 rfl (S.load 4 rfl 2 rfl)) (mv (.int .i64 y173.1) rfl (g rfl (o_bsl tsl161 tz3 rfl rfl rfl rfl (.one rfl PC.nil) rfl S fun b259 w S => ?_)))))))
    obtain ⟨J260, hJ262, S, h261⟩ := S.freeze (r := (tInt' .i64)) (l := [y173.1]) 0 rfl ⟨[.int .i64 y173.1], _, rfl, rfl, rfl⟩ rfl rfl
    have h25 := h25.mono hJ262
    have y173_1h2 := y173_1h2.mono hJ262
    have h28 := h28.mono hJ262
    have hL30 := hL30.trans hJ262
    obtain ⟨l263, h265, H⟩ := obx H
    refine g rfl (o_appD (r := (tInt' .i64)) tsl161 rfl tz3 rfl rfl S 4 rfl rfl h25 h261 h265 fun v264 w J267 hJ268 S h266 => ?_)
    have y173_1h2 := y173_1h2.mono hJ268
    have h28 := h28.mono hJ268
    have hL30 := hL30.trans hJ268
    refine u rfl (x_fa tf163_2 rfl) <| g rfl (o_st tone161 S 5 rfl rfl rfl h266.one fun w S => FW.anew [(0, pt bx0), (3, pt b1), (4, .int .i64 n16), (7, .int .i64 y173.1)] ⟨rfl, rfl, rfl, rfl, trivial⟩ fun σ => rg (u rfl (x_fa tf163_3 rfl) (u rfl (x_ld tsc161 rfl (S.load 5 rfl 3 rfl)) (mv (.int .i64 y173.1) rfl (g rfl (o_bsl tsl161 tz3 rfl rfl rfl rfl (.one rfl PC.nil) rfl S fun b269 w S => ?_))))))
    obtain ⟨J270, hJ272, S, h271⟩ := S.freeze (r := (tInt' .i64)) (l := [y173.1]) 0 rfl ⟨[.int .i64 y173.1], _, rfl, rfl, rfl⟩ rfl rfl
    have h28 := h28.mono hJ272
    have y173_1h2 := y173_1h2.mono hJ272
    have h266 := h266.mono hJ272
    have hL30 := hL30.trans hJ272
    obtain ⟨l273, h275, H⟩ := obx H
    refine g rfl (o_appD (r := (tInt' .i64)) tsl161 rfl tz3 rfl rfl S 4 rfl rfl h28 h271 h275 fun v274 w J277 hJ278 S h276 => ?_)
    have y173_1h2 := y173_1h2.mono hJ278
    have h266 := h266.mono hJ278
    have hL30 := hL30.trans hJ278
    refine u rfl (x_fa tf163_3 rfl) <| g rfl (o_st tone161 S 6 rfl rfl rfl h276.one fun w S => FW.anew [(0, pt bx0), (3, pt b1), (4, .int .i64 n16)] ⟨rfl, rfl, rfl, trivial⟩ fun σ => rg (mv (.int .i64 n16) rfl (u rfl (x_bin rfl rfl rfl) (mv (.int .i64 (i64 (n16 + 1))) rfl ⟨q29, Nat.le_refl _, (i64 (n16 + 1)), y173.2.S, y173.2.At, y173.2.N, (decide (y173.1 > y173.1)), l263, l273, y173_1v2, v264, v274, J277, H, (Nat.le_of_succ_le hq47), ⟨rfl, rfl, rfl, trivial⟩, hL30, (S.sel 7 [4, 5, 2, 3, 6] rfl), y173_1h2, h266, h276⟩))))
   rw [if_neg cc172] at H
   refine cF rfl (vaF cc172) <| rg <| mv (pt bx0) rfl <| u rfl (x_nk rfl) <| u rfl (x_fa tf135_3 rfl) <| g rfl (o_st tone4 S 0 rfl rfl rfl rfl fun w S => FW.anew [(0, pt bx0), (3, pt b1), (4, .int .i64 n16)] ⟨rfl, rfl, rfl, trivial⟩ fun σ => rg (mv (.int .i64 n16) rfl (u rfl (x_bin rfl rfl rfl) (mv (.int .i64 (i64 (n16 + 1))) rfl ⟨q29, Nat.le_refl _, (i64 (n16 + 1)), y50.2.S, y50.2.At, y50.2.N, true, l23, l26, y50_1v2, v24, v27, J52, H, (Nat.le_of_succ_le hq47), ⟨rfl, rfl, rfl, trivial⟩, hL30, (S.sel 5 [2, 3, 0, 1, 4] rfl), y50_1h2, h25, h28⟩))))
  rw [if_neg cc48] at H
  refine gn rfl rfl rfl (deF cc48) <| gn rfl rfl rfl (deF cc48) <| gn rfl rfl rfl (deF cc48) <| gn rfl rfl rfl (deF cc48) <| gn rfl rfl rfl (deF cc48) <| u rfl (x_pickFV (v := .bool false) rfl (deF cc48) rfl) <| cF rfl rfl <| ex ⟨s17, n18, l19, b22, l23, l26, v20, v24, v27, J15, (si H), ⟨rfl, trivial⟩, hL30, S, h21, h25, h28⟩
 rintro σ w ⟨s35, n36, l37, b40, l41, l44, v38, v42, v45, J34, ho, hσ, hL30, S, h39, h43, h46⟩
 subst ho
 have H := HO32
 try dsimp only at H
 have hI := hI.trans hL30
 rw [hσ.eq]
 refine sr <| mv (pt bx0) rfl <| u rfl (x_nk rfl) <| u rfl (x_fa tf135_3 rfl) <| g rfl (o_st tone4 S 2 rfl rfl rfl rfl fun w S => sq (rg (mv (.int .i64 0) rfl (rt ?_))))
 obtain rfl := si H
 exact ⟨_, ⟨_, rfl, rfl⟩, ⟨v38, J34, hI, rfl, h39, (S.sel 5 [2, 3] rfl)⟩⟩
end Go.Proofs.YtafnenafbognkaaGreatDoor
namespace Go.Proofs.YtafnenafbognkaaGreatDoor
open Sp
set_option maxRecDepth 100000
set_option maxHeartbeats 4000000
mutual
def speculumref11_P_choices.l0 : Nat → (List Int) → ByteArray → Int → (List T_speculumref11_Node) → Bool → Option ((List Int) × ByteArray × Int × (List T_speculumref11_Node) × Bool)
  | 0, _, _, _, _, _ => none
  | k + 1, l11, s14, n15, l16, b19 => (if b19 = true then (some (l11, s14, n15, l16, b19)) else ((speculumref11_P_sign.f k (T_speculumref11_P.mk s14 n15 l16 b19)).bind fun y37 => (if y37.1 = 124 then ((speculumref11_P_row.f k (T_speculumref11_P.mk y37.2.S (i64 (y37.2.At + 1)) y37.2.N y37.2.Bad)).bind fun y43 => ((app 8 l11 [y43.1]).bind fun l51 => (speculumref11_P_choices.l0 k l51 y43.2.S y43.2.At y43.2.N y43.2.Bad))) else (some (l11, y37.2.S, y37.2.At, y37.2.N, y37.2.Bad)))))
def speculumref11_P_choices.f : Nat → T_speculumref11_P → Option (Int × T_speculumref11_P)
  | 0, _ => none
  | k + 1, x0 => ((speculumref11_P_row.f k x0).bind fun y1 => ((speculumref11_P_choices.l0 k [y1.1] y1.2.S y1.2.At y1.2.N y1.2.Bad).bind fun (l26, s29, n30, l31, b34) => ((speculumref11_P_put.f k (T_speculumref11_P.mk s29 n30 l31 b34) (T_speculumref11_Node.mk 99 l26 [] [] false false)).bind fun y57 => (some (y57.1, y57.2)))))
def speculumref11_P_row.l0 : Nat → Int → ByteArray → Int → (List T_speculumref11_Node) → Bool → (List Int) → Option (ByteArray × Int × (List T_speculumref11_Node) × Bool × (List Int))
  | 0, _, _, _, _, _, _ => none
  | k + 1, n8, s9, n10, l11, b14, l15 => (if b14 = true then (some (s9, n10, l11, b14, l15)) else (if n8 = 0 then (some (s9, n10, l11, b14, l15)) else (if n8 = 124 then (some (s9, n10, l11, b14, l15)) else (if n8 = 41 then (some (s9, n10, l11, b14, l15)) else ((speculumref11_P_part.f k (T_speculumref11_P.mk s9 n10 l11 b14)).bind fun y39 => ((app 8 l15 [y39.1]).bind fun l47 => ((speculumref11_P_sign.f k y39.2).bind fun y53 => (speculumref11_P_row.l0 k y53.1 y53.2.S y53.2.At y53.2.N y53.2.Bad l47))))))))
def speculumref11_P_row.f : Nat → T_speculumref11_P → Option (Int × T_speculumref11_P)
  | 0, _ => none
  | k + 1, x0 => ((speculumref11_P_sign.f k x0).bind fun y2 => ((speculumref11_P_row.l0 k y2.1 y2.2.S y2.2.At y2.2.N y2.2.Bad []).bind fun (s24, n25, l26, b29, l30) => ((speculumref11_P_put.f k (T_speculumref11_P.mk s24 n25 l26 b29) (T_speculumref11_Node.mk 114 l30 [] [] false false)).bind fun y57 => (some (y57.1, y57.2)))))
def speculumref11_P_part.l0 : Nat → Int → Int → ByteArray → Int → (List T_speculumref11_Node) → Bool → Option (Int × ByteArray × Int × (List T_speculumref11_Node) × Bool)
  | 0, _, _, _, _, _, _ => none
  | k + 1, n70, n71, s72, n73, l74, b77 => (if b77 = true then (some (n71, s72, n73, l74, b77)) else (if n70 = 42 then ((speculumref11_P_put.f k (T_speculumref11_P.mk s72 (i64 (n73 + 1)) l74 b77) (T_speculumref11_Node.mk n70 [n71] [] [] false false)).bind fun y98 => ((speculumref11_P_sign.f k y98.2).bind fun y102 => (speculumref11_P_part.l0 k y102.1 y98.1 y102.2.S y102.2.At y102.2.N y102.2.Bad))) else (if n70 = 43 then ((speculumref11_P_put.f k (T_speculumref11_P.mk s72 (i64 (n73 + 1)) l74 b77) (T_speculumref11_Node.mk n70 [n71] [] [] false false)).bind fun y111 => ((speculumref11_P_sign.f k y111.2).bind fun y115 => (speculumref11_P_part.l0 k y115.1 y111.1 y115.2.S y115.2.At y115.2.N y115.2.Bad))) else (if n70 = 63 then ((speculumref11_P_put.f k (T_speculumref11_P.mk s72 (i64 (n73 + 1)) l74 b77) (T_speculumref11_Node.mk n70 [n71] [] [] false false)).bind fun y124 => ((speculumref11_P_sign.f k y124.2).bind fun y128 => (speculumref11_P_part.l0 k y128.1 y124.1 y128.2.S y128.2.At y128.2.N y128.2.Bad))) else (some (n71, s72, n73, l74, b77))))))
def speculumref11_P_part.f : Nat → T_speculumref11_P → Option (Int × T_speculumref11_P)
  | 0, _ => none
  | k + 1, x0 => ((speculumref11_P_sign.f k x0).bind fun y1 => ((((speculumref11_digit.f k y1.1).bind fun y16 => (if y16 = true then ((speculumref11_P_num.f k y1.2).bind fun y19 => ((speculumref11_P_put.f k y19.2 (T_speculumref11_Node.mk 115 [] [y19.1] [y19.1] false true)).bind fun y31 => (some (.inr (y31.1, y31.2.S, y31.2.At, y31.2.N, y31.2.Bad))))) else (if y1.1 = 46 then ((speculumref11_P_put.f k (T_speculumref11_P.mk y1.2.S (i64 (y1.2.At + 1)) y1.2.N y1.2.Bad) (T_speculumref11_Node.mk y1.1 [] [] [] false false)).bind fun y36 => (some (.inr (y36.1, y36.2.S, y36.2.At, y36.2.N, y36.2.Bad)))) else (if y1.1 = 94 then ((speculumref11_P_put.f k (T_speculumref11_P.mk y1.2.S (i64 (y1.2.At + 1)) y1.2.N y1.2.Bad) (T_speculumref11_Node.mk y1.1 [] [] [] false false)).bind fun y41 => (some (.inr (y41.1, y41.2.S, y41.2.At, y41.2.N, y41.2.Bad)))) else (if y1.1 = 36 then ((speculumref11_P_put.f k (T_speculumref11_P.mk y1.2.S (i64 (y1.2.At + 1)) y1.2.N y1.2.Bad) (T_speculumref11_Node.mk y1.1 [] [] [] false false)).bind fun y46 => (some (.inr (y46.1, y46.2.S, y46.2.At, y46.2.N, y46.2.Bad)))) else (if y1.1 = 91 then ((speculumref11_P_set.f k (T_speculumref11_P.mk y1.2.S (i64 (y1.2.At + 1)) y1.2.N y1.2.Bad)).bind fun y51 => (some (.inr (y51.1, y51.2.S, y51.2.At, y51.2.N, y51.2.Bad)))) else (if y1.1 = 40 then ((speculumref11_P_choices.f k (T_speculumref11_P.mk y1.2.S (i64 (y1.2.At + 1)) y1.2.N y1.2.Bad)).bind fun y56 => ((speculumref11_P_sign.f k y56.2).bind fun y60 => (if y60.1 = 41 then (some (.inr (y56.1, y60.2.S, (i64 (y60.2.At + 1)), y60.2.N, y60.2.Bad))) else (some (.inl (0, (T_speculumref11_P.mk y60.2.S y60.2.At y60.2.N true))))))) else (some (.inl (0, (T_speculumref11_P.mk y1.2.S y1.2.At y1.2.N true))))))))))) : Option (Sum (Int × T_speculumref11_P) (Int × ByteArray × Int × (List T_speculumref11_Node) × Bool))).bind fun o => match o with | .inl r => some r | .inr (n6, s7, n8, l9, b12) => ((speculumref11_P_sign.f k (T_speculumref11_P.mk s7 n8 l9 b12)).bind fun y65 => ((speculumref11_P_part.l0 k y65.1 n6 y65.2.S y65.2.At y65.2.N y65.2.Bad).bind fun (n84, s85, n86, l87, b90) => (some (n84, (T_speculumref11_P.mk s85 n86 l87 b90)))))))
end
abbrev speculumref11_P_choices.C (k : Nat) : Prop := ∀ {x0 : T_speculumref11_P} {x0v2 : Value} {bx0 : Nat} {F : List It} {I : IMem} {w : World} {r : Int × T_speculumref11_P}, Glob I → Own I w (.bk bx0 135 [.string x0.S, .int .i64 x0.At, x0v2, .bool x0.Bad] :: .tv x0v2 163 6 :: F) → SlR R_speculumref11_Node I x0v2 x0.N → speculumref11_P_choices.f k x0 = some r →
    Calls Tryz.prog 86 #[pt bx0] w fun e w' => ∃ v, e = .returned v ∧ ∃ (y_1v2 : Value) (J : IMem), I.le J ∧ v = .int .i64 r.1 ∧ SlR R_speculumref11_Node J y_1v2 r.2.N ∧ Own J w' (.bk bx0 135 [.string r.2.S, .int .i64 r.2.At, y_1v2, .bool r.2.Bad] :: .tv y_1v2 163 6 :: F)
abbrev speculumref11_P_row.C (k : Nat) : Prop := ∀ {x0 : T_speculumref11_P} {x0v2 : Value} {bx0 : Nat} {F : List It} {I : IMem} {w : World} {r : Int × T_speculumref11_P}, Glob I → Own I w (.bk bx0 135 [.string x0.S, .int .i64 x0.At, x0v2, .bool x0.Bad] :: .tv x0v2 163 6 :: F) → SlR R_speculumref11_Node I x0v2 x0.N → speculumref11_P_row.f k x0 = some r →
    Calls Tryz.prog 119 #[pt bx0] w fun e w' => ∃ v, e = .returned v ∧ ∃ (y_1v2 : Value) (J : IMem), I.le J ∧ v = .int .i64 r.1 ∧ SlR R_speculumref11_Node J y_1v2 r.2.N ∧ Own J w' (.bk bx0 135 [.string r.2.S, .int .i64 r.2.At, y_1v2, .bool r.2.Bad] :: .tv y_1v2 163 6 :: F)
abbrev speculumref11_P_part.C (k : Nat) : Prop := ∀ {x0 : T_speculumref11_P} {x0v2 : Value} {bx0 : Nat} {F : List It} {I : IMem} {w : World} {r : Int × T_speculumref11_P}, Glob I → Own I w (.bk bx0 135 [.string x0.S, .int .i64 x0.At, x0v2, .bool x0.Bad] :: .tv x0v2 163 6 :: F) → SlR R_speculumref11_Node I x0v2 x0.N → speculumref11_P_part.f k x0 = some r →
    Calls Tryz.prog 144 #[pt bx0] w fun e w' => ∃ v, e = .returned v ∧ ∃ (y_1v2 : Value) (J : IMem), I.le J ∧ v = .int .i64 r.1 ∧ SlR R_speculumref11_Node J y_1v2 r.2.N ∧ Own J w' (.bk bx0 135 [.string r.2.S, .int .i64 r.2.At, y_1v2, .bool r.2.Bad] :: .tv y_1v2 163 6 :: F)
theorem speculumref11_P_choices.step (k : Nat) (ih_speculumref11_P_row : ∀ m, m ≤ k → speculumref11_P_row.C m) : speculumref11_P_choices.C (k + 1) := by
 intro x0 x0v2 bx0 F I w r hG S x0h2 H
 have hI := IMem.le.refl I
 rw [speculumref11_P_choices.f] at H
 refine Calls.ofFW (args := [pt bx0]) Tryz.func86 rfl rfl <| sr <| mv (.int .i64 0) rfl <| sr <| mv (pt bx0) rfl ?_
 obtain ⟨y1, hy2, H⟩ := obx H
 refine g rfl (cl fb119 (@ih_speculumref11_P_row k (by omega) x0 _ _ _ _ _ _ hG S x0h2 hy2) rfl ?_)
 rintro _ w ⟨y1_1v2, J3, hJ4, rfl, y1_1h2, S⟩
 have hI := hI.trans hJ4
 have hG := hG.mono hJ4
 refine g rfl (o_bsl tsl161 tz3 rfl rfl rfl rfl (.one rfl PC.nil) rfl S fun b5 w S => ?_)
 obtain ⟨J6, hJ8, S, h7⟩ := S.freeze (r := (tInt' .i64)) (l := [y1.1]) 0 rfl ⟨[.int .i64 y1.1], _, rfl, rfl, rfl⟩ rfl rfl
 have y1_1h2 := y1_1h2.mono hJ8
 have hI := hI.trans hJ8
 have hG := hG.mono hJ8
 refine u rfl (x_bld tz163 tpl163 rfl (.one rfl (.one h7.one PC.nil)) rfl) <| g rfl (o_all tz163 S fun b9 w S => g rfl (o_stA tag163 S 0 rfl rfl rfl rfl (c1 rfl (c1 h7.one (c1 rfl (c1 rfl (c1 rfl (c1 rfl c0)))))) rfl fun w S => sq (bk ?_)))
 obtain ⟨o22, hl24, HO23⟩ := obx H
 refine FW.cutX 0 (fun σ w => ∃ (l26 : (List Int)) (s29 : ByteArray) (n30 : Int) (l31 : (List T_speculumref11_Node)) (b34 : Bool) (v27 : Value) (v32 : Value) (J25 : IMem), (l26, s29, n30, l31, b34) = o22 ∧ Has σ [(0, pt bx0), (3, pt b9)] ∧ J6.le J25 ∧ Own J25 w (.bk b9 163 [.int .u8 99, v27, (.slice none 0 0), (.slice none 0 0), .bool false, .bool false] :: .tv v27 3 1 :: .bk bx0 135 [.string s29, .int .i64 n30, v32, .bool b34] :: .tv v32 163 6 :: F) ∧ SlR (tInt' .i64) J25 v27 l26 ∧ SlR R_speculumref11_Node J25 v32 l31) ?_ ?_
 ·refine FW.loop k (FL.ind (fun q σ w => ∃ (l11 : (List Int)) (s14 : ByteArray) (n15 : Int) (l16 : (List T_speculumref11_Node)) (b19 : Bool) (v12 : Value) (v17 : Value) (J10 : IMem), speculumref11_P_choices.l0 q l11 s14 n15 l16 b19 = some o22 ∧ q ≤ k ∧ Has σ [(0, pt bx0), (3, pt b9)] ∧ J6.le J10 ∧ Own J10 w (.bk b9 163 [.int .u8 99, v12, (.slice none 0 0), (.slice none 0 0), .bool false, .bool false] :: .tv v12 3 1 :: .bk bx0 135 [.string s14, .int .i64 n15, v17, .bool b19] :: .tv v17 163 6 :: F) ∧ SlR (tInt' .i64) J10 v12 l11 ∧ SlR R_speculumref11_Node J10 v17 l16) ?_ ?_ k k _ _ (Nat.le_refl _) ⟨[y1.1], y1.2.S, y1.2.At, y1.2.N, y1.2.Bad, (.slice (some ⟨b5, 0, none⟩) 1 1), y1_1v2, J6, hl24, Nat.le_refl _, ⟨rfl, rfl, trivial⟩, (IMem.le.refl _), S, h7, y1_1h2⟩)
  ·rintro σ w ⟨l11, s14, n15, l16, b19, v12, v17, J10, H, _⟩; cases H
  rintro q20 σ w ⟨l11, s14, n15, l16, b19, v12, v17, J10, H, hq35, hσ, hL21, S, h13, h18⟩
  have hG := hG.mono hL21
  rw [hσ.eq]
  rw [speculumref11_P_choices.l0] at H
  refine sq <| sr <| mv (pt bx0) rfl <| u rfl (x_nk rfl) <| u rfl (x_fa tf135_3 rfl) <| u rfl (x_ld tsc4 rfl (S.load 2 rfl 3 rfl)) <| u rfl (x_not' rfl) <| mv (.bool (!b19)) rfl ?_
  by_cases cc36 : b19 = true
  ·rw [if_pos cc36] at H
   refine gn rfl rfl rfl (noF cc36) <| gn rfl rfl rfl (noF cc36) <| gn rfl rfl rfl (noF cc36) <| u rfl (x_pickFV (v := .bool false) rfl (noF cc36) rfl) <| cF rfl rfl <| ex ⟨l11, s14, n15, l16, b19, v12, v17, J10, (si H), ⟨rfl, rfl, trivial⟩, hL21, S, h13, h18⟩
  rw [if_neg cc36] at H
  refine gu rfl rfl rfl (noT (vaF cc36)) (x_movV (v := pt bx0) rfl) ?_
  obtain ⟨y37, hy38, H⟩ := obx H
  refine OK.gt rfl rfl rfl (noT (vaF cc36)) (cl fb87 (@speculumref11_P_sign.ok q20 (T_speculumref11_P.mk s14 n15 l16 b19) _ _ _ _ _ _ hG (S.sel 4 [2, 3, 0, 1] rfl) h18 hy38) rfl ?_)
  rintro _ w ⟨y37_1v2, J39, hJ40, rfl, y37_1h2, S⟩
  have h13 := h13.mono hJ40
  have hL21 := hL21.trans hJ40
  have hG := hG.mono hJ40
  refine gu rfl rfl rfl (noT (vaF cc36)) (x_bin rfl rfl rfl) <| u rfl (x_pickTV (v := .bool (y37.1 == 124)) rfl (noT (vaF cc36)) rfl) ?_
  by_cases cc41 : y37.1 = 124
  ·rw [if_pos cc41] at H
   refine cT rfl (eqT cc41) <| sk <| bk <| sq <| FW.anew [(0, pt bx0), (3, pt b9)] ⟨rfl, rfl, trivial⟩ fun σ => rg <| mv (pt bx0) rfl <| mv (pt bx0) rfl <| u rfl (x_nk rfl) <| u rfl (x_fa tf135_1 rfl) <| u rfl (x_ld tsc3 rfl (S.load 0 rfl 1 rfl)) <| u rfl (x_bin rfl rfl rfl) <| u rfl (x_nk rfl) <| u rfl (x_fa tf135_1 rfl) <| g rfl (o_st tone3 S 0 rfl rfl rfl rfl fun w S => FW.anew [(0, pt bx0), (3, pt b9)] ⟨rfl, rfl, trivial⟩ fun σ => ?_)
   have S := S.drew
   refine FW.regionD mixed ?_
   have hO := Hold.nil (w := { w with drawn := w.drawn + 1 })
   refine ap 0 rfl (by kernel_rfl) hO (fun w => x_fa tf163_1 rfl) ?_
   have hR42 := IMem.le.refl J39
   refine ak (Stab J39 [.bk b9 163 [.int .u8 99, v12, (.slice none 0 0), (.slice none 0 0), .bool false, .bool false]]) 1 rfl (by kernel_rfl) hO (Stab.of S 2 rfl hR42) (fun w hS => x_ld tsc161 rfl (hS.load 0 rfl 1 rfl)) fun hO => am 2 (pt bx0) rfl (by kernel_rfl) hO <| AQ.one 3 [1] [true] (by kernel_rfl) rfl (by kernel_rfl) ?_
   obtain ⟨y43, hy44, H⟩ := obx H
   refine g rfl (cl fb119 (@ih_speculumref11_P_row q20 (by omega) (T_speculumref11_P.mk y37.2.S (i64 (y37.2.At + 1)) y37.2.N y37.2.Bad) _ _ _ _ _ _ hG S y37_1h2 hy44) rfl ?_)
   rintro _ w ⟨y43_1v2, J45, hJ46, rfl, y43_1h2, S⟩
   have h13 := h13.mono hJ46
   have hL21 := hL21.trans hJ46
   have hR42 := hR42.trans hJ46
   refine andI (Hold.cons (Stab.of S 2 rfl hR42) Hold.nil) fun hO => AQ.one 4 [1] [true] (by kernel_rfl) rfl (by kernel_rfl) <| g rfl (o_bsl tsl161 tz3 rfl rfl rfl rfl (.one rfl PC.nil) rfl S fun b47 w S => ?_)
   obtain ⟨J48, hJ50, S, h49⟩ := S.freeze (r := (tInt' .i64)) (l := [y43.1]) 0 rfl ⟨[.int .i64 y43.1], _, rfl, rfl, rfl⟩ rfl rfl
   have h13 := h13.mono hJ50
   have y43_1h2 := y43_1h2.mono hJ50
   have hL21 := hL21.trans hJ50
   have hR42 := hR42.trans hJ50
   refine andI (Hold.cons (Stab.of S 3 rfl hR42) Hold.nil) fun hO => AQ.one 5 [1] [false] (by kernel_rfl) rfl (by kernel_rfl) ?_
   obtain ⟨l51, h53, H⟩ := obx H
   refine g rfl (o_appD (r := (tInt' .i64)) tsl161 rfl tz3 rfl rfl S 4 rfl rfl h13 h49 h53 fun v52 w J55 hJ56 S h54 => ?_)
   have y43_1h2 := y43_1h2.mono hJ56
   have hL21 := hL21.trans hJ56
   refine andI Hold.nil fun hO => ap 6 rfl (by kernel_rfl) hO (fun w => x_fa tf163_1 rfl) <| AQ.one 7 [] [] (by kernel_rfl) rfl (by kernel_rfl) <| g rfl (o_st tone161 S 3 rfl rfl rfl h54.one fun w S => andI Hold.nil fun hO => AQ.done (by kernel_rfl) ⟨q20, Nat.le_refl _, l51, y43.2.S, y43.2.At, y43.2.N, y43.2.Bad, v52, y43_1v2, J55, H, (Nat.le_of_succ_le hq35), ⟨rfl, rfl, trivial⟩, hL21, (S.sel 5 [3, 4, 1, 2] rfl), h54, y43_1h2⟩)
  rw [if_neg cc41] at H
  refine cF rfl (eqF cc41) <| ex ⟨l11, y37.2.S, y37.2.At, y37.2.N, y37.2.Bad, v12, y37_1v2, J39, (si H), ⟨rfl, rfl, trivial⟩, hL21, (S.sel 4 [2, 3, 0, 1] rfl), h13, y37_1h2⟩
 rintro σ w ⟨l26, s29, n30, l31, b34, v27, v32, J25, ho, hσ, hL21, S, h28, h33⟩
 subst ho
 have H := HO23
 try dsimp only at H
 have hI := hI.trans hL21
 have hG := hG.mono hL21
 rw [hσ.eq]
 refine sr <| mv (pt bx0) rfl <| u rfl (x_ldA tag163 rfl (S.loadW 0 rfl) rfl) ?_
 obtain ⟨y57, hy58, H⟩ := obx H
 refine g rfl (cl fb120 (@speculumref11_P_put.ok k (T_speculumref11_P.mk s29 n30 l31 b34) (T_speculumref11_Node.mk 99 l26 [] [] false false) _ _ _ _ _ _ _ _ _ hG (S.sel 4 [2, 3, 0, 1] rfl) h33 h28 (SlR.nil _ _) (SlR.nil _ _) hy58) rfl ?_)
 rintro _ w ⟨y57_1v2, J59, hJ60, rfl, y57_1h2, S⟩
 have hI := hI.trans hJ60
 refine mv (.int .i64 y57.1) rfl <| rt ?_
 obtain rfl := si H
 exact ⟨_, ⟨_, rfl, rfl⟩, ⟨y57_1v2, J59, hI, rfl, y57_1h2, (S.sel 4 [0, 1] rfl)⟩⟩
theorem speculumref11_P_choices.zero : speculumref11_P_choices.C 0 := by
  intro _ _ _ _ _ _ _ _ _ _ H; cases H
theorem speculumref11_P_row.step (k : Nat) (ih_speculumref11_P_part : ∀ m, m ≤ k → speculumref11_P_part.C m) : speculumref11_P_row.C (k + 1) := by
 intro x0 x0v2 bx0 F I w r hG S x0h2 H
 have hI := IMem.le.refl I
 rw [speculumref11_P_row.f] at H
 refine Calls.ofFW (args := [pt bx0]) Tryz.func119 rfl rfl <| sr <| mv (.int .i64 0) rfl <| sr <| u rfl (x_bld tz163 tpl163 rfl (.one rfl PC.nil) rfl) <| g rfl (o_all tz163 S fun b1 w S => g rfl (o_stA tag163 S 0 rfl rfl rfl rfl (c1 rfl (c1 rfl (c1 rfl (c1 rfl (c1 rfl (c1 rfl c0)))))) rfl fun w S => sq (rg (mv (pt bx0) rfl ?_))))
 obtain ⟨y2, hy3, H⟩ := obx H
 refine g rfl (cl fb87 (@speculumref11_P_sign.ok k x0 _ _ _ _ _ _ hG (S.sel 3 [1, 2, 0] rfl) x0h2 hy3) rfl ?_)
 rintro _ w ⟨y2_1v2, J4, hJ5, rfl, y2_1h2, S⟩
 have hI := hI.trans hJ5
 have hG := hG.mono hJ5
 refine mv (.int .u8 y2.1) rfl <| sq <| bk ?_
 have S := S.nil_tv 3 1
 obtain ⟨o20, hl22, HO21⟩ := obx H
 refine FW.cutX 0 (fun σ w => ∃ (s24 : ByteArray) (n25 : Int) (l26 : (List T_speculumref11_Node)) (b29 : Bool) (l30 : (List Int)) (v27 : Value) (v31 : Value) (J23 : IMem), (s24, n25, l26, b29, l30) = o20 ∧ Has σ [(0, pt bx0), (3, pt b1)] ∧ J4.le J23 ∧ Own J23 w (.tv v31 3 1 :: .bk bx0 135 [.string s24, .int .i64 n25, v27, .bool b29] :: .tv v27 163 6 :: .bk b1 163 [.int .u8 114, v31, (.slice none 0 0), (.slice none 0 0), .bool false, .bool false] :: F) ∧ SlR R_speculumref11_Node J23 v27 l26 ∧ SlR (tInt' .i64) J23 v31 l30) ?_ ?_
 ·refine FW.loop k (FL.ind (fun q σ w => ∃ (n8 : Int) (s9 : ByteArray) (n10 : Int) (l11 : (List T_speculumref11_Node)) (b14 : Bool) (l15 : (List Int)) (v12 : Value) (v16 : Value) (J7 : IMem), speculumref11_P_row.l0 q n8 s9 n10 l11 b14 l15 = some o20 ∧ q ≤ k ∧ Has σ [(0, pt bx0), (3, pt b1), (4, .int .u8 n8)] ∧ J4.le J7 ∧ Own J7 w (.tv v16 3 1 :: .bk bx0 135 [.string s9, .int .i64 n10, v12, .bool b14] :: .tv v12 163 6 :: .bk b1 163 [.int .u8 114, v16, (.slice none 0 0), (.slice none 0 0), .bool false, .bool false] :: F) ∧ SlR R_speculumref11_Node J7 v12 l11 ∧ SlR (tInt' .i64) J7 v16 l15) ?_ ?_ k k _ _ (Nat.le_refl _) ⟨y2.1, y2.2.S, y2.2.At, y2.2.N, y2.2.Bad, [], y2_1v2, (.slice none 0 0), J4, hl22, Nat.le_refl _, ⟨rfl, rfl, rfl, trivial⟩, (IMem.le.refl _), S, y2_1h2, (SlR.nil _ _)⟩)
  ·rintro σ w ⟨n8, s9, n10, l11, b14, l15, v12, v16, J7, H, _⟩; cases H
  rintro q18 σ w ⟨n8, s9, n10, l11, b14, l15, v12, v16, J7, H, hq33, hσ, hL19, S, h13, h17⟩
  have hG := hG.mono hL19
  rw [hσ.eq]
  rw [speculumref11_P_row.l0] at H
  refine sq <| sr <| mv (pt bx0) rfl <| u rfl (x_nk rfl) <| u rfl (x_fa tf135_3 rfl) <| u rfl (x_ld tsc4 rfl (S.load 1 rfl 3 rfl)) <| u rfl (x_not' rfl) <| mv (.bool (!b14)) rfl ?_
  by_cases cc34 : b14 = true
  ·rw [if_pos cc34] at H
   refine gn rfl rfl rfl (noF cc34) <| gn rfl rfl rfl (noF cc34) <| u rfl (x_pickFV (v := .bool false) rfl (noF cc34) rfl) <| mv (.bool false) rfl <| gn rfl rfl rfl rfl <| gn rfl rfl rfl rfl <| u rfl (x_pickFV (v := .bool false) rfl rfl rfl) <| mv (.bool false) rfl <| gn rfl rfl rfl rfl <| gn rfl rfl rfl rfl <| u rfl (x_pickFV (v := .bool false) rfl rfl rfl) <| cF rfl rfl <| ex ⟨s9, n10, l11, b14, l15, v12, v16, J7, (si H), ⟨rfl, rfl, trivial⟩, hL19, S, h13, h17⟩
  rw [if_neg cc34] at H
  refine gu rfl rfl rfl (noT (vaF cc34)) (x_movV (v := .int .u8 n8) rfl) <| gu rfl rfl rfl (noT (vaF cc34)) (x_bin rfl rfl rfl) <| u rfl (x_pickTV (v := .bool (n8 != 0)) rfl (noT (vaF cc34)) rfl) <| mv (.bool (n8 != 0)) rfl ?_
  by_cases cc35 : n8 = 0
  ·rw [if_pos cc35] at H
   refine gn rfl rfl rfl (neF cc35) <| gn rfl rfl rfl (neF cc35) <| u rfl (x_pickFV (v := .bool false) rfl (neF cc35) rfl) <| mv (.bool false) rfl <| gn rfl rfl rfl rfl <| gn rfl rfl rfl rfl <| u rfl (x_pickFV (v := .bool false) rfl rfl rfl) <| cF rfl rfl <| ex ⟨s9, n10, l11, b14, l15, v12, v16, J7, (si H), ⟨rfl, rfl, trivial⟩, hL19, S, h13, h17⟩
  rw [if_neg cc35] at H
  refine gu rfl rfl rfl (neT cc35) (x_movV (v := .int .u8 n8) rfl) <| gu rfl rfl rfl (neT cc35) (x_bin rfl rfl rfl) <| u rfl (x_pickTV (v := .bool (n8 != 124)) rfl (neT cc35) rfl) <| mv (.bool (n8 != 124)) rfl ?_
  by_cases cc36 : n8 = 124
  ·rw [if_pos cc36] at H
   refine gn rfl rfl rfl (neF cc36) <| gn rfl rfl rfl (neF cc36) <| u rfl (x_pickFV (v := .bool false) rfl (neF cc36) rfl) <| cF rfl rfl <| ex ⟨s9, n10, l11, b14, l15, v12, v16, J7, (si H), ⟨rfl, rfl, trivial⟩, hL19, S, h13, h17⟩
  rw [if_neg cc36] at H
  refine gu rfl rfl rfl (neT cc36) (x_movV (v := .int .u8 n8) rfl) <| gu rfl rfl rfl (neT cc36) (x_bin rfl rfl rfl) <| u rfl (x_pickTV (v := .bool (n8 != 41)) rfl (neT cc36) rfl) ?_
  by_cases cc37 : n8 = 41
  ·rw [if_pos cc37] at H
   refine cF rfl (neF cc37) <| ex ⟨s9, n10, l11, b14, l15, v12, v16, J7, (si H), ⟨rfl, rfl, trivial⟩, hL19, S, h13, h17⟩
  rw [if_neg cc37] at H
  refine cT rfl (neT cc37) <| sk <| bk <| sq <| FW.anew [(0, pt bx0), (3, pt b1)] ⟨rfl, rfl, trivial⟩ fun σ => ?_
  have S := S.drew
  refine FW.regionD mixed ?_
  have hO := Hold.nil (w := { w with drawn := w.drawn + 1 })
  refine ap 0 rfl (by kernel_rfl) hO (fun w => x_fa tf163_1 rfl) ?_
  have hR38 := IMem.le.refl J7
  refine ak (Stab J7 [.bk b1 163 [.int .u8 114, v16, (.slice none 0 0), (.slice none 0 0), .bool false, .bool false]]) 1 rfl (by kernel_rfl) hO (Stab.of S 3 rfl hR38) (fun w hS => x_ld tsc161 rfl (hS.load 0 rfl 1 rfl)) fun hO => am 2 (pt bx0) rfl (by kernel_rfl) hO <| AQ.one 3 [1] [true] (by kernel_rfl) rfl (by kernel_rfl) ?_
  obtain ⟨y39, hy40, H⟩ := obx H
  refine g rfl (cl fb144 (@ih_speculumref11_P_part q18 (by omega) (T_speculumref11_P.mk s9 n10 l11 b14) _ _ _ _ _ _ hG (S.sel 4 [1, 2, 0, 3] rfl) h13 hy40) rfl ?_)
  rintro _ w ⟨y39_1v2, J41, hJ42, rfl, y39_1h2, S⟩
  have h17 := h17.mono hJ42
  have hL19 := hL19.trans hJ42
  have hR38 := hR38.trans hJ42
  have hG := hG.mono hJ42
  refine andI (Hold.cons (Stab.of S 3 rfl hR38) Hold.nil) fun hO => AQ.one 4 [1] [true] (by kernel_rfl) rfl (by kernel_rfl) <| g rfl (o_bsl tsl161 tz3 rfl rfl rfl rfl (.one rfl PC.nil) rfl S fun b43 w S => ?_)
  obtain ⟨J44, hJ46, S, h45⟩ := S.freeze (r := (tInt' .i64)) (l := [y39.1]) 0 rfl ⟨[.int .i64 y39.1], _, rfl, rfl, rfl⟩ rfl rfl
  have h17 := h17.mono hJ46
  have y39_1h2 := y39_1h2.mono hJ46
  have hL19 := hL19.trans hJ46
  have hR38 := hR38.trans hJ46
  have hG := hG.mono hJ46
  refine andI (Hold.cons (Stab.of S 4 rfl hR38) Hold.nil) fun hO => AQ.one 5 [1] [false] (by kernel_rfl) rfl (by kernel_rfl) ?_
  obtain ⟨l47, h49, H⟩ := obx H
  refine g rfl (o_appD (r := (tInt' .i64)) tsl161 rfl tz3 rfl rfl S 3 rfl rfl h17 h45 h49 fun v48 w J51 hJ52 S h50 => ?_)
  have y39_1h2 := y39_1h2.mono hJ52
  have hL19 := hL19.trans hJ52
  have hG := hG.mono hJ52
  refine andI Hold.nil fun hO => ap 6 rfl (by kernel_rfl) hO (fun w => x_fa tf163_1 rfl) <| AQ.one 7 [] [] (by kernel_rfl) rfl (by kernel_rfl) <| g rfl (o_st tone161 S 4 rfl rfl rfl h50.one fun w S => andI Hold.nil fun hO => AQ.done (by kernel_rfl) (FW.anew [(0, pt bx0), (3, pt b1)] ⟨rfl, rfl, trivial⟩ fun σ => rg (mv (pt bx0) rfl ?_)))
  obtain ⟨y53, hy54, H⟩ := obx H
  refine g rfl (cl fb87 (@speculumref11_P_sign.ok q18 y39.2 _ _ _ _ _ _ hG (S.sel 5 [1, 2, 0, 3, 4] rfl) y39_1h2 hy54) rfl ?_)
  rintro _ w ⟨y53_1v2, J55, hJ56, rfl, y53_1h2, S⟩
  have h50 := h50.mono hJ56
  have hL19 := hL19.trans hJ56
  refine mv (.int .u8 y53.1) rfl ⟨q18, Nat.le_refl _, y53.1, y53.2.S, y53.2.At, y53.2.N, y53.2.Bad, l47, y53_1v2, v48, J55, H, (Nat.le_of_succ_le hq33), ⟨rfl, rfl, rfl, trivial⟩, hL19, (S.sel 5 [3, 0, 1, 4] rfl), y53_1h2, h50⟩
 rintro σ w ⟨s24, n25, l26, b29, l30, v27, v31, J23, ho, hσ, hL19, S, h28, h32⟩
 subst ho
 have H := HO21
 try dsimp only at H
 have hI := hI.trans hL19
 have hG := hG.mono hL19
 rw [hσ.eq]
 refine sr <| mv (pt bx0) rfl <| u rfl (x_ldA tag163 rfl (S.loadW 3 rfl) rfl) ?_
 obtain ⟨y57, hy58, H⟩ := obx H
 refine g rfl (cl fb120 (@speculumref11_P_put.ok k (T_speculumref11_P.mk s24 n25 l26 b29) (T_speculumref11_Node.mk 114 l30 [] [] false false) _ _ _ _ _ _ _ _ _ hG (S.sel 4 [1, 2, 0, 3] rfl) h28 h32 (SlR.nil _ _) (SlR.nil _ _) hy58) rfl ?_)
 rintro _ w ⟨y57_1v2, J59, hJ60, rfl, y57_1h2, S⟩
 have hI := hI.trans hJ60
 refine mv (.int .i64 y57.1) rfl <| rt ?_
 obtain rfl := si H
 exact ⟨_, ⟨_, rfl, rfl⟩, ⟨y57_1v2, J59, hI, rfl, y57_1h2, (S.sel 4 [0, 1] rfl)⟩⟩
theorem speculumref11_P_row.zero : speculumref11_P_row.C 0 := by
  intro _ _ _ _ _ _ _ _ _ _ H; cases H
theorem speculumref11_P_part.step (k : Nat) (ih_speculumref11_P_choices : ∀ m, m ≤ k → speculumref11_P_choices.C m) : speculumref11_P_part.C (k + 1) := by
 intro x0 x0v2 bx0 F I w r hG S x0h2 H
 have hI := IMem.le.refl I
 rw [speculumref11_P_part.f] at H
 refine Calls.ofFW (args := [pt bx0]) Tryz.func144 rfl rfl <| sr <| mv (.int .i64 0) rfl <| sr <| mv (pt bx0) rfl ?_
 obtain ⟨y1, hy2, H⟩ := obx H
 refine g rfl (cl fb87 (@speculumref11_P_sign.ok k x0 _ _ _ _ _ _ hG S x0h2 hy2) rfl ?_)
 rintro _ w ⟨y1_1v2, J3, hJ4, rfl, y1_1h2, S⟩
 have hI := hI.trans hJ4
 have hG := hG.mono hJ4
 refine mv (.int .u8 y1.1) rfl <| sr <| mv (.int .i64 0) rfl <| sq ?_
 obtain ⟨o13, H, HO14⟩ := obx H
 have hL15 := IMem.le.refl J3
 refine FW.cutN (fun σ w => ∃ (n6 : Int) (s7 : ByteArray) (n8 : Int) (l9 : (List T_speculumref11_Node)) (b12 : Bool) (v10 : Value) (J5 : IMem), (.inr (n6, s7, n8, l9, b12)) = o13 ∧ Has σ [(0, pt bx0), (4, .int .i64 n6)] ∧ J3.le J5 ∧ Own J5 w (.bk bx0 135 [.string s7, .int .i64 n8, v10, .bool b12] :: .tv v10 163 6 :: F) ∧ SlR R_speculumref11_Node J5 v10 l9) ?_ ?_
 ·refine bk <| sr <| mv (.int .u8 y1.1) rfl ?_
  obtain ⟨y16, hy17, H⟩ := obx H
  refine g rfl (cl fb150 (@speculumref11_digit.ok k y1.1 _ _ _ _ hG S hy17) rfl ?_)
  rintro _ w ⟨rfl, S⟩
  refine mv (.bool y16) rfl ?_
  by_cases cc18 : y16 = true
  ·rw [if_pos cc18] at H
   refine cT rfl cc18 <| sq <| FW.anew [(0, pt bx0)] ⟨rfl, trivial⟩ fun σ => rg <| mv (pt bx0) rfl ?_
   obtain ⟨y19, hy20, H⟩ := obx H
   refine g rfl (cl fb151 (@speculumref11_P_num.ok k y1.2 _ _ _ _ _ _ hG S y1_1h2 hy20) rfl ?_)
   rintro _ w ⟨y19_1v2, J21, hJ22, rfl, y19_1h2, S⟩
   have hL15 := hL15.trans hJ22
   have hG := hG.mono hJ22
   refine mv (.int .i64 y19.1) rfl <| rg <| mv (pt bx0) rfl <| mv (.int .i64 y19.1) rfl <| g rfl (o_bsl tsl161 tz3 rfl rfl rfl rfl (.one rfl PC.nil) rfl S fun b23 w S => ?_)
   obtain ⟨J24, hJ26, S, h25⟩ := S.freeze (r := (tInt' .i64)) (l := [y19.1]) 0 rfl ⟨[.int .i64 y19.1], _, rfl, rfl, rfl⟩ rfl rfl
   have y19_1h2 := y19_1h2.mono hJ26
   have hL15 := hL15.trans hJ26
   have hG := hG.mono hJ26
   refine mv (.int .i64 y19.1) rfl <| g rfl (o_bsl tsl161 tz3 rfl rfl rfl rfl (.one rfl PC.nil) rfl S fun b27 w S => ?_)
   obtain ⟨J28, hJ30, S, h29⟩ := S.freeze (r := (tInt' .i64)) (l := [y19.1]) 0 rfl ⟨[.int .i64 y19.1], _, rfl, rfl, rfl⟩ rfl rfl
   have h25 := h25.mono hJ30
   have y19_1h2 := y19_1h2.mono hJ30
   have hL15 := hL15.trans hJ30
   have hG := hG.mono hJ30
   refine u rfl (x_bld tz163 tpl163 rfl (.one rfl (.one h25.one (.one h29.one (.one rfl PC.nil)))) rfl) ?_
   obtain ⟨y31, hy32, H⟩ := obx H
   refine g rfl (cl fb120 (@speculumref11_P_put.ok k y19.2 (T_speculumref11_Node.mk 115 [] [y19.1] [y19.1] false true) _ _ _ _ _ _ _ _ _ hG (S.sel 4 [2, 3, 0, 1] rfl) y19_1h2 (SlR.nil _ _) h25 h29 hy32) rfl ?_)
   rintro _ w ⟨y31_1v2, J33, hJ34, rfl, y31_1h2, S⟩
   have hL15 := hL15.trans hJ34
   refine mv (.int .i64 y31.1) rfl ⟨y31.1, y31.2.S, y31.2.At, y31.2.N, y31.2.Bad, y31_1v2, J33, (si H), ⟨rfl, rfl, trivial⟩, hL15, (S.sel 4 [0, 1] rfl), y31_1h2⟩
  rw [if_neg cc18] at H
  refine cF rfl (vaF cc18) <| sq <| FW.anew [(0, pt bx0), (3, .int .u8 y1.1)] ⟨rfl, rfl, trivial⟩ fun σ => rg <| mv (.int .u8 y1.1) rfl <| u rfl (x_bin rfl rfl rfl) <| mv (.bool (y1.1 == 46)) rfl ?_
  by_cases cc35 : y1.1 = 46
  ·rw [if_pos cc35] at H
   refine gn rfl rfl rfl (eqT cc35) <| gn rfl rfl rfl (eqT cc35) <| u rfl (x_pickTV (v := .bool true) rfl (eqT cc35) rfl) <| mv (.bool true) rfl <| gn rfl rfl rfl rfl <| gn rfl rfl rfl rfl <| u rfl (x_pickTV (v := .bool true) rfl rfl rfl) <| mv (.bool true) rfl <| cT rfl rfl <| sq <| FW.anew [(0, pt bx0), (3, .int .u8 y1.1)] ⟨rfl, rfl, trivial⟩ fun σ => rg <| mv (pt bx0) rfl <| mv (pt bx0) rfl <| u rfl (x_nk rfl) <| u rfl (x_fa tf135_1 rfl) <| u rfl (x_ld tsc3 rfl (S.load 0 rfl 1 rfl)) <| u rfl (x_bin rfl rfl rfl) <| u rfl (x_nk rfl) <| u rfl (x_fa tf135_1 rfl) <| g rfl (o_st tone3 S 0 rfl rfl rfl rfl fun w S => FW.anew [(0, pt bx0), (3, .int .u8 y1.1)] ⟨rfl, rfl, trivial⟩ fun σ => rg (mv (pt bx0) rfl (mv (.int .u8 y1.1) rfl (u rfl (x_bld tz163 tpl163 rfl (.one rfl PC.nil) rfl) ?_))))
   obtain ⟨y36, hy37, H⟩ := obx H
   refine g rfl (cl fb120 (@speculumref11_P_put.ok k (T_speculumref11_P.mk y1.2.S (i64 (y1.2.At + 1)) y1.2.N y1.2.Bad) (T_speculumref11_Node.mk y1.1 [] [] [] false false) _ _ _ _ _ _ _ _ _ hG S y1_1h2 (SlR.nil _ _) (SlR.nil _ _) (SlR.nil _ _) hy37) rfl ?_)
   rintro _ w ⟨y36_1v2, J38, hJ39, rfl, y36_1h2, S⟩
   have hL15 := hL15.trans hJ39
   refine mv (.int .i64 y36.1) rfl ⟨y36.1, y36.2.S, y36.2.At, y36.2.N, y36.2.Bad, y36_1v2, J38, (si H), ⟨rfl, rfl, trivial⟩, hL15, S, y36_1h2⟩
  rw [if_neg cc35] at H
  refine gu rfl rfl rfl (eqF cc35) (x_movV (v := .int .u8 y1.1) rfl) <| gu rfl rfl rfl (eqF cc35) (x_bin rfl rfl rfl) <| u rfl (x_pickFV (v := .bool (y1.1 == 94)) rfl (eqF cc35) rfl) <| mv (.bool (y1.1 == 94)) rfl ?_
  by_cases cc40 : y1.1 = 94
  ·rw [if_pos cc40] at H
   refine gn rfl rfl rfl (eqT cc40) <| gn rfl rfl rfl (eqT cc40) <| u rfl (x_pickTV (v := .bool true) rfl (eqT cc40) rfl) <| mv (.bool true) rfl <| cT rfl rfl <| sq <| FW.anew [(0, pt bx0), (3, .int .u8 y1.1)] ⟨rfl, rfl, trivial⟩ fun σ => rg <| mv (pt bx0) rfl <| mv (pt bx0) rfl <| u rfl (x_nk rfl) <| u rfl (x_fa tf135_1 rfl) <| u rfl (x_ld tsc3 rfl (S.load 0 rfl 1 rfl)) <| u rfl (x_bin rfl rfl rfl) <| u rfl (x_nk rfl) <| u rfl (x_fa tf135_1 rfl) <| g rfl (o_st tone3 S 0 rfl rfl rfl rfl fun w S => FW.anew [(0, pt bx0), (3, .int .u8 y1.1)] ⟨rfl, rfl, trivial⟩ fun σ => rg (mv (pt bx0) rfl (mv (.int .u8 y1.1) rfl (u rfl (x_bld tz163 tpl163 rfl (.one rfl PC.nil) rfl) ?_))))
   obtain ⟨y41, hy42, H⟩ := obx H
   refine g rfl (cl fb120 (@speculumref11_P_put.ok k (T_speculumref11_P.mk y1.2.S (i64 (y1.2.At + 1)) y1.2.N y1.2.Bad) (T_speculumref11_Node.mk y1.1 [] [] [] false false) _ _ _ _ _ _ _ _ _ hG S y1_1h2 (SlR.nil _ _) (SlR.nil _ _) (SlR.nil _ _) hy42) rfl ?_)
   rintro _ w ⟨y41_1v2, J43, hJ44, rfl, y41_1h2, S⟩
   have hL15 := hL15.trans hJ44
   refine mv (.int .i64 y41.1) rfl ⟨y41.1, y41.2.S, y41.2.At, y41.2.N, y41.2.Bad, y41_1v2, J43, (si H), ⟨rfl, rfl, trivial⟩, hL15, S, y41_1h2⟩
  rw [if_neg cc40] at H
  refine gu rfl rfl rfl (eqF cc40) (x_movV (v := .int .u8 y1.1) rfl) <| gu rfl rfl rfl (eqF cc40) (x_bin rfl rfl rfl) <| u rfl (x_pickFV (v := .bool (y1.1 == 36)) rfl (eqF cc40) rfl) <| mv (.bool (y1.1 == 36)) rfl ?_
  by_cases cc45 : y1.1 = 36
  ·rw [if_pos cc45] at H
   refine cT rfl (eqT cc45) <| sq <| FW.anew [(0, pt bx0), (3, .int .u8 y1.1)] ⟨rfl, rfl, trivial⟩ fun σ => rg <| mv (pt bx0) rfl <| mv (pt bx0) rfl <| u rfl (x_nk rfl) <| u rfl (x_fa tf135_1 rfl) <| u rfl (x_ld tsc3 rfl (S.load 0 rfl 1 rfl)) <| u rfl (x_bin rfl rfl rfl) <| u rfl (x_nk rfl) <| u rfl (x_fa tf135_1 rfl) <| g rfl (o_st tone3 S 0 rfl rfl rfl rfl fun w S => FW.anew [(0, pt bx0), (3, .int .u8 y1.1)] ⟨rfl, rfl, trivial⟩ fun σ => rg (mv (pt bx0) rfl (mv (.int .u8 y1.1) rfl (u rfl (x_bld tz163 tpl163 rfl (.one rfl PC.nil) rfl) ?_))))
   obtain ⟨y46, hy47, H⟩ := obx H
   refine g rfl (cl fb120 (@speculumref11_P_put.ok k (T_speculumref11_P.mk y1.2.S (i64 (y1.2.At + 1)) y1.2.N y1.2.Bad) (T_speculumref11_Node.mk y1.1 [] [] [] false false) _ _ _ _ _ _ _ _ _ hG S y1_1h2 (SlR.nil _ _) (SlR.nil _ _) (SlR.nil _ _) hy47) rfl ?_)
   rintro _ w ⟨y46_1v2, J48, hJ49, rfl, y46_1h2, S⟩
   have hL15 := hL15.trans hJ49
   refine mv (.int .i64 y46.1) rfl ⟨y46.1, y46.2.S, y46.2.At, y46.2.N, y46.2.Bad, y46_1v2, J48, (si H), ⟨rfl, rfl, trivial⟩, hL15, S, y46_1h2⟩
  rw [if_neg cc45] at H
  refine cF rfl (eqF cc45) <| sq <| FW.anew [(0, pt bx0), (3, .int .u8 y1.1)] ⟨rfl, rfl, trivial⟩ fun σ => rg <| mv (.int .u8 y1.1) rfl <| u rfl (x_bin rfl rfl rfl) <| mv (.bool (y1.1 == 91)) rfl ?_
  by_cases cc50 : y1.1 = 91
  ·rw [if_pos cc50] at H
   refine cT rfl (eqT cc50) <| sr <| mv (pt bx0) rfl <| mv (pt bx0) rfl <| u rfl (x_nk rfl) <| u rfl (x_fa tf135_1 rfl) <| u rfl (x_ld tsc3 rfl (S.load 0 rfl 1 rfl)) <| u rfl (x_bin rfl rfl rfl) <| u rfl (x_nk rfl) <| u rfl (x_fa tf135_1 rfl) <| g rfl (o_st tone3 S 0 rfl rfl rfl rfl fun w S => FW.anew [(0, pt bx0)] ⟨rfl, trivial⟩ fun σ => rg (mv (pt bx0) rfl ?_))
   obtain ⟨y51, hy52, H⟩ := obx H
   refine g rfl (cl fb152 (@speculumref11_P_set.ok k (T_speculumref11_P.mk y1.2.S (i64 (y1.2.At + 1)) y1.2.N y1.2.Bad) _ _ _ _ _ _ hG S y1_1h2 hy52) rfl ?_)
   rintro _ w ⟨y51_1v2, J53, hJ54, rfl, y51_1h2, S⟩
   have hL15 := hL15.trans hJ54
   refine mv (.int .i64 y51.1) rfl ⟨y51.1, y51.2.S, y51.2.At, y51.2.N, y51.2.Bad, y51_1v2, J53, (si H), ⟨rfl, rfl, trivial⟩, hL15, S, y51_1h2⟩
  rw [if_neg cc50] at H
  refine cF rfl (eqF cc50) <| sr <| mv (.int .u8 y1.1) rfl <| u rfl (x_bin rfl rfl rfl) <| mv (.bool (y1.1 == 40)) rfl ?_
  by_cases cc55 : y1.1 = 40
  ·rw [if_pos cc55] at H
   refine cT rfl (eqT cc55) <| sr <| mv (pt bx0) rfl <| mv (pt bx0) rfl <| u rfl (x_nk rfl) <| u rfl (x_fa tf135_1 rfl) <| u rfl (x_ld tsc3 rfl (S.load 0 rfl 1 rfl)) <| u rfl (x_bin rfl rfl rfl) <| u rfl (x_nk rfl) <| u rfl (x_fa tf135_1 rfl) <| g rfl (o_st tone3 S 0 rfl rfl rfl rfl fun w S => sq (FW.anew [(0, pt bx0)] ⟨rfl, trivial⟩ fun σ => rg (mv (pt bx0) rfl ?_)))
   obtain ⟨y56, hy57, H⟩ := obx H
   refine g rfl (cl fb86 (@ih_speculumref11_P_choices k (by omega) (T_speculumref11_P.mk y1.2.S (i64 (y1.2.At + 1)) y1.2.N y1.2.Bad) _ _ _ _ _ _ hG S y1_1h2 hy57) rfl ?_)
   rintro _ w ⟨y56_1v2, J58, hJ59, rfl, y56_1h2, S⟩
   have hI := hI.trans hJ59
   have hL15 := hL15.trans hJ59
   have hG := hG.mono hJ59
   refine mv (.int .i64 y56.1) rfl <| sq <| sr <| mv (pt bx0) rfl ?_
   obtain ⟨y60, hy61, H⟩ := obx H
   refine g rfl (cl fb87 (@speculumref11_P_sign.ok k y56.2 _ _ _ _ _ _ hG S y56_1h2 hy61) rfl ?_)
   rintro _ w ⟨y60_1v2, J62, hJ63, rfl, y60_1h2, S⟩
   have hI := hI.trans hJ63
   have hL15 := hL15.trans hJ63
   refine u rfl (x_bin rfl rfl rfl) ?_
   by_cases cc64 : y60.1 = 41
   ·rw [if_pos cc64] at H
    refine cF rfl (neF cc64) <| sk <| rg <| mv (pt bx0) rfl <| mv (pt bx0) rfl <| u rfl (x_nk rfl) <| u rfl (x_fa tf135_1 rfl) <| u rfl (x_ld tsc3 rfl (S.load 0 rfl 1 rfl)) <| u rfl (x_bin rfl rfl rfl) <| u rfl (x_nk rfl) <| u rfl (x_fa tf135_1 rfl) <| g rfl (o_st tone3 S 0 rfl rfl rfl rfl fun w S => ⟨y56.1, y60.2.S, (i64 (y60.2.At + 1)), y60.2.N, y60.2.Bad, y60_1v2, J62, (si H), ⟨rfl, rfl, trivial⟩, hL15, S, y60_1h2⟩)
   rw [if_neg cc64] at H
   refine cT rfl (neT cc64) <| sr <| mv (pt bx0) rfl <| u rfl (x_nk rfl) <| u rfl (x_fa tf135_3 rfl) <| g rfl (o_st tone4 S 0 rfl rfl rfl rfl fun w S => sq (FW.anew [] trivial fun σ => rg (mv (.int .i64 0) rfl (rt ?_))))
   obtain rfl := si H
   obtain rfl := si HO14
   exact ⟨_, ⟨_, rfl, rfl⟩, ⟨y60_1v2, J62, hI, rfl, y60_1h2, S⟩⟩
  rw [if_neg cc55] at H
  refine cF rfl (eqF cc55) <| sr <| mv (pt bx0) rfl <| u rfl (x_nk rfl) <| u rfl (x_fa tf135_3 rfl) <| g rfl (o_st tone4 S 0 rfl rfl rfl rfl fun w S => sq (FW.anew [] trivial fun σ => rg (mv (.int .i64 0) rfl (rt ?_))))
  obtain rfl := si H
  obtain rfl := si HO14
  exact ⟨_, ⟨_, rfl, rfl⟩, ⟨y1_1v2, J3, hI, rfl, y1_1h2, S⟩⟩
 rintro σ w ⟨n6, s7, n8, l9, b12, v10, J5, ho, hσ, hL15, S, h11⟩
 subst ho
 have H := HO14
 try dsimp only at H
 have hI := hI.trans hL15
 have hG := hG.mono hL15
 rw [hσ.eq]
 refine sr <| mv (pt bx0) rfl ?_
 obtain ⟨y65, hy66, H⟩ := obx H
 refine g rfl (cl fb87 (@speculumref11_P_sign.ok k (T_speculumref11_P.mk s7 n8 l9 b12) _ _ _ _ _ _ hG S h11 hy66) rfl ?_)
 rintro _ w ⟨y65_1v2, J67, hJ68, rfl, y65_1h2, S⟩
 have hI := hI.trans hJ68
 have hG := hG.mono hJ68
 refine mv (.int .u8 y65.1) rfl <| sq <| bk ?_
 obtain ⟨o80, hl82, HO81⟩ := obx H
 refine FW.cutX 1 (fun σ w => ∃ (n84 : Int) (s85 : ByteArray) (n86 : Int) (l87 : (List T_speculumref11_Node)) (b90 : Bool) (v88 : Value) (J83 : IMem), (n84, s85, n86, l87, b90) = o80 ∧ Has σ [(4, .int .i64 n84)] ∧ J67.le J83 ∧ Own J83 w (.bk bx0 135 [.string s85, .int .i64 n86, v88, .bool b90] :: .tv v88 163 6 :: F) ∧ SlR R_speculumref11_Node J83 v88 l87) ?_ ?_
 ·refine FW.loop k (FL.ind (fun q σ w => ∃ (n70 : Int) (n71 : Int) (s72 : ByteArray) (n73 : Int) (l74 : (List T_speculumref11_Node)) (b77 : Bool) (v75 : Value) (J69 : IMem), speculumref11_P_part.l0 q n70 n71 s72 n73 l74 b77 = some o80 ∧ q ≤ k ∧ Has σ [(0, pt bx0), (3, .int .u8 n70), (4, .int .i64 n71)] ∧ J67.le J69 ∧ Own J69 w (.bk bx0 135 [.string s72, .int .i64 n73, v75, .bool b77] :: .tv v75 163 6 :: F) ∧ SlR R_speculumref11_Node J69 v75 l74) ?_ ?_ k k _ _ (Nat.le_refl _) ⟨y65.1, n6, y65.2.S, y65.2.At, y65.2.N, y65.2.Bad, y65_1v2, J67, hl82, Nat.le_refl _, ⟨rfl, rfl, rfl, trivial⟩, (IMem.le.refl _), S, y65_1h2⟩)
  ·rintro σ w ⟨n70, n71, s72, n73, l74, b77, v75, J69, H, _⟩; cases H
  rintro q78 σ w ⟨n70, n71, s72, n73, l74, b77, v75, J69, H, hq91, hσ, hL79, S, h76⟩
  have hG := hG.mono hL79
  rw [hσ.eq]
  rw [speculumref11_P_part.l0] at H
  refine sq <| sr <| mv (pt bx0) rfl <| u rfl (x_nk rfl) <| u rfl (x_fa tf135_3 rfl) <| u rfl (x_ld tsc4 rfl (S.load 0 rfl 3 rfl)) <| u rfl (x_not' rfl) <| mv (.bool (!b77)) rfl ?_
  by_cases cc92 : b77 = true
  ·rw [if_pos cc92] at H
   refine gn rfl rfl rfl (noF cc92) <| gn rfl rfl rfl (noF cc92) <| gn rfl rfl rfl (noF cc92) <| OK.gu rfl rfl rfl <| OK.gu rfl rfl rfl <| gn rfl rfl rfl (noF cc92) <| gn rfl rfl rfl (noF cc92) <| OK.gu rfl rfl rfl <| OK.gu rfl rfl rfl <| gn rfl rfl rfl (noF cc92) <| u rfl (x_pickFV (v := .bool false) rfl (noF cc92) rfl) <| cF rfl rfl <| ex ⟨n71, s72, n73, l74, b77, v75, J69, (si H), ⟨rfl, trivial⟩, hL79, S, h76⟩
  rw [if_neg cc92] at H
  refine gu rfl rfl rfl (noT (vaF cc92)) (x_movV (v := .int .u8 n70) rfl) <| gu rfl rfl rfl (noT (vaF cc92)) (x_bin rfl rfl rfl) <| gu rfl rfl rfl (noT (vaF cc92)) (x_movV (v := .bool (n70 == 42)) rfl) ?_
  by_cases cc93 : n70 = 42
  ·rw [if_pos cc93] at H
   refine gn rfl rfl rfl (eqT cc93) <| gn rfl rfl rfl (eqT cc93) <| gu rfl rfl rfl (noT (vaF cc92)) (x_pickTV (v := .bool true) rfl (eqT cc93) rfl) <| gu rfl rfl rfl (noT (vaF cc92)) (x_movV (v := .bool true) rfl) <| gn rfl rfl rfl rfl <| gn rfl rfl rfl rfl <| gu rfl rfl rfl (noT (vaF cc92)) (x_pickTV (v := .bool true) rfl rfl rfl) <| u rfl (x_pickTV (v := .bool true) rfl (noT (vaF cc92)) rfl) <| cT rfl rfl <| sk <| bk <| sq <| FW.anew [(0, pt bx0), (3, .int .u8 n70), (4, .int .i64 n71)] ⟨rfl, rfl, rfl, trivial⟩ fun σ => rg <| mv (pt bx0) rfl <| mv (pt bx0) rfl <| u rfl (x_nk rfl) <| u rfl (x_fa tf135_1 rfl) <| u rfl (x_ld tsc3 rfl (S.load 0 rfl 1 rfl)) <| u rfl (x_bin rfl rfl rfl) <| u rfl (x_nk rfl) <| u rfl (x_fa tf135_1 rfl) <| g rfl (o_st tone3 S 0 rfl rfl rfl rfl fun w S => sq (FW.anew [(0, pt bx0), (3, .int .u8 n70), (4, .int .i64 n71)] ⟨rfl, rfl, rfl, trivial⟩ fun σ => rg (mv (pt bx0) rfl (mv (.int .u8 n70) rfl (mv (.int .i64 n71) rfl (g rfl (o_bsl tsl161 tz3 rfl rfl rfl rfl (.one rfl PC.nil) rfl S fun b94 w S => ?_)))))))
   obtain ⟨J95, hJ97, S, h96⟩ := S.freeze (r := (tInt' .i64)) (l := [n71]) 0 rfl ⟨[.int .i64 n71], _, rfl, rfl, rfl⟩ rfl rfl
   have h76 := h76.mono hJ97
   have hL79 := hL79.trans hJ97
   have hG := hG.mono hJ97
   refine u rfl (x_bld tz163 tpl163 rfl (.one rfl (.one h96.one PC.nil)) rfl) ?_
   obtain ⟨y98, hy99, H⟩ := obx H
   refine g rfl (cl fb120 (@speculumref11_P_put.ok q78 (T_speculumref11_P.mk s72 (i64 (n73 + 1)) l74 b77) (T_speculumref11_Node.mk n70 [n71] [] [] false false) _ _ _ _ _ _ _ _ _ hG (S.sel 3 [1, 2, 0] rfl) h76 h96 (SlR.nil _ _) (SlR.nil _ _) hy99) rfl ?_)
   rintro _ w ⟨y98_1v2, J100, hJ101, rfl, y98_1h2, S⟩
   have hL79 := hL79.trans hJ101
   have hG := hG.mono hJ101
   refine mv (.int .i64 y98.1) rfl <| FW.anew [(0, pt bx0), (4, .int .i64 y98.1)] ⟨rfl, rfl, trivial⟩ fun σ => rg <| mv (pt bx0) rfl ?_
   obtain ⟨y102, hy103, H⟩ := obx H
   refine g rfl (cl fb87 (@speculumref11_P_sign.ok q78 y98.2 _ _ _ _ _ _ hG S y98_1h2 hy103) rfl ?_)
   rintro _ w ⟨y102_1v2, J104, hJ105, rfl, y102_1h2, S⟩
   have hL79 := hL79.trans hJ105
   refine mv (.int .u8 y102.1) rfl ⟨q78, Nat.le_refl _, y102.1, y98.1, y102.2.S, y102.2.At, y102.2.N, y102.2.Bad, y102_1v2, J104, H, (Nat.le_of_succ_le hq91), ⟨rfl, rfl, rfl, trivial⟩, hL79, (S.sel 3 [0, 1] rfl), y102_1h2⟩
  rw [if_neg cc93] at H
  refine gu rfl rfl rfl (eqF cc93) (x_movV (v := .int .u8 n70) rfl) <| gu rfl rfl rfl (eqF cc93) (x_bin rfl rfl rfl) <| gu rfl rfl rfl (noT (vaF cc92)) (x_pickFV (v := .bool (n70 == 43)) rfl (eqF cc93) rfl) <| gu rfl rfl rfl (noT (vaF cc92)) (x_movV (v := .bool (n70 == 43)) rfl) ?_
  by_cases cc106 : n70 = 43
  ·rw [if_pos cc106] at H
   refine gn rfl rfl rfl (eqT cc106) <| gn rfl rfl rfl (eqT cc106) <| gu rfl rfl rfl (noT (vaF cc92)) (x_pickTV (v := .bool true) rfl (eqT cc106) rfl) <| u rfl (x_pickTV (v := .bool true) rfl (noT (vaF cc92)) rfl) <| cT rfl rfl <| sk <| bk <| sq <| FW.anew [(0, pt bx0), (3, .int .u8 n70), (4, .int .i64 n71)] ⟨rfl, rfl, rfl, trivial⟩ fun σ => rg <| mv (pt bx0) rfl <| mv (pt bx0) rfl <| u rfl (x_nk rfl) <| u rfl (x_fa tf135_1 rfl) <| u rfl (x_ld tsc3 rfl (S.load 0 rfl 1 rfl)) <| u rfl (x_bin rfl rfl rfl) <| u rfl (x_nk rfl) <| u rfl (x_fa tf135_1 rfl) <| g rfl (o_st tone3 S 0 rfl rfl rfl rfl fun w S => sq (FW.anew [(0, pt bx0), (3, .int .u8 n70), (4, .int .i64 n71)] ⟨rfl, rfl, rfl, trivial⟩ fun σ => rg (mv (pt bx0) rfl (mv (.int .u8 n70) rfl (mv (.int .i64 n71) rfl (g rfl (o_bsl tsl161 tz3 rfl rfl rfl rfl (.one rfl PC.nil) rfl S fun b107 w S => ?_)))))))
   obtain ⟨J108, hJ110, S, h109⟩ := S.freeze (r := (tInt' .i64)) (l := [n71]) 0 rfl ⟨[.int .i64 n71], _, rfl, rfl, rfl⟩ rfl rfl
   have h76 := h76.mono hJ110
   have hL79 := hL79.trans hJ110
   have hG := hG.mono hJ110
   refine u rfl (x_bld tz163 tpl163 rfl (.one rfl (.one h109.one PC.nil)) rfl) ?_
   obtain ⟨y111, hy112, H⟩ := obx H
   refine g rfl (cl fb120 (@speculumref11_P_put.ok q78 (T_speculumref11_P.mk s72 (i64 (n73 + 1)) l74 b77) (T_speculumref11_Node.mk n70 [n71] [] [] false false) _ _ _ _ _ _ _ _ _ hG (S.sel 3 [1, 2, 0] rfl) h76 h109 (SlR.nil _ _) (SlR.nil _ _) hy112) rfl ?_)
   rintro _ w ⟨y111_1v2, J113, hJ114, rfl, y111_1h2, S⟩
   have hL79 := hL79.trans hJ114
   have hG := hG.mono hJ114
   refine mv (.int .i64 y111.1) rfl <| FW.anew [(0, pt bx0), (4, .int .i64 y111.1)] ⟨rfl, rfl, trivial⟩ fun σ => rg <| mv (pt bx0) rfl ?_
   obtain ⟨y115, hy116, H⟩ := obx H
   refine g rfl (cl fb87 (@speculumref11_P_sign.ok q78 y111.2 _ _ _ _ _ _ hG S y111_1h2 hy116) rfl ?_)
   rintro _ w ⟨y115_1v2, J117, hJ118, rfl, y115_1h2, S⟩
   have hL79 := hL79.trans hJ118
   refine mv (.int .u8 y115.1) rfl ⟨q78, Nat.le_refl _, y115.1, y111.1, y115.2.S, y115.2.At, y115.2.N, y115.2.Bad, y115_1v2, J117, H, (Nat.le_of_succ_le hq91), ⟨rfl, rfl, rfl, trivial⟩, hL79, (S.sel 3 [0, 1] rfl), y115_1h2⟩
  rw [if_neg cc106] at H
  refine gu rfl rfl rfl (eqF cc106) (x_movV (v := .int .u8 n70) rfl) <| gu rfl rfl rfl (eqF cc106) (x_bin rfl rfl rfl) <| gu rfl rfl rfl (noT (vaF cc92)) (x_pickFV (v := .bool (n70 == 63)) rfl (eqF cc106) rfl) <| u rfl (x_pickTV (v := .bool (n70 == 63)) rfl (noT (vaF cc92)) rfl) ?_
  by_cases cc119 : n70 = 63
  ·rw [if_pos cc119] at H
   refine cT rfl (eqT cc119) <| sk <| bk <| sq <| FW.anew [(0, pt bx0), (3, .int .u8 n70), (4, .int .i64 n71)] ⟨rfl, rfl, rfl, trivial⟩ fun σ => rg <| mv (pt bx0) rfl <| mv (pt bx0) rfl <| u rfl (x_nk rfl) <| u rfl (x_fa tf135_1 rfl) <| u rfl (x_ld tsc3 rfl (S.load 0 rfl 1 rfl)) <| u rfl (x_bin rfl rfl rfl) <| u rfl (x_nk rfl) <| u rfl (x_fa tf135_1 rfl) <| g rfl (o_st tone3 S 0 rfl rfl rfl rfl fun w S => sq (FW.anew [(0, pt bx0), (3, .int .u8 n70), (4, .int .i64 n71)] ⟨rfl, rfl, rfl, trivial⟩ fun σ => rg (mv (pt bx0) rfl (mv (.int .u8 n70) rfl (mv (.int .i64 n71) rfl (g rfl (o_bsl tsl161 tz3 rfl rfl rfl rfl (.one rfl PC.nil) rfl S fun b120 w S => ?_)))))))
   obtain ⟨J121, hJ123, S, h122⟩ := S.freeze (r := (tInt' .i64)) (l := [n71]) 0 rfl ⟨[.int .i64 n71], _, rfl, rfl, rfl⟩ rfl rfl
   have h76 := h76.mono hJ123
   have hL79 := hL79.trans hJ123
   have hG := hG.mono hJ123
   refine u rfl (x_bld tz163 tpl163 rfl (.one rfl (.one h122.one PC.nil)) rfl) ?_
   obtain ⟨y124, hy125, H⟩ := obx H
   refine g rfl (cl fb120 (@speculumref11_P_put.ok q78 (T_speculumref11_P.mk s72 (i64 (n73 + 1)) l74 b77) (T_speculumref11_Node.mk n70 [n71] [] [] false false) _ _ _ _ _ _ _ _ _ hG (S.sel 3 [1, 2, 0] rfl) h76 h122 (SlR.nil _ _) (SlR.nil _ _) hy125) rfl ?_)
   rintro _ w ⟨y124_1v2, J126, hJ127, rfl, y124_1h2, S⟩
   have hL79 := hL79.trans hJ127
   have hG := hG.mono hJ127
   refine mv (.int .i64 y124.1) rfl <| FW.anew [(0, pt bx0), (4, .int .i64 y124.1)] ⟨rfl, rfl, trivial⟩ fun σ => rg <| mv (pt bx0) rfl ?_
   obtain ⟨y128, hy129, H⟩ := obx H
   refine g rfl (cl fb87 (@speculumref11_P_sign.ok q78 y124.2 _ _ _ _ _ _ hG S y124_1h2 hy129) rfl ?_)
   rintro _ w ⟨y128_1v2, J130, hJ131, rfl, y128_1h2, S⟩
   have hL79 := hL79.trans hJ131
   refine mv (.int .u8 y128.1) rfl ⟨q78, Nat.le_refl _, y128.1, y124.1, y128.2.S, y128.2.At, y128.2.N, y128.2.Bad, y128_1v2, J130, H, (Nat.le_of_succ_le hq91), ⟨rfl, rfl, rfl, trivial⟩, hL79, (S.sel 3 [0, 1] rfl), y128_1h2⟩
  rw [if_neg cc119] at H
  refine cF rfl (eqF cc119) <| ex ⟨n71, s72, n73, l74, b77, v75, J69, (si H), ⟨rfl, trivial⟩, hL79, S, h76⟩
 rintro σ w ⟨n84, s85, n86, l87, b90, v88, J83, ho, hσ, hL79, S, h89⟩
 subst ho
 have H := HO81
 try dsimp only at H
 have hI := hI.trans hL79
 rw [hσ.eq]
 refine sr <| mv (.int .i64 n84) rfl <| mv (.int .i64 n84) rfl <| rt ?_
 obtain rfl := si H
 exact ⟨_, ⟨_, rfl, rfl⟩, ⟨v88, J83, hI, rfl, h89, S⟩⟩
theorem speculumref11_P_part.zero : speculumref11_P_part.C 0 := by
  intro _ _ _ _ _ _ _ _ _ _ H; cases H
theorem speculumref11_P_choices.grp : ∀ k m, m ≤ k → speculumref11_P_choices.C m ∧ speculumref11_P_row.C m ∧ speculumref11_P_part.C m
  | 0, m, h => by
    obtain rfl : m = 0 := by omega
    exact ⟨speculumref11_P_choices.zero, speculumref11_P_row.zero, speculumref11_P_part.zero⟩
  | k + 1, 0, _ => ⟨speculumref11_P_choices.zero, speculumref11_P_row.zero, speculumref11_P_part.zero⟩
  | k + 1, m + 1, h => ⟨speculumref11_P_choices.step m (fun i hi => (speculumref11_P_choices.grp k i (by omega)).2.1), speculumref11_P_row.step m (fun i hi => (speculumref11_P_choices.grp k i (by omega)).2.2), speculumref11_P_part.step m (fun i hi => (speculumref11_P_choices.grp k i (by omega)).1)⟩
theorem speculumref11_P_choices.ok (k : Nat) : speculumref11_P_choices.C k := (speculumref11_P_choices.grp k k (Nat.le_refl k)).1
def speculumref11_Parse.l0 : Nat → ByteArray → Int → Option (Sum ((Option T_speculumref11_P) × Int × Int) Unit)
  | 0, _, _ => none
  | k + 1, x0, n3 => (if n3 < (x0.size : Int) then ((sat x0 n3).bind fun y12 => (if y12 = 0 then (some (.inl (none, 0, 14))) else (speculumref11_Parse.l0 k x0 (i64 (n3 + 1))))) else (some (.inr ())))
def speculumref11_Parse.f (k : Nat) (x0 : ByteArray) : Option ((Option T_speculumref11_P) × Int × Int) := (if (x0.size : Int) > 100 then (some (none, 0, 4)) else (((speculumref11_Parse.l0 k x0 0) : Option (Sum ((Option T_speculumref11_P) × Int × Int) Unit)).bind fun o => match o with | .inl r => some r | .inr _ => ((speculumref11_P_choices.f k (T_speculumref11_P.mk x0 0 [] false)).bind fun y17 => ((speculumref11_P_sign.f k y17.2).bind fun y21 => ((if y21.1 = 0 then (some y21.2.Bad) else (some true)).bind fun b26 => (if b26 = true then (some (none, 0, 14)) else (some ((some (T_speculumref11_P.mk y21.2.S y21.2.At y21.2.N b26)), y17.1, 0))))))))
abbrev speculumref11_Parse.C (k : Nat) : Prop := ∀ {x0 : ByteArray} {F : List It} {I : IMem} {w : World} {r : (Option T_speculumref11_P) × Int × Int}, Glob I → Own I w (F) → speculumref11_Parse.f k x0 = some r →
    Calls Tryz.prog 45 #[.string x0] w fun e w' => ∃ v, e = .returned v ∧ ∃ (vy_0 : Value) (J : IMem), I.le J ∧ v = .tuple #[vy_0, .int .i64 r.2.1, .int .i64 r.2.2] ∧ PtR R_speculumref11_P J vy_0 r.1 ∧ Own J w' (F)
theorem speculumref11_Parse.ok (k : Nat) : speculumref11_Parse.C k := by
 intro x0 F I w r hG S H
 have hI := IMem.le.refl I
 rw [speculumref11_Parse.f] at H
 refine Calls.ofFW (args := [.string x0]) Tryz.func45 rfl rfl <| sr <| mv (.pointer none) rfl <| mv (.int .i64 0) rfl <| mv (.int .i64 0) rfl <| sq <| sr <| mv (.string x0) rfl <| u rfl (x_lens tstr9 rfl) <| u rfl (x_bin rfl rfl rfl) ?_
 by_cases cc1 : (x0.size : Int) > 100
 ·rw [if_pos cc1] at H
  refine cT rfl (deT cc1) <| sr <| mv (.pointer none) rfl <| mv (.int .i64 0) rfl <| mv (.int .i64 4) rfl <| rt ?_
  obtain rfl := si H
  exact ⟨_, ⟨_, rfl, ⟨_, rfl, ⟨_, rfl, rfl⟩⟩⟩, ⟨(.pointer none), I, hI, rfl, (PtR.nil _ _), S⟩⟩
 rw [if_neg cc1] at H
 refine cF rfl (deF cc1) <| sk <| sq <| sr <| mv (.int .i64 0) rfl <| bk ?_
 obtain ⟨o6, hl8, HO7⟩ := obx H
 refine FW.cutX 0 (fun σ w => ∃ (J9 : IMem), (.inr ()) = o6 ∧ Has σ [(0, .string x0)] ∧ I.le J9 ∧ Own J9 w (F)) ?_ ?_
 ·refine FW.loop k (FL.ind (fun q σ w => ∃ (n3 : Int) (J2 : IMem), speculumref11_Parse.l0 q x0 n3 = some o6 ∧ q ≤ k ∧ Has σ [(0, .string x0), (5, .int .i64 n3)] ∧ I.le J2 ∧ Own J2 w (F)) ?_ ?_ k k _ _ (Nat.le_refl _) ⟨0, I, hl8, Nat.le_refl _, ⟨rfl, rfl, trivial⟩, (IMem.le.refl _), S⟩)
  ·rintro σ w ⟨n3, J2, H, _⟩; cases H
  rintro q4 σ w ⟨n3, J2, H, hq10, hσ, hL5, S⟩
  have hI := hI.trans hL5
  rw [hσ.eq]
  rw [speculumref11_Parse.l0] at H
  refine sq <| sr <| mv (.int .i64 n3) rfl <| mv (.string x0) rfl <| u rfl (x_lens tstr9 rfl) <| u rfl (x_bin rfl rfl rfl) ?_
  by_cases cc11 : n3 < (x0.size : Int)
  ·rw [if_pos cc11] at H
   refine cT rfl (deT cc11) <| sk <| sq <| bk <| sr <| mv (.string x0) rfl <| mv (.int .i64 n3) rfl ?_
   obtain ⟨y12, h13, H⟩ := obx H
   refine u rfl (x_sat tstr9 rfl rfl h13) <| u rfl (x_bin rfl rfl rfl) ?_
   by_cases cc14 : y12 = 0
   ·rw [if_pos cc14] at H
    refine cT rfl (eqT cc14) <| sq <| FW.anew [] trivial fun σ => rg <| mv (.pointer none) rfl <| mv (.int .i64 0) rfl <| mv (.int .i64 14) rfl <| rt ?_
    obtain rfl := si H
    obtain rfl := si HO7
    exact ⟨_, ⟨_, rfl, ⟨_, rfl, ⟨_, rfl, rfl⟩⟩⟩, ⟨(.pointer none), J2, hI, rfl, (PtR.nil _ _), S⟩⟩
   rw [if_neg cc14] at H
   refine cF rfl (eqF cc14) <| sk <| FW.anew [(0, .string x0), (5, .int .i64 n3)] ⟨rfl, rfl, trivial⟩ fun σ => rg <| mv (.int .i64 n3) rfl <| u rfl (x_bin rfl rfl rfl) <| mv (.int .i64 (i64 (n3 + 1))) rfl ⟨q4, Nat.le_refl _, (i64 (n3 + 1)), J2, H, (Nat.le_of_succ_le hq10), ⟨rfl, rfl, trivial⟩, hL5, S⟩
  rw [if_neg cc11] at H
  refine cF rfl (deF cc11) <| ex ⟨J2, (si H), ⟨rfl, trivial⟩, hL5, S⟩
 rintro σ w ⟨J9, ho, hσ, hL5, S⟩
 subst ho
 have H := HO7
 try dsimp only at H
 have hI := hI.trans hL5
 have hG := hG.mono hL5
 rw [hσ.eq]
 refine sr <| mv (.string x0) rfl <| u rfl (x_bld tz135 tpl135 rfl (.one rfl PC.nil) rfl) <| g rfl (o_boxA rfl S fun b15 w S => mv (pt b15) rfl (sq (rg (mv (pt b15) rfl ?_))))
 have S := S.nil_tv 163 6
 obtain ⟨y17, hy18, H⟩ := obx H
 refine g rfl (cl fb86 (@speculumref11_P_choices.ok k (T_speculumref11_P.mk x0 0 [] false) _ _ _ _ _ _ hG (S.sel 2 [1, 0] rfl) (SlR.nil _ _) hy18) rfl ?_)
 rintro _ w ⟨y17_1v2, J19, hJ20, rfl, y17_1h2, S⟩
 have hI := hI.trans hJ20
 have hG := hG.mono hJ20
 refine mv (.int .i64 y17.1) rfl <| sq <| sq <| FW.anew [(6, pt b15), (7, .int .i64 y17.1)] ⟨rfl, rfl, trivial⟩ fun σ => rg <| mv (pt b15) rfl ?_
 obtain ⟨y21, hy22, H⟩ := obx H
 refine g rfl (cl fb87 (@speculumref11_P_sign.ok k y17.2 _ _ _ _ _ _ hG S y17_1h2 hy22) rfl ?_)
 rintro _ w ⟨y21_1v2, J23, hJ24, rfl, y21_1h2, S⟩
 have hI := hI.trans hJ24
 refine u rfl (x_bin rfl rfl rfl) ?_
 obtain ⟨o27, H, HO28⟩ := obx H
 have hL29 := IMem.le.refl J23
 refine FW.cutN (fun σ w => ∃ (b26 : Bool) (J25 : IMem), b26 = o27 ∧ Has σ [(6, pt b15), (7, .int .i64 y17.1)] ∧ J23.le J25 ∧ Own J25 w (.bk b15 135 [.string y21.2.S, .int .i64 y21.2.At, y21_1v2, .bool b26] :: .tv y21_1v2 163 6 :: F)) ?_ ?_
 ·by_cases cc30 : y21.1 = 0
  ·rw [if_pos cc30] at H
   refine cF rfl (neF cc30) <| sk ⟨y21.2.Bad, J23, (si H), ⟨rfl, rfl, trivial⟩, hL29, S⟩
  rw [if_neg cc30] at H
  refine cT rfl (neT cc30) <| rg <| mv (pt b15) rfl <| u rfl (x_nk rfl) <| u rfl (x_fa tf135_3 rfl) <| g rfl (o_st tone4 S 0 rfl rfl rfl rfl fun w S => ⟨true, J23, (si H), ⟨rfl, rfl, trivial⟩, hL29, S⟩)
 rintro σ w ⟨b26, J25, ho, hσ, hL29, S⟩
 subst ho
 have H := HO28
 have y21_1h2 := y21_1h2.mono hL29
 have hI := hI.trans hL29
 rw [hσ.eq]
 refine sq <| sr <| mv (pt b15) rfl <| u rfl (x_nk rfl) <| u rfl (x_fa tf135_3 rfl) <| u rfl (x_ld tsc4 rfl (S.load 0 rfl 3 rfl)) ?_
 by_cases cc31 : b26 = true
 ·rw [if_pos cc31] at H
  refine cT rfl cc31 <| sr <| mv (.pointer none) rfl <| mv (.int .i64 0) rfl <| mv (.int .i64 14) rfl <| rt ?_
  obtain rfl := si H
  exact ⟨_, ⟨_, rfl, ⟨_, rfl, ⟨_, rfl, rfl⟩⟩⟩, ⟨(.pointer none), J25, hI, rfl, (PtR.nil _ _), (S.sel 2 [] rfl)⟩⟩
 rw [if_neg cc31] at H
 refine cF rfl (vaF cc31) <| sk <| sr <| mv (pt b15) rfl <| mv (.int .i64 y17.1) rfl <| mv (pt b15) rfl <| mv (.int .i64 y17.1) rfl <| mv (.int .i64 0) rfl <| rt ?_
 obtain ⟨J32, hJ34, S, h33⟩ := S.freezeB (r := R_speculumref11_P) (x := (T_speculumref11_P.mk y21.2.S y21.2.At y21.2.N b26)) 0 rfl ⟨y21_1v2, rfl, y21_1h2⟩
 have hI := hI.trans hJ34
 obtain rfl := si H
 exact ⟨_, ⟨_, rfl, ⟨_, rfl, ⟨_, rfl, rfl⟩⟩⟩, ⟨(pt b15), J32, hI, rfl, h33, (S.sel 1 [] rfl)⟩⟩
def speculumref14_RightCond.l0 : Nat → T_api_Cond → Int → Option (Sum Bool Unit)
  | 0, _, _ => none
  | k + 1, x0, n4 => (if n4 < (x0.Range.length : Int) then ((lat x0.Range n4).bind fun y13 => ((speculumref12_Right.f k y13).bind fun y20 => (if y20 = true then (speculumref14_RightCond.l0 k x0 (i64 (n4 + 1))) else (some (.inl false))))) else (some (.inr ())))
def speculumref14_RightCond.f (k : Nat) (x0 : T_api_Cond) : Option Bool := (if x0.Kind = 1 then (((speculumref14_RightCond.l0 k x0 0) : Option (Sum Bool Unit)).bind fun o => match o with | .inl r => some r | .inr _ => (some (decide ((x0.Range.length : Int) ≤ 16)))) else (if x0.Kind = 2 then ((speculumref11_Parse.f k x0.Text).bind fun y24 => (some (y24.2.2 == 0))) else (if x0.Kind = 3 then (some (decide ((x0.Comms.length : Int) ≤ 32))) else (if x0.Kind = 4 then (if x0.Num ≥ 0 then (some (decide (x0.Num ≤ 64))) else (some false)) else (if x0.Kind = 6 then (if x0.Num ≥ 0 then (some (decide (x0.Num ≤ 2))) else (some false)) else (if x0.Kind = 0 then (some true) else (some (x0.Kind == 5))))))))
abbrev speculumref14_RightCond.C (k : Nat) : Prop := ∀ {x0 : T_api_Cond} {x0v5 : Value} {x0v6 : Value} {F : List It} {I : IMem} {w : World} {r : Bool}, Glob I → Own I w (F) → SlR R_api_Range I x0v5 x0.Range → SlR (tInt' .u32) I x0v6 x0.Comms → speculumref14_RightCond.f k x0 = some r →
    Calls Tryz.prog 15 #[.agg #[.int .i64 x0.Kind, .bool x0.Not, .int .i64 x0.Num, .int .u32 x0.Addr, .string x0.Text, x0v5, x0v6]] w fun e w' => ∃ v, e = .returned v ∧ v = .bool r ∧ Own I w' (F)
theorem speculumref14_RightCond.ok (k : Nat) : speculumref14_RightCond.C k := by
 intro x0 x0v5 x0v6 F I w r hG S x0h5 x0h6 H
 have hI := IMem.le.refl I
 rw [speculumref14_RightCond.f] at H
 refine Calls.ofFW (args := [.agg #[.int .i64 x0.Kind, .bool x0.Not, .int .i64 x0.Num, .int .u32 x0.Addr, .string x0.Text, x0v5, x0v6]]) Tryz.func15 rfl rfl <| sr <| g rfl (o_boxA rfl S fun b1 w S => mv (.bool false) rfl (sq (sq (rg (u rfl (x_fa tf27_0 rfl) (u rfl (x_ld tsc3 rfl (S.load 0 rfl 0 rfl)) (u rfl (x_bin rfl rfl rfl) ?_)))))))
 by_cases cc2 : x0.Kind = 1
 ·rw [if_pos cc2] at H
  refine cT rfl (eqT cc2) <| sq <| sr <| mv (.int .i64 0) rfl <| bk ?_
  obtain ⟨o7, hl9, HO8⟩ := obx H
  refine FW.cutX 0 (fun σ w => ∃ (J10 : IMem), (.inr ()) = o7 ∧ Has σ [(1, pt b1)] ∧ I.le J10 ∧ Own J10 w (.bk b1 27 [.int .i64 x0.Kind, .bool x0.Not, .int .i64 x0.Num, .int .u32 x0.Addr, .string x0.Text, x0v5, x0v6] :: F)) ?_ ?_
  ·refine FW.loop k (FL.ind (fun q σ w => ∃ (n4 : Int) (J3 : IMem), speculumref14_RightCond.l0 q x0 n4 = some o7 ∧ q ≤ k ∧ Has σ [(1, pt b1), (3, .int .i64 n4)] ∧ I.le J3 ∧ Own J3 w (.bk b1 27 [.int .i64 x0.Kind, .bool x0.Not, .int .i64 x0.Num, .int .u32 x0.Addr, .string x0.Text, x0v5, x0v6] :: F)) ?_ ?_ k k _ _ (Nat.le_refl _) ⟨0, I, hl9, Nat.le_refl _, ⟨rfl, rfl, trivial⟩, (IMem.le.refl _), S⟩)
   ·rintro σ w ⟨n4, J3, H, _⟩; cases H
   rintro q5 σ w ⟨n4, J3, H, hq11, hσ, hL6, S⟩
   have x0h5 := x0h5.mono hL6
   have hI := hI.trans hL6
   have hG := hG.mono hL6
   rw [hσ.eq]
   rw [speculumref14_RightCond.l0] at H
   refine sq <| sr <| mv (.int .i64 n4) rfl <| u rfl (x_fa tf27_5 rfl) <| u rfl (x_ld tsc24 rfl (S.load 0 rfl 5 rfl)) <| u rfl (x_lenD (r := R_api_Range) tsl24 x0h5) <| u rfl (x_bin rfl rfl rfl) ?_
   by_cases cc12 : n4 < (x0.Range.length : Int)
   ·rw [if_pos cc12] at H
    refine cT rfl (deT cc12) <| sk <| sq <| bk <| sr <| u rfl (x_fa tf27_5 rfl) <| u rfl (x_ld tsc24 rfl (S.load 0 rfl 5 rfl)) <| mv (.int .i64 n4) rfl ?_
    obtain ⟨y13, h14, H⟩ := obx H
    refine g rfl (o_ia (r := R_api_Range) tsl24 rfl rfl x0h5 rfl h14 fun b15 o16 cs17 hr18 hc19 => ?_)
    obtain rfl := hr18
    refine u rfl (x_ldA tag69 rfl (S.loadI hc19) rfl) ?_
    obtain ⟨y20, hy21, H⟩ := obx H
    refine g rfl (cl fb44 (@speculumref12_Right.ok q5 y13 _ _ _ _ hG S hy21) rfl ?_)
    rintro _ w ⟨rfl, S⟩
    refine u rfl (x_not' rfl) ?_
    by_cases cc22 : y20 = true
    ·rw [if_pos cc22] at H
     refine cF rfl (noF cc22) <| sk <| FW.anew [(1, pt b1), (3, .int .i64 n4)] ⟨rfl, rfl, trivial⟩ fun σ => rg <| mv (.int .i64 n4) rfl <| u rfl (x_bin rfl rfl rfl) <| mv (.int .i64 (i64 (n4 + 1))) rfl ⟨q5, Nat.le_refl _, (i64 (n4 + 1)), J3, H, (Nat.le_of_succ_le hq11), ⟨rfl, rfl, trivial⟩, hL6, S⟩
    rw [if_neg cc22] at H
    refine cT rfl (noT (vaF cc22)) <| sq <| FW.anew [] trivial fun σ => rg <| mv (.bool false) rfl <| rt ?_
    obtain rfl := si H
    obtain rfl := si HO8
    exact ⟨_, ⟨_, rfl, rfl⟩, ⟨rfl, ((S.sel 1 [] rfl).weaken hI)⟩⟩
   rw [if_neg cc12] at H
   refine cF rfl (deF cc12) <| ex ⟨J3, (si H), ⟨rfl, trivial⟩, hL6, S⟩
  rintro σ w ⟨J10, ho, hσ, hL6, S⟩
  subst ho
  have H := HO8
  try dsimp only at H
  have x0h5 := x0h5.mono hL6
  have hI := hI.trans hL6
  rw [hσ.eq]
  refine sr <| u rfl (x_fa tf27_5 rfl) <| u rfl (x_ld tsc24 rfl (S.load 0 rfl 5 rfl)) <| u rfl (x_lenD (r := R_api_Range) tsl24 x0h5) <| u rfl (x_bin rfl rfl rfl) <| mv (.bool (decide ((x0.Range.length : Int) ≤ 16))) rfl <| rt ?_
  obtain rfl := si H
  exact ⟨_, ⟨_, rfl, rfl⟩, ⟨rfl, ((S.sel 1 [] rfl).weaken hI)⟩⟩
 rw [if_neg cc2] at H
 refine cF rfl (eqF cc2) <| sk <| sq <| sr <| u rfl (x_fa tf27_0 rfl) <| u rfl (x_ld tsc3 rfl (S.load 0 rfl 0 rfl)) <| u rfl (x_bin rfl rfl rfl) ?_
 by_cases cc23 : x0.Kind = 2
 ·rw [if_pos cc23] at H
  refine cT rfl (eqT cc23) <| sq <| FW.anew [(1, pt b1)] ⟨rfl, trivial⟩ fun σ => rg <| u rfl (x_fa tf27_4 rfl) <| u rfl (x_ld tsc9 rfl (S.load 0 rfl 4 rfl)) ?_
  obtain ⟨y24, hy25, H⟩ := obx H
  refine g rfl (cl fb45 (@speculumref11_Parse.ok k x0.Text _ _ _ _ hG S hy25) rfl ?_)
  rintro _ w ⟨vy24_0, J26, hJ27, rfl, hy24_0, S⟩
  have hI := hI.trans hJ27
  refine mv (.tuple #[vy24_0, .int .i64 y24.2.1, .int .i64 y24.2.2]) rfl <| u rfl (x_ext rfl rfl) <| u rfl (x_ext rfl rfl) <| u rfl (x_ext rfl rfl) <| mv vy24_0 rfl <| mv (.int .i64 y24.2.1) rfl <| mv (.int .i64 y24.2.2) rfl <| sq <| FW.anew [(6, .int .i64 y24.2.2)] ⟨rfl, trivial⟩ fun σ => rg <| mv (.int .i64 y24.2.2) rfl <| u rfl (x_bin rfl rfl rfl) <| mv (.bool (y24.2.2 == 0)) rfl <| rt ?_
  obtain rfl := si H
  exact ⟨_, ⟨_, rfl, rfl⟩, ⟨rfl, ((S.sel 1 [] rfl).weaken hI)⟩⟩
 rw [if_neg cc23] at H
 refine cF rfl (eqF cc23) <| sk <| sq <| sq <| FW.anew [(1, pt b1)] ⟨rfl, trivial⟩ fun σ => rg <| u rfl (x_fa tf27_0 rfl) <| u rfl (x_ld tsc3 rfl (S.load 0 rfl 0 rfl)) <| u rfl (x_bin rfl rfl rfl) ?_
 by_cases cc28 : x0.Kind = 3
 ·rw [if_pos cc28] at H
  refine cT rfl (eqT cc28) <| sr <| u rfl (x_fa tf27_6 rfl) <| u rfl (x_ld tsc25 rfl (S.load 0 rfl 6 rfl)) <| u rfl (x_lenD (r := (tInt' .u32)) tsl25 x0h6) <| u rfl (x_bin rfl rfl rfl) <| mv (.bool (decide ((x0.Comms.length : Int) ≤ 32))) rfl <| rt ?_
  obtain rfl := si H
  exact ⟨_, ⟨_, rfl, rfl⟩, ⟨rfl, ((S.sel 1 [] rfl).weaken hI)⟩⟩
 rw [if_neg cc28] at H
 refine cF rfl (eqF cc28) <| sk <| sq <| sr <| u rfl (x_fa tf27_0 rfl) <| u rfl (x_ld tsc3 rfl (S.load 0 rfl 0 rfl)) <| u rfl (x_bin rfl rfl rfl) ?_
 by_cases cc29 : x0.Kind = 4
 ·rw [if_pos cc29] at H
  refine cT rfl (eqT cc29) <| sr <| u rfl (x_fa tf27_2 rfl) <| u rfl (x_ld tsc3 rfl (S.load 0 rfl 2 rfl)) <| u rfl (x_bin rfl rfl rfl) <| mv (.bool (decide (x0.Num ≥ 0))) rfl ?_
  by_cases cc30 : x0.Num ≥ 0
  ·rw [if_pos cc30] at H
   refine gu rfl rfl rfl (deT cc30) (x_fa tf27_2 rfl) <| gu rfl rfl rfl (deT cc30) (x_ld tsc3 rfl (S.load 0 rfl 2 rfl)) <| gu rfl rfl rfl (deT cc30) (x_bin rfl rfl rfl) <| u rfl (x_pickTV (v := .bool (decide (x0.Num ≤ 64))) rfl (deT cc30) rfl) <| mv (.bool (decide (x0.Num ≤ 64))) rfl <| rt ?_
   obtain rfl := si H
   exact ⟨_, ⟨_, rfl, rfl⟩, ⟨rfl, ((S.sel 1 [] rfl).weaken hI)⟩⟩
  rw [if_neg cc30] at H
  refine gn rfl rfl rfl (deF cc30) <| gn rfl rfl rfl (deF cc30) <| gn rfl rfl rfl (deF cc30) <| u rfl (x_pickFV (v := .bool false) rfl (deF cc30) rfl) <| mv (.bool false) rfl <| rt ?_
  obtain rfl := si H
  exact ⟨_, ⟨_, rfl, rfl⟩, ⟨rfl, ((S.sel 1 [] rfl).weaken hI)⟩⟩
 rw [if_neg cc29] at H
 refine cF rfl (eqF cc29) <| sk <| sq <| sr <| u rfl (x_fa tf27_0 rfl) <| u rfl (x_ld tsc3 rfl (S.load 0 rfl 0 rfl)) <| u rfl (x_bin rfl rfl rfl) ?_
 by_cases cc31 : x0.Kind = 6
 ·rw [if_pos cc31] at H
  refine cT rfl (eqT cc31) <| sq <| FW.anew [(1, pt b1)] ⟨rfl, trivial⟩ fun σ => rg <| u rfl (x_fa tf27_2 rfl) <| u rfl (x_ld tsc3 rfl (S.load 0 rfl 2 rfl)) <| u rfl (x_bin rfl rfl rfl) <| mv (.bool (decide (x0.Num ≥ 0))) rfl ?_
  by_cases cc32 : x0.Num ≥ 0
  ·rw [if_pos cc32] at H
   refine gu rfl rfl rfl (deT cc32) (x_fa tf27_2 rfl) <| gu rfl rfl rfl (deT cc32) (x_ld tsc3 rfl (S.load 0 rfl 2 rfl)) <| gu rfl rfl rfl (deT cc32) (x_bin rfl rfl rfl) <| u rfl (x_pickTV (v := .bool (decide (x0.Num ≤ 2))) rfl (deT cc32) rfl) <| mv (.bool (decide (x0.Num ≤ 2))) rfl <| rt ?_
   obtain rfl := si H
   exact ⟨_, ⟨_, rfl, rfl⟩, ⟨rfl, ((S.sel 1 [] rfl).weaken hI)⟩⟩
  rw [if_neg cc32] at H
  refine gn rfl rfl rfl (deF cc32) <| gn rfl rfl rfl (deF cc32) <| gn rfl rfl rfl (deF cc32) <| u rfl (x_pickFV (v := .bool false) rfl (deF cc32) rfl) <| mv (.bool false) rfl <| rt ?_
  obtain rfl := si H
  exact ⟨_, ⟨_, rfl, rfl⟩, ⟨rfl, ((S.sel 1 [] rfl).weaken hI)⟩⟩
 rw [if_neg cc31] at H
 refine cF rfl (eqF cc31) <| sk <| sq <| FW.anew [(1, pt b1)] ⟨rfl, trivial⟩ fun σ => rg <| u rfl (x_fa tf27_0 rfl) <| u rfl (x_ld tsc3 rfl (S.load 0 rfl 0 rfl)) <| u rfl (x_bin rfl rfl rfl) <| mv (.bool (x0.Kind == 0)) rfl ?_
 by_cases cc33 : x0.Kind = 0
 ·rw [if_pos cc33] at H
  refine gn rfl rfl rfl (eqT cc33) <| gn rfl rfl rfl (eqT cc33) <| gn rfl rfl rfl (eqT cc33) <| u rfl (x_pickTV (v := .bool true) rfl (eqT cc33) rfl) <| mv (.bool true) rfl <| rt ?_
  obtain rfl := si H
  exact ⟨_, ⟨_, rfl, rfl⟩, ⟨rfl, ((S.sel 1 [] rfl).weaken hI)⟩⟩
 rw [if_neg cc33] at H
 refine gu rfl rfl rfl (eqF cc33) (x_fa tf27_0 rfl) <| gu rfl rfl rfl (eqF cc33) (x_ld tsc3 rfl (S.load 0 rfl 0 rfl)) <| gu rfl rfl rfl (eqF cc33) (x_bin rfl rfl rfl) <| u rfl (x_pickFV (v := .bool (x0.Kind == 5)) rfl (eqF cc33) rfl) <| mv (.bool (x0.Kind == 5)) rfl <| rt ?_
 obtain rfl := si H
 exact ⟨_, ⟨_, rfl, rfl⟩, ⟨rfl, ((S.sel 1 [] rfl).weaken hI)⟩⟩
def speculumref04_Next.f (k : Nat) (x0 : Int) : Option Bool := (if (i64 ((i64 x0).tdiv 16777216)) = 0 then (some false) else (if (i64 ((i64 x0).tdiv 16777216)) = 127 then (some false) else (some (decide ((i64 ((i64 x0).tdiv 16777216)) < 224)))))
abbrev speculumref04_Next.C (k : Nat) : Prop := ∀ {x0 : Int} {F : List It} {I : IMem} {w : World} {r : Bool}, Glob I → Own I w (F) → speculumref04_Next.f k x0 = some r →
    Calls Tryz.prog 47 #[.int .u32 x0] w fun e w' => ∃ v, e = .returned v ∧ v = .bool r ∧ Own I w' (F)
theorem speculumref04_Next.ok (k : Nat) : speculumref04_Next.C k := by
 intro x0 F I w r hG S H
 have hI := IMem.le.refl I
 rw [speculumref04_Next.f] at H
 refine Calls.ofFW (args := [.int .u32 x0]) Tryz.func47 rfl rfl <| sr <| mv (.bool false) rfl <| sr <| mv (.int .u32 x0) rfl <| u rfl (x_conv tint3 tint_23 rfl) <| u rfl (x_quo rfl rfl (by decide)) <| mv (.int .i64 (i64 ((i64 x0).tdiv 16777216))) rfl <| sr <| mv (.int .i64 (i64 ((i64 x0).tdiv 16777216))) rfl <| u rfl (x_bin rfl rfl rfl) <| mv (.bool ((i64 ((i64 x0).tdiv 16777216)) != 0)) rfl ?_
 by_cases cc1 : (i64 ((i64 x0).tdiv 16777216)) = 0
 ·rw [if_pos cc1] at H
  refine gn rfl rfl rfl (neF cc1) <| gn rfl rfl rfl (neF cc1) <| u rfl (x_pickFV (v := .bool false) rfl (neF cc1) rfl) <| mv (.bool false) rfl <| gn rfl rfl rfl rfl <| gn rfl rfl rfl rfl <| u rfl (x_pickFV (v := .bool false) rfl rfl rfl) <| mv (.bool false) rfl <| rt ?_
  obtain rfl := si H
  exact ⟨_, ⟨_, rfl, rfl⟩, ⟨rfl, (S.weaken hI)⟩⟩
 rw [if_neg cc1] at H
 refine gu rfl rfl rfl (neT cc1) (x_movV (v := .int .i64 (i64 ((i64 x0).tdiv 16777216))) rfl) <| gu rfl rfl rfl (neT cc1) (x_bin rfl rfl rfl) <| u rfl (x_pickTV (v := .bool ((i64 ((i64 x0).tdiv 16777216)) != 127)) rfl (neT cc1) rfl) <| mv (.bool ((i64 ((i64 x0).tdiv 16777216)) != 127)) rfl ?_
 by_cases cc2 : (i64 ((i64 x0).tdiv 16777216)) = 127
 ·rw [if_pos cc2] at H
  refine gn rfl rfl rfl (neF cc2) <| gn rfl rfl rfl (neF cc2) <| u rfl (x_pickFV (v := .bool false) rfl (neF cc2) rfl) <| mv (.bool false) rfl <| rt ?_
  obtain rfl := si H
  exact ⟨_, ⟨_, rfl, rfl⟩, ⟨rfl, (S.weaken hI)⟩⟩
 rw [if_neg cc2] at H
 refine gu rfl rfl rfl (neT cc2) (x_movV (v := .int .i64 (i64 ((i64 x0).tdiv 16777216))) rfl) <| gu rfl rfl rfl (neT cc2) (x_bin rfl rfl rfl) <| u rfl (x_pickTV (v := .bool (decide ((i64 ((i64 x0).tdiv 16777216)) < 224))) rfl (neT cc2) rfl) <| mv (.bool (decide ((i64 ((i64 x0).tdiv 16777216)) < 224))) rfl <| rt ?_
 obtain rfl := si H
 exact ⟨_, ⟨_, rfl, rfl⟩, ⟨rfl, (S.weaken hI)⟩⟩
def speculumref14_RightDeed.f (k : Nat) (x0 : T_api_Deed) : Option Bool := (if x0.Kind = 1 then (if x0.Num ≥ 0 then (some (decide (x0.Num ≤ 4294967295))) else (some false)) else (if x0.Kind = 2 then (if x0.Num ≥ (-1) then (some (decide (x0.Num ≤ 4294967295))) else (some false)) else (if x0.Kind = 3 then (if x0.Num ≥ 1 then (some (decide (x0.Num ≤ 8))) else (some false)) else (if x0.Kind = 6 then ((speculumref04_Next.f k x0.Addr).bind fun y9 => (some y9)) else (if x0.Kind = 4 then (some true) else (if x0.Kind = 5 then (some true) else (some (x0.Kind == 7))))))))
abbrev speculumref14_RightDeed.C (k : Nat) : Prop := ∀ {x0 : T_api_Deed} {F : List It} {I : IMem} {w : World} {r : Bool}, Glob I → Own I w (F) → speculumref14_RightDeed.f k x0 = some r →
    Calls Tryz.prog 17 #[.agg #[.int .i64 x0.Kind, .int .i64 x0.Num, .int .u32 x0.Addr]] w fun e w' => ∃ v, e = .returned v ∧ v = .bool r ∧ Own I w' (F)
theorem speculumref14_RightDeed.ok (k : Nat) : speculumref14_RightDeed.C k := by
 intro x0 F I w r hG S H
 have hI := IMem.le.refl I
 rw [speculumref14_RightDeed.f] at H
 refine Calls.ofFW (args := [.agg #[.int .i64 x0.Kind, .int .i64 x0.Num, .int .u32 x0.Addr]]) Tryz.func17 rfl rfl <| sr <| g rfl (o_boxA rfl S fun b1 w S => mv (.bool false) rfl (sq (sq (rg (u rfl (x_fa tf29_0 rfl) (u rfl (x_ld tsc3 rfl (S.load 0 rfl 0 rfl)) (bk (sq (rg (u rfl (x_bin rfl rfl rfl) (mv (.bool (x0.Kind == 1)) rfl ?_)))))))))))
 by_cases cc2 : x0.Kind = 1
 ·rw [if_pos cc2] at H
  refine cT rfl (eqT cc2) <| sr <| u rfl (x_fa tf29_1 rfl) <| u rfl (x_ld tsc3 rfl (S.load 0 rfl 1 rfl)) <| u rfl (x_bin rfl rfl rfl) <| mv (.bool (decide (x0.Num ≥ 0))) rfl ?_
  by_cases cc3 : x0.Num ≥ 0
  ·rw [if_pos cc3] at H
   refine gu rfl rfl rfl (deT cc3) (x_fa tf29_1 rfl) <| gu rfl rfl rfl (deT cc3) (x_ld tsc3 rfl (S.load 0 rfl 1 rfl)) <| gu rfl rfl rfl (deT cc3) (x_bin rfl rfl rfl) <| u rfl (x_pickTV (v := .bool (decide (x0.Num ≤ 4294967295))) rfl (deT cc3) rfl) <| mv (.bool (decide (x0.Num ≤ 4294967295))) rfl <| rt ?_
   obtain rfl := si H
   exact ⟨_, ⟨_, rfl, rfl⟩, ⟨rfl, ((S.sel 1 [] rfl).weaken hI)⟩⟩
  rw [if_neg cc3] at H
  refine gn rfl rfl rfl (deF cc3) <| gn rfl rfl rfl (deF cc3) <| gn rfl rfl rfl (deF cc3) <| u rfl (x_pickFV (v := .bool false) rfl (deF cc3) rfl) <| mv (.bool false) rfl <| rt ?_
  obtain rfl := si H
  exact ⟨_, ⟨_, rfl, rfl⟩, ⟨rfl, ((S.sel 1 [] rfl).weaken hI)⟩⟩
 rw [if_neg cc2] at H
 refine cF rfl (eqF cc2) <| sr <| u rfl (x_bin rfl rfl rfl) <| mv (.bool (x0.Kind == 2)) rfl ?_
 by_cases cc4 : x0.Kind = 2
 ·rw [if_pos cc4] at H
  refine cT rfl (eqT cc4) <| sq <| FW.anew [(1, pt b1)] ⟨rfl, trivial⟩ fun σ => rg <| u rfl (x_fa tf29_1 rfl) <| u rfl (x_ld tsc3 rfl (S.load 0 rfl 1 rfl)) <| u rfl (x_bin rfl rfl rfl) <| mv (.bool (decide (x0.Num ≥ (-1)))) rfl ?_
  by_cases cc5 : x0.Num ≥ (-1)
  ·rw [if_pos cc5] at H
   refine gu rfl rfl rfl (deT cc5) (x_fa tf29_1 rfl) <| gu rfl rfl rfl (deT cc5) (x_ld tsc3 rfl (S.load 0 rfl 1 rfl)) <| gu rfl rfl rfl (deT cc5) (x_bin rfl rfl rfl) <| u rfl (x_pickTV (v := .bool (decide (x0.Num ≤ 4294967295))) rfl (deT cc5) rfl) <| mv (.bool (decide (x0.Num ≤ 4294967295))) rfl <| rt ?_
   obtain rfl := si H
   exact ⟨_, ⟨_, rfl, rfl⟩, ⟨rfl, ((S.sel 1 [] rfl).weaken hI)⟩⟩
  rw [if_neg cc5] at H
  refine gn rfl rfl rfl (deF cc5) <| gn rfl rfl rfl (deF cc5) <| gn rfl rfl rfl (deF cc5) <| u rfl (x_pickFV (v := .bool false) rfl (deF cc5) rfl) <| mv (.bool false) rfl <| rt ?_
  obtain rfl := si H
  exact ⟨_, ⟨_, rfl, rfl⟩, ⟨rfl, ((S.sel 1 [] rfl).weaken hI)⟩⟩
 rw [if_neg cc4] at H
 refine cF rfl (eqF cc4) <| sq <| FW.anew [(1, pt b1), (4, .int .i64 x0.Kind)] ⟨rfl, rfl, trivial⟩ fun σ => rg <| u rfl (x_bin rfl rfl rfl) <| mv (.bool (x0.Kind == 3)) rfl ?_
 by_cases cc6 : x0.Kind = 3
 ·rw [if_pos cc6] at H
  refine cT rfl (eqT cc6) <| sr <| u rfl (x_fa tf29_1 rfl) <| u rfl (x_ld tsc3 rfl (S.load 0 rfl 1 rfl)) <| u rfl (x_bin rfl rfl rfl) <| mv (.bool (decide (x0.Num ≥ 1))) rfl ?_
  by_cases cc7 : x0.Num ≥ 1
  ·rw [if_pos cc7] at H
   refine gu rfl rfl rfl (deT cc7) (x_fa tf29_1 rfl) <| gu rfl rfl rfl (deT cc7) (x_ld tsc3 rfl (S.load 0 rfl 1 rfl)) <| gu rfl rfl rfl (deT cc7) (x_bin rfl rfl rfl) <| u rfl (x_pickTV (v := .bool (decide (x0.Num ≤ 8))) rfl (deT cc7) rfl) <| mv (.bool (decide (x0.Num ≤ 8))) rfl <| rt ?_
   obtain rfl := si H
   exact ⟨_, ⟨_, rfl, rfl⟩, ⟨rfl, ((S.sel 1 [] rfl).weaken hI)⟩⟩
  rw [if_neg cc7] at H
  refine gn rfl rfl rfl (deF cc7) <| gn rfl rfl rfl (deF cc7) <| gn rfl rfl rfl (deF cc7) <| u rfl (x_pickFV (v := .bool false) rfl (deF cc7) rfl) <| mv (.bool false) rfl <| rt ?_
  obtain rfl := si H
  exact ⟨_, ⟨_, rfl, rfl⟩, ⟨rfl, ((S.sel 1 [] rfl).weaken hI)⟩⟩
 rw [if_neg cc6] at H
 refine cF rfl (eqF cc6) <| sr <| u rfl (x_bin rfl rfl rfl) <| mv (.bool (x0.Kind == 6)) rfl ?_
 by_cases cc8 : x0.Kind = 6
 ·rw [if_pos cc8] at H
  refine cT rfl (eqT cc8) <| sr <| u rfl (x_fa tf29_2 rfl) <| u rfl (x_ld tsc23 rfl (S.load 0 rfl 2 rfl)) ?_
  obtain ⟨y9, hy10, H⟩ := obx H
  refine g rfl (cl fb47 (@speculumref04_Next.ok k x0.Addr _ _ _ _ hG S hy10) rfl ?_)
  rintro _ w ⟨rfl, S⟩
  refine mv (.bool y9) rfl <| rt ?_
  obtain rfl := si H
  exact ⟨_, ⟨_, rfl, rfl⟩, ⟨rfl, ((S.sel 1 [] rfl).weaken hI)⟩⟩
 rw [if_neg cc8] at H
 refine cF rfl (eqF cc8) <| sk <| sr <| u rfl (x_fa tf29_0 rfl) <| u rfl (x_ld tsc3 rfl (S.load 0 rfl 0 rfl)) <| u rfl (x_bin rfl rfl rfl) <| mv (.bool (x0.Kind == 4)) rfl ?_
 by_cases cc11 : x0.Kind = 4
 ·rw [if_pos cc11] at H
  refine gn rfl rfl rfl (eqT cc11) <| gn rfl rfl rfl (eqT cc11) <| gn rfl rfl rfl (eqT cc11) <| u rfl (x_pickTV (v := .bool true) rfl (eqT cc11) rfl) <| mv (.bool true) rfl <| gn rfl rfl rfl rfl <| gn rfl rfl rfl rfl <| gn rfl rfl rfl rfl <| u rfl (x_pickTV (v := .bool true) rfl rfl rfl) <| mv (.bool true) rfl <| rt ?_
  obtain rfl := si H
  exact ⟨_, ⟨_, rfl, rfl⟩, ⟨rfl, ((S.sel 1 [] rfl).weaken hI)⟩⟩
 rw [if_neg cc11] at H
 refine gu rfl rfl rfl (eqF cc11) (x_fa tf29_0 rfl) <| gu rfl rfl rfl (eqF cc11) (x_ld tsc3 rfl (S.load 0 rfl 0 rfl)) <| gu rfl rfl rfl (eqF cc11) (x_bin rfl rfl rfl) <| u rfl (x_pickFV (v := .bool (x0.Kind == 5)) rfl (eqF cc11) rfl) <| mv (.bool (x0.Kind == 5)) rfl ?_
 by_cases cc12 : x0.Kind = 5
 ·rw [if_pos cc12] at H
  refine gn rfl rfl rfl (eqT cc12) <| gn rfl rfl rfl (eqT cc12) <| gn rfl rfl rfl (eqT cc12) <| u rfl (x_pickTV (v := .bool true) rfl (eqT cc12) rfl) <| mv (.bool true) rfl <| rt ?_
  obtain rfl := si H
  exact ⟨_, ⟨_, rfl, rfl⟩, ⟨rfl, ((S.sel 1 [] rfl).weaken hI)⟩⟩
 rw [if_neg cc12] at H
 refine gu rfl rfl rfl (eqF cc12) (x_fa tf29_0 rfl) <| gu rfl rfl rfl (eqF cc12) (x_ld tsc3 rfl (S.load 0 rfl 0 rfl)) <| gu rfl rfl rfl (eqF cc12) (x_bin rfl rfl rfl) <| u rfl (x_pickFV (v := .bool (x0.Kind == 7)) rfl (eqF cc12) rfl) <| mv (.bool (x0.Kind == 7)) rfl <| rt ?_
 obtain rfl := si H
 exact ⟨_, ⟨_, rfl, rfl⟩, ⟨rfl, ((S.sel 1 [] rfl).weaken hI)⟩⟩
def speculumref14_Right.l1 : Nat → T_api_Rule → Int → Option (Sum Bool Unit)
  | 0, _, _ => none
  | k + 1, y12, n25 => (if n25 < (y12.Conds.length : Int) then ((lat y12.Conds n25).bind fun y34 => ((speculumref14_RightCond.f k y34).bind fun y41 => (if y41 = true then (speculumref14_Right.l1 k y12 (i64 (n25 + 1))) else (some (.inl false))))) else (some (.inr ())))
def speculumref14_Right.l2 : Nat → T_api_Rule → Int → Option (Sum Bool Unit)
  | 0, _, _ => none
  | k + 1, y12, n45 => (if n45 < (y12.Deeds.length : Int) then ((lat y12.Deeds n45).bind fun y54 => ((speculumref14_RightDeed.f k y54).bind fun y61 => (if y61 = true then (speculumref14_Right.l2 k y12 (i64 (n45 + 1))) else (some (.inl false))))) else (some (.inr ())))
def speculumref14_Right.l0 : Nat → (List T_api_Rule) → Int → Option (Sum Bool Unit)
  | 0, _, _ => none
  | k + 1, x0, n3 => (if n3 < (x0.length : Int) then ((lat x0 n3).bind fun y12 => (if (y12.Conds.length : Int) > 16 then (some (.inl false)) else (if (y12.Deeds.length : Int) > 16 then (some (.inl false)) else (if y12.Verdict < 1 then (some (.inl false)) else (if y12.Verdict > 3 then (some (.inl false)) else (((speculumref14_Right.l1 k y12 0) : Option (Sum Bool Unit)).bind fun o => match o with | .inl r => some (.inl r) | .inr _ => (((speculumref14_Right.l2 k y12 0) : Option (Sum Bool Unit)).bind fun o => match o with | .inl r => some (.inl r) | .inr _ => (speculumref14_Right.l0 k x0 (i64 (n3 + 1)))))))))) else (some (.inr ())))
def speculumref14_Right.f (k : Nat) (x0 : (List T_api_Rule)) : Option Bool := (if (x0.length : Int) > 16 then (some false) else (((speculumref14_Right.l0 k x0 0) : Option (Sum Bool Unit)).bind fun o => match o with | .inl r => some r | .inr _ => (some true)))
abbrev speculumref14_Right.C (k : Nat) : Prop := ∀ {x0 : (List T_api_Rule)} {vx0 : Value} {F : List It} {I : IMem} {w : World} {r : Bool}, Glob I → Own I w (F) → SlR R_api_Rule I vx0 x0 → speculumref14_Right.f k x0 = some r →
    Calls Tryz.prog 13 #[vx0] w fun e w' => ∃ v, e = .returned v ∧ v = .bool r ∧ Own I w' (F)
theorem speculumref14_Right.ok (k : Nat) : speculumref14_Right.C k := by
 intro x0 vx0 F I w r hG S hx0 H
 have hI := IMem.le.refl I
 rw [speculumref14_Right.f] at H
 refine Calls.ofFW (args := [vx0]) Tryz.func13 rfl rfl <| sr <| mv (.bool false) rfl <| sq <| sr <| mv vx0 rfl <| u rfl (x_lenD (r := R_api_Rule) tsl22 hx0) <| u rfl (x_bin rfl rfl rfl) ?_
 by_cases cc1 : (x0.length : Int) > 16
 ·rw [if_pos cc1] at H
  refine cT rfl (deT cc1) <| sr <| mv (.bool false) rfl <| rt ?_
  obtain rfl := si H
  exact ⟨_, ⟨_, rfl, rfl⟩, ⟨rfl, (S.weaken hI)⟩⟩
 rw [if_neg cc1] at H
 refine cF rfl (deF cc1) <| sk <| sq <| sr <| mv (.int .i64 0) rfl <| bk ?_
 obtain ⟨o6, hl8, HO7⟩ := obx H
 refine FW.cutX 0 (fun σ w => ∃ (J9 : IMem), (.inr ()) = o6 ∧ Has σ [] ∧ I.le J9 ∧ Own J9 w (F)) ?_ ?_
 ·refine FW.loop k (FL.ind (fun q σ w => ∃ (n3 : Int) (J2 : IMem), speculumref14_Right.l0 q x0 n3 = some o6 ∧ q ≤ k ∧ Has σ [(0, vx0), (3, .int .i64 n3)] ∧ I.le J2 ∧ Own J2 w (F)) ?_ ?_ k k _ _ (Nat.le_refl _) ⟨0, I, hl8, Nat.le_refl _, ⟨rfl, rfl, trivial⟩, (IMem.le.refl _), S⟩)
  ·rintro σ w ⟨n3, J2, H, _⟩; cases H
  rintro q4 σ w ⟨n3, J2, H, hq10, hσ, hL5, S⟩
  have hx0 := hx0.mono hL5
  have hI := hI.trans hL5
  have hG := hG.mono hL5
  rw [hσ.eq]
  rw [speculumref14_Right.l0] at H
  refine sq <| sr <| mv (.int .i64 n3) rfl <| mv vx0 rfl <| u rfl (x_lenD (r := R_api_Rule) tsl22 hx0) <| u rfl (x_bin rfl rfl rfl) ?_
  by_cases cc11 : n3 < (x0.length : Int)
  ·rw [if_pos cc11] at H
   refine cT rfl (deT cc11) <| sk <| sq <| bk <| sr <| mv vx0 rfl <| mv (.int .i64 n3) rfl ?_
   obtain ⟨y12, h13, H⟩ := obx H
   refine g rfl (o_ia (r := R_api_Rule) tsl22 rfl rfl hx0 rfl h13 fun b14 o15 cs16 hr17 hc18 => ?_)
   obtain ⟨y12v0, y12v1, rfl, y12h0, y12h1⟩ := hr17
   refine u rfl (x_ldA tag51 rfl (S.loadI hc18) rfl) <| g rfl (o_all tz51 S fun b19 w S => g rfl (o_stA tag51 S 0 rfl rfl rfl rfl (c1 y12h0.one (c1 y12h1.one (c1 rfl c0))) rfl fun w S => sq (sq (FW.anew [(0, vx0), (3, .int .i64 n3), (4, pt b19)] ⟨rfl, rfl, rfl, trivial⟩ fun σ => rg (u rfl (x_fa tf51_0 rfl) (u rfl (x_ld tsc48 rfl (S.load 0 rfl 0 rfl)) (u rfl (x_lenD (r := R_api_Cond) tsl48 y12h0) (u rfl (x_bin rfl rfl rfl) (mv (.bool (decide ((y12.Conds.length : Int) > 16))) rfl ?_)))))))))
   by_cases cc20 : (y12.Conds.length : Int) > 16
   ·rw [if_pos cc20] at H
    refine gn rfl rfl rfl (deT cc20) <| gn rfl rfl rfl (deT cc20) <| gn rfl rfl rfl (deT cc20) <| gn rfl rfl rfl (deT cc20) <| u rfl (x_pickTV (v := .bool true) rfl (deT cc20) rfl) <| mv (.bool true) rfl <| gn rfl rfl rfl rfl <| gn rfl rfl rfl rfl <| gn rfl rfl rfl rfl <| u rfl (x_pickTV (v := .bool true) rfl rfl rfl) <| mv (.bool true) rfl <| gn rfl rfl rfl rfl <| gn rfl rfl rfl rfl <| gn rfl rfl rfl rfl <| u rfl (x_pickTV (v := .bool true) rfl rfl rfl) <| cT rfl rfl <| sq <| FW.anew [] trivial fun σ => rg <| mv (.bool false) rfl <| rt ?_
    obtain rfl := si H
    obtain rfl := si HO7
    exact ⟨_, ⟨_, rfl, rfl⟩, ⟨rfl, ((S.sel 1 [] rfl).weaken hI)⟩⟩
   rw [if_neg cc20] at H
   refine gu rfl rfl rfl (deF cc20) (x_fa tf51_1 rfl) <| gu rfl rfl rfl (deF cc20) (x_ld tsc49 rfl (S.load 0 rfl 1 rfl)) <| gu rfl rfl rfl (deF cc20) (x_lenD (r := R_api_Deed) tsl49 y12h1) <| gu rfl rfl rfl (deF cc20) (x_bin rfl rfl rfl) <| u rfl (x_pickFV (v := .bool (decide ((y12.Deeds.length : Int) > 16))) rfl (deF cc20) rfl) <| mv (.bool (decide ((y12.Deeds.length : Int) > 16))) rfl ?_
   by_cases cc21 : (y12.Deeds.length : Int) > 16
   ·rw [if_pos cc21] at H
    refine gn rfl rfl rfl (deT cc21) <| gn rfl rfl rfl (deT cc21) <| gn rfl rfl rfl (deT cc21) <| u rfl (x_pickTV (v := .bool true) rfl (deT cc21) rfl) <| mv (.bool true) rfl <| gn rfl rfl rfl rfl <| gn rfl rfl rfl rfl <| gn rfl rfl rfl rfl <| u rfl (x_pickTV (v := .bool true) rfl rfl rfl) <| cT rfl rfl <| sq <| FW.anew [] trivial fun σ => rg <| mv (.bool false) rfl <| rt ?_
    obtain rfl := si H
    obtain rfl := si HO7
    exact ⟨_, ⟨_, rfl, rfl⟩, ⟨rfl, ((S.sel 1 [] rfl).weaken hI)⟩⟩
   rw [if_neg cc21] at H
   refine gu rfl rfl rfl (deF cc21) (x_fa tf51_2 rfl) <| gu rfl rfl rfl (deF cc21) (x_ld tsc3 rfl (S.load 0 rfl 2 rfl)) <| gu rfl rfl rfl (deF cc21) (x_bin rfl rfl rfl) <| u rfl (x_pickFV (v := .bool (decide (y12.Verdict < 1))) rfl (deF cc21) rfl) <| mv (.bool (decide (y12.Verdict < 1))) rfl ?_
   by_cases cc22 : y12.Verdict < 1
   ·rw [if_pos cc22] at H
    refine gn rfl rfl rfl (deT cc22) <| gn rfl rfl rfl (deT cc22) <| gn rfl rfl rfl (deT cc22) <| u rfl (x_pickTV (v := .bool true) rfl (deT cc22) rfl) <| cT rfl rfl <| sq <| FW.anew [] trivial fun σ => rg <| mv (.bool false) rfl <| rt ?_
    obtain rfl := si H
    obtain rfl := si HO7
    exact ⟨_, ⟨_, rfl, rfl⟩, ⟨rfl, ((S.sel 1 [] rfl).weaken hI)⟩⟩
   rw [if_neg cc22] at H
   refine gu rfl rfl rfl (deF cc22) (x_fa tf51_2 rfl) <| gu rfl rfl rfl (deF cc22) (x_ld tsc3 rfl (S.load 0 rfl 2 rfl)) <| gu rfl rfl rfl (deF cc22) (x_bin rfl rfl rfl) <| u rfl (x_pickFV (v := .bool (decide (y12.Verdict > 3))) rfl (deF cc22) rfl) ?_
   by_cases cc23 : y12.Verdict > 3
   ·rw [if_pos cc23] at H
    refine cT rfl (deT cc23) <| sq <| FW.anew [] trivial fun σ => rg <| mv (.bool false) rfl <| rt ?_
    obtain rfl := si H
    obtain rfl := si HO7
    exact ⟨_, ⟨_, rfl, rfl⟩, ⟨rfl, ((S.sel 1 [] rfl).weaken hI)⟩⟩
   rw [if_neg cc23] at H
   refine cF rfl (deF cc23) <| sk <| sq <| sq <| FW.anew [(0, vx0), (3, .int .i64 n3), (4, pt b19)] ⟨rfl, rfl, rfl, trivial⟩ fun σ => rg <| mv (.int .i64 0) rfl <| bk ?_
   obtain ⟨o28, hl30, HO29⟩ := obx H
   refine FW.cutX 2 (fun σ w => ∃ (J31 : IMem), (.inr ()) = o28 ∧ Has σ [(0, vx0), (3, .int .i64 n3), (4, pt b19)] ∧ J2.le J31 ∧ Own J31 w (.bk b19 51 [y12v0, y12v1, .int .i64 y12.Verdict] :: F)) ?_ ?_
   ·refine FW.loop q4 (FL.ind (fun q σ w => ∃ (n25 : Int) (J24 : IMem), speculumref14_Right.l1 q y12 n25 = some o28 ∧ q ≤ q4 ∧ Has σ [(0, vx0), (3, .int .i64 n3), (4, pt b19), (5, .int .i64 n25)] ∧ J2.le J24 ∧ Own J24 w (.bk b19 51 [y12v0, y12v1, .int .i64 y12.Verdict] :: F)) ?_ ?_ q4 q4 _ _ (Nat.le_refl _) ⟨0, J2, hl30, Nat.le_refl _, ⟨rfl, rfl, rfl, rfl, trivial⟩, (IMem.le.refl _), S⟩)
    ·rintro σ w ⟨n25, J24, H, _⟩; cases H
    rintro q26 σ w ⟨n25, J24, H, hq32, hσ, hL27, S⟩
    have y12h0 := y12h0.mono hL27
    have hI := hI.trans hL27
    have hG := hG.mono hL27
    rw [hσ.eq]
    rw [speculumref14_Right.l1] at H
    refine sq <| sr <| mv (.int .i64 n25) rfl <| u rfl (x_fa tf51_0 rfl) <| u rfl (x_ld tsc48 rfl (S.load 0 rfl 0 rfl)) <| u rfl (x_lenD (r := R_api_Cond) tsl48 y12h0) <| u rfl (x_bin rfl rfl rfl) ?_
    by_cases cc33 : n25 < (y12.Conds.length : Int)
    ·rw [if_pos cc33] at H
     refine cT rfl (deT cc33) <| sk <| sq <| bk <| sr <| u rfl (x_fa tf51_0 rfl) <| u rfl (x_ld tsc48 rfl (S.load 0 rfl 0 rfl)) <| mv (.int .i64 n25) rfl ?_
     obtain ⟨y34, h35, H⟩ := obx H
     refine g rfl (o_ia (r := R_api_Cond) tsl48 rfl rfl y12h0 rfl h35 fun b36 o37 cs38 hr39 hc40 => ?_)
     obtain ⟨y34v5, y34v6, rfl, y34h5, y34h6⟩ := hr39
     refine u rfl (x_ldA tag27 rfl (S.loadI hc40) rfl) ?_
     obtain ⟨y41, hy42, H⟩ := obx H
     refine g rfl (cl fb15 (@speculumref14_RightCond.ok q26 y34 _ _ _ _ _ _ hG S y34h5 y34h6 hy42) rfl ?_)
     rintro _ w ⟨rfl, S⟩
     refine u rfl (x_not' rfl) ?_
     by_cases cc43 : y41 = true
     ·rw [if_pos cc43] at H
      refine cF rfl (noF cc43) <| sk <| FW.anew [(0, vx0), (3, .int .i64 n3), (4, pt b19), (5, .int .i64 n25)] ⟨rfl, rfl, rfl, rfl, trivial⟩ fun σ => rg <| mv (.int .i64 n25) rfl <| u rfl (x_bin rfl rfl rfl) <| mv (.int .i64 (i64 (n25 + 1))) rfl ⟨q26, Nat.le_refl _, (i64 (n25 + 1)), J24, H, (Nat.le_of_succ_le hq32), ⟨rfl, rfl, rfl, rfl, trivial⟩, hL27, S⟩
     rw [if_neg cc43] at H
     refine cT rfl (noT (vaF cc43)) <| sq <| FW.anew [] trivial fun σ => rg <| mv (.bool false) rfl <| rt ?_
     obtain rfl := si H
     obtain rfl := si HO29
     obtain rfl := si HO7
     exact ⟨_, ⟨_, rfl, rfl⟩, ⟨rfl, ((S.sel 1 [] rfl).weaken hI)⟩⟩
    rw [if_neg cc33] at H
    refine cF rfl (deF cc33) <| ex ⟨J24, (si H), ⟨rfl, rfl, rfl, trivial⟩, hL27, S⟩
   rintro σ w ⟨J31, ho, hσ, hL27, S⟩
   subst ho
   have H := HO29
   try dsimp only at H
   have y12h1 := y12h1.mono hL27
   have hI := hI.trans hL27
   have hL5 := hL5.trans hL27
   have hG := hG.mono hL27
   rw [hσ.eq]
   refine sr <| mv (.int .i64 0) rfl <| bk ?_
   obtain ⟨o48, hl50, HO49⟩ := obx H
   refine FW.cutX 4 (fun σ w => ∃ (J51 : IMem), (.inr ()) = o48 ∧ Has σ [(0, vx0), (3, .int .i64 n3)] ∧ J31.le J51 ∧ Own J51 w (.bk b19 51 [y12v0, y12v1, .int .i64 y12.Verdict] :: F)) ?_ ?_
   ·refine FW.loop q4 (FL.ind (fun q σ w => ∃ (n45 : Int) (J44 : IMem), speculumref14_Right.l2 q y12 n45 = some o48 ∧ q ≤ q4 ∧ Has σ [(0, vx0), (3, .int .i64 n3), (4, pt b19), (6, .int .i64 n45)] ∧ J31.le J44 ∧ Own J44 w (.bk b19 51 [y12v0, y12v1, .int .i64 y12.Verdict] :: F)) ?_ ?_ q4 q4 _ _ (Nat.le_refl _) ⟨0, J31, hl50, Nat.le_refl _, ⟨rfl, rfl, rfl, rfl, trivial⟩, (IMem.le.refl _), S⟩)
    ·rintro σ w ⟨n45, J44, H, _⟩; cases H
    rintro q46 σ w ⟨n45, J44, H, hq52, hσ, hL47, S⟩
    have y12h1 := y12h1.mono hL47
    have hI := hI.trans hL47
    have hG := hG.mono hL47
    rw [hσ.eq]
    rw [speculumref14_Right.l2] at H
    refine sq <| sr <| mv (.int .i64 n45) rfl <| u rfl (x_fa tf51_1 rfl) <| u rfl (x_ld tsc49 rfl (S.load 0 rfl 1 rfl)) <| u rfl (x_lenD (r := R_api_Deed) tsl49 y12h1) <| u rfl (x_bin rfl rfl rfl) ?_
    by_cases cc53 : n45 < (y12.Deeds.length : Int)
    ·rw [if_pos cc53] at H
     refine cT rfl (deT cc53) <| sk <| sq <| bk <| sr <| u rfl (x_fa tf51_1 rfl) <| u rfl (x_ld tsc49 rfl (S.load 0 rfl 1 rfl)) <| mv (.int .i64 n45) rfl ?_
     obtain ⟨y54, h55, H⟩ := obx H
     refine g rfl (o_ia (r := R_api_Deed) tsl49 rfl rfl y12h1 rfl h55 fun b56 o57 cs58 hr59 hc60 => ?_)
     obtain rfl := hr59
     refine u rfl (x_ldA tag29 rfl (S.loadI hc60) rfl) ?_
     obtain ⟨y61, hy62, H⟩ := obx H
     refine g rfl (cl fb17 (@speculumref14_RightDeed.ok q46 y54 _ _ _ _ hG S hy62) rfl ?_)
     rintro _ w ⟨rfl, S⟩
     refine u rfl (x_not' rfl) ?_
     by_cases cc63 : y61 = true
     ·rw [if_pos cc63] at H
      refine cF rfl (noF cc63) <| sk <| FW.anew [(0, vx0), (3, .int .i64 n3), (4, pt b19), (6, .int .i64 n45)] ⟨rfl, rfl, rfl, rfl, trivial⟩ fun σ => rg <| mv (.int .i64 n45) rfl <| u rfl (x_bin rfl rfl rfl) <| mv (.int .i64 (i64 (n45 + 1))) rfl ⟨q46, Nat.le_refl _, (i64 (n45 + 1)), J44, H, (Nat.le_of_succ_le hq52), ⟨rfl, rfl, rfl, rfl, trivial⟩, hL47, S⟩
     rw [if_neg cc63] at H
     refine cT rfl (noT (vaF cc63)) <| sq <| FW.anew [] trivial fun σ => rg <| mv (.bool false) rfl <| rt ?_
     obtain rfl := si H
     obtain rfl := si HO49
     obtain rfl := si HO7
     exact ⟨_, ⟨_, rfl, rfl⟩, ⟨rfl, ((S.sel 1 [] rfl).weaken hI)⟩⟩
    rw [if_neg cc53] at H
    refine cF rfl (deF cc53) <| ex ⟨J44, (si H), ⟨rfl, rfl, trivial⟩, hL47, S⟩
   rintro σ w ⟨J51, ho, hσ, hL47, S⟩
   subst ho
   have H := HO49
   try dsimp only at H
   have hL5 := hL5.trans hL47
   rw [hσ.eq]
   refine rg <| mv (.int .i64 n3) rfl <| u rfl (x_bin rfl rfl rfl) <| mv (.int .i64 (i64 (n3 + 1))) rfl ⟨q4, Nat.le_refl _, (i64 (n3 + 1)), J51, H, (Nat.le_of_succ_le hq10), ⟨rfl, rfl, trivial⟩, hL5, (S.sel 1 [] rfl)⟩
  rw [if_neg cc11] at H
  refine cF rfl (deF cc11) <| ex ⟨J2, (si H), trivial, hL5, S⟩
 rintro σ w ⟨J9, ho, hσ, hL5, S⟩
 subst ho
 have H := HO7
 try dsimp only at H
 have hI := hI.trans hL5
 rw [hσ.eq]
 refine sr <| mv (.bool true) rfl <| rt ?_
 obtain rfl := si H
 exact ⟨_, ⟨_, rfl, rfl⟩, ⟨rfl, (S.weaken hI)⟩⟩
end Go.Proofs.YtafnenafbognkaaGreatDoor
namespace Go.Proofs.YtafnenafbognkaaGreatDoor
open Sp
set_option maxRecDepth 100000
set_option maxHeartbeats 4000000
def speculumlaw14_PolicyRight.f (k : Nat) (x0 : (List T_api_Rule)) (x1 : T_api_Cond) (x2 : T_api_Deed) : Option Bool := ((speculumlaw14_Few.f k x0).bind fun y3 => (if y3 = true then ((speculumlaw14_FewCond.f k x1).bind fun y6 => (if y6 = true then ((policy_Right.f k x0).bind fun y9 => ((speculumref14_Right.f k x0).bind fun y11 => (if y9 = y11 then ((policy_RightCond.f k x1).bind fun y15 => ((speculumref14_RightCond.f k x1).bind fun y17 => (if y15 = y17 then ((policy_RightDeed.f k x2).bind fun y20 => ((speculumref14_RightDeed.f k x2).bind fun y22 => (if y20 = y22 then ((speculumlaw14_awake.f k).bind fun y25 => (some y25)) else (some false)))) else (some false)))) else (some false)))) else ((speculumlaw14_awake.f k).bind fun y27 => (some y27)))) else ((speculumlaw14_awake.f k).bind fun y29 => (some y29))))
abbrev speculumlaw14_PolicyRight.C (k : Nat) : Prop := ∀ {x0 : (List T_api_Rule)} {x1 : T_api_Cond} {x2 : T_api_Deed} {vx0 : Value} {x1v5 : Value} {x1v6 : Value} {F : List It} {I : IMem} {w : World} {r : Bool}, Glob I → Own I w (F) → SlR R_api_Rule I vx0 x0 → SlR R_api_Range I x1v5 x1.Range → SlR (tInt' .u32) I x1v6 x1.Comms → speculumlaw14_PolicyRight.f k x0 x1 x2 = some r →
    Calls Tryz.prog 3 #[vx0, .agg #[.int .i64 x1.Kind, .bool x1.Not, .int .i64 x1.Num, .int .u32 x1.Addr, .string x1.Text, x1v5, x1v6], .agg #[.int .i64 x2.Kind, .int .i64 x2.Num, .int .u32 x2.Addr]] w fun e w' => ∃ v, e = .returned v ∧ v = .bool r ∧ Own I w' (F)
theorem speculumlaw14_PolicyRight.ok (k : Nat) : speculumlaw14_PolicyRight.C k := by
 intro x0 x1 x2 vx0 x1v5 x1v6 F I w r hG S hx0 x1h5 x1h6 H
 have hI := IMem.le.refl I
 rw [speculumlaw14_PolicyRight.f] at H
 refine Calls.ofFW (args := [vx0, .agg #[.int .i64 x1.Kind, .bool x1.Not, .int .i64 x1.Num, .int .u32 x1.Addr, .string x1.Text, x1v5, x1v6], .agg #[.int .i64 x2.Kind, .int .i64 x2.Num, .int .u32 x2.Addr]]) Tryz.func3 rfl rfl <| sr <| g rfl (o_boxA rfl S fun b1 w S => g rfl (o_boxA rfl S fun b2 w S => mv (.bool false) rfl (sq (sq (rg (mv vx0 rfl ?_))))))
 obtain ⟨y3, hy4, H⟩ := obx H
 refine g rfl (cl fb9 (@speculumlaw14_Few.ok k x0 _ _ _ _ _ hG S hx0 hy4) rfl ?_)
 rintro _ w ⟨rfl, S⟩
 refine u rfl (x_not' rfl) <| mv (.bool (!y3)) rfl ?_
 by_cases cc5 : y3 = true
 ·rw [if_pos cc5] at H
  refine gu rfl rfl rfl (noF cc5) (x_ldA tag27 rfl (S.loadW 1 rfl) rfl) ?_
  obtain ⟨y6, hy7, H⟩ := obx H
  refine OK.gt rfl rfl rfl (noF cc5) (cl fb10 (@speculumlaw14_FewCond.ok k x1 _ _ _ _ _ _ hG S x1h5 x1h6 hy7) rfl ?_)
  rintro _ w ⟨rfl, S⟩
  refine gu rfl rfl rfl (noF cc5) (x_not' rfl) <| u rfl (x_pickFV (v := .bool (!y6)) rfl (noF cc5) rfl) ?_
  by_cases cc8 : y6 = true
  ·rw [if_pos cc8] at H
   refine cF rfl (noF cc8) <| sk <| sq <| FW.anew [(0, vx0), (4, pt b1), (5, pt b2)] ⟨rfl, rfl, rfl, trivial⟩ fun σ => ?_
   have S := S.drew
   refine FW.regionD mixed ?_
   have hO := Hold.nil (w := { w with drawn := w.drawn + 1 })
   refine am 0 (vx0) rfl (by kernel_rfl) hO <| am 2 (vx0) rfl (by kernel_rfl) hO <| AQ.one 1 [] [] (by kernel_rfl) rfl (by kernel_rfl) ?_
   obtain ⟨y9, hy10, H⟩ := obx H
   refine g rfl (cl fb12 (@policy_Right.ok k x0 _ _ _ _ _ hG S hx0 hy10) rfl ?_)
   rintro _ w ⟨rfl, S⟩
   refine andI Hold.nil fun hO => AQ.one 3 [] [] (by kernel_rfl) rfl (by kernel_rfl) ?_
   obtain ⟨y11, hy12, H⟩ := obx H
   refine g rfl (cl fb13 (@speculumref14_Right.ok k x0 _ _ _ _ _ hG S hx0 hy12) rfl ?_)
   rintro _ w ⟨rfl, S⟩
   refine andI Hold.nil fun hO => ap 4 rfl (by kernel_rfl) hO (fun w => x_beq tbool4 rfl rfl) <| am 5 (.bool (y9 == y11)) rfl (by kernel_rfl) hO ?_
   by_cases cc13 : y9 = y11
   ·rw [if_pos cc13] at H
    have hR14 := IMem.le.refl I
    refine AQ.take (S := Stab I [.bk b1 27 [.int .i64 x1.Kind, .bool x1.Not, .int .i64 x1.Num, .int .u32 x1.Addr, .string x1.Text, x1v5, x1v6]]) 6 rfl (by kernel_rfl) (by kernel_rfl) (by kernel_rfl) (gT rfl rfl (beT cc13)) hO (Stab.of S 1 rfl hR14) (fun w hS => x_ldA tag27 rfl (hS.loadW 0 rfl) rfl) fun hO => AQ.take (S := Stab I [.bk b1 27 [.int .i64 x1.Kind, .bool x1.Not, .int .i64 x1.Num, .int .u32 x1.Addr, .string x1.Text, x1v5, x1v6]]) 8 rfl (by kernel_rfl) (by kernel_rfl) (by kernel_rfl) (gT rfl rfl (beT cc13)) hO (Stab.of S 1 rfl hR14) (fun w hS => x_ldA tag27 rfl (hS.loadW 0 rfl) rfl) fun hO => AQ.one 7 [8, 6] [true, false] (by kernel_rfl) rfl (by kernel_rfl) ?_
    obtain ⟨y15, hy16, H⟩ := obx H
    refine OK.gt rfl rfl rfl (beT cc13) (cl fb14 (@policy_RightCond.ok k x1 _ _ _ _ _ _ hG S x1h5 x1h6 hy16) rfl ?_)
    rintro _ w ⟨rfl, S⟩
    refine andI (Hold.cons (Stab.of S 1 rfl hR14) Hold.nil) fun hO => AQ.one 9 [8] [false] (by kernel_rfl) rfl (by kernel_rfl) ?_
    obtain ⟨y17, hy18, H⟩ := obx H
    refine OK.gt rfl rfl rfl (beT cc13) (cl fb15 (@speculumref14_RightCond.ok k x1 _ _ _ _ _ _ hG S x1h5 x1h6 hy18) rfl ?_)
    rintro _ w ⟨rfl, S⟩
    refine andI Hold.nil fun hO => AQ.pure 10 rfl (by kernel_rfl) (by kernel_rfl) (by kernel_rfl) (gT rfl rfl (beT cc13)) hO (fun w => x_beq tbool4 rfl rfl) <| ap 11 rfl (by kernel_rfl) hO (fun w => x_pickTV (v := .bool (y15 == y17)) rfl (beT cc13) rfl) <| am 12 (.bool (y15 == y17)) rfl (by kernel_rfl) hO ?_
    by_cases cc19 : y15 = y17
    ·rw [if_pos cc19] at H
     refine AQ.take (S := Stab I [.bk b2 29 [.int .i64 x2.Kind, .int .i64 x2.Num, .int .u32 x2.Addr]]) 13 rfl (by kernel_rfl) (by kernel_rfl) (by kernel_rfl) (gT rfl rfl (beT cc19)) hO (Stab.of S 0 rfl hR14) (fun w hS => x_ldA tag29 rfl (hS.loadW 0 rfl) rfl) fun hO => AQ.take (S := Stab I [.bk b2 29 [.int .i64 x2.Kind, .int .i64 x2.Num, .int .u32 x2.Addr]]) 15 rfl (by kernel_rfl) (by kernel_rfl) (by kernel_rfl) (gT rfl rfl (beT cc19)) hO (Stab.of S 0 rfl hR14) (fun w hS => x_ldA tag29 rfl (hS.loadW 0 rfl) rfl) fun hO => AQ.one 14 [15, 13] [true, false] (by kernel_rfl) rfl (by kernel_rfl) ?_
     obtain ⟨y20, hy21, H⟩ := obx H
     refine OK.gt rfl rfl rfl (beT cc19) (cl fb16 (@policy_RightDeed.ok k x2 _ _ _ _ hG S hy21) rfl ?_)
     rintro _ w ⟨rfl, S⟩
     refine andI (Hold.cons (Stab.of S 0 rfl hR14) Hold.nil) fun hO => AQ.one 16 [15] [false] (by kernel_rfl) rfl (by kernel_rfl) ?_
     obtain ⟨y22, hy23, H⟩ := obx H
     refine OK.gt rfl rfl rfl (beT cc19) (cl fb17 (@speculumref14_RightDeed.ok k x2 _ _ _ _ hG S hy23) rfl ?_)
     rintro _ w ⟨rfl, S⟩
     refine andI Hold.nil fun hO => AQ.pure 17 rfl (by kernel_rfl) (by kernel_rfl) (by kernel_rfl) (gT rfl rfl (beT cc19)) hO (fun w => x_beq tbool4 rfl rfl) <| ap 18 rfl (by kernel_rfl) hO (fun w => x_pickTV (v := .bool (y20 == y22)) rfl (beT cc19) rfl) <| am 19 (.bool (y20 == y22)) rfl (by kernel_rfl) hO ?_
     by_cases cc24 : y20 = y22
     ·rw [if_pos cc24] at H
      refine AQ.one 20 [] [] (by kernel_rfl) rfl (by kernel_rfl) ?_
      obtain ⟨y25, hy26, H⟩ := obx H
      refine OK.gt rfl rfl rfl (beT cc24) (cl fb11 (@speculumlaw14_awake.ok k _ _ _ _ hG S hy26) rfl ?_)
      rintro _ w ⟨rfl, S⟩
      refine andI Hold.nil fun hO => ap 21 rfl (by kernel_rfl) hO (fun w => x_pickTV (v := .bool y25) rfl (beT cc24) rfl) <| ap 22 rfl (by kernel_rfl) hO (fun w => x_asgV (v := .bool y25) rfl) <| AQ.done (by kernel_rfl) <| rt ?_
      obtain rfl := si H
      exact ⟨_, ⟨_, rfl, rfl⟩, ⟨rfl, ((S.sel 2 [] rfl).weaken hI)⟩⟩
     rw [if_neg cc24] at H
     refine AQ.skip 20 rfl (by kernel_rfl) (by kernel_rfl) (by kernel_rfl) rfl rfl (beF cc24) hO <| ap 21 rfl (by kernel_rfl) hO (fun w => x_pickFV (v := .bool false) rfl (beF cc24) rfl) <| ap 22 rfl (by kernel_rfl) hO (fun w => x_asgV (v := .bool false) rfl) <| AQ.done (by kernel_rfl) <| rt ?_
     obtain rfl := si H
     exact ⟨_, ⟨_, rfl, rfl⟩, ⟨rfl, ((S.sel 2 [] rfl).weaken hI)⟩⟩
    rw [if_neg cc19] at H
    refine AQ.skip 13 rfl (by kernel_rfl) (by kernel_rfl) (by kernel_rfl) rfl rfl (beF cc19) hO <| AQ.skip 14 rfl (by kernel_rfl) (by kernel_rfl) (by kernel_rfl) rfl rfl (beF cc19) hO <| AQ.skip 15 rfl (by kernel_rfl) (by kernel_rfl) (by kernel_rfl) rfl rfl (beF cc19) hO <| AQ.skip 16 rfl (by kernel_rfl) (by kernel_rfl) (by kernel_rfl) rfl rfl (beF cc19) hO <| AQ.skip 17 rfl (by kernel_rfl) (by kernel_rfl) (by kernel_rfl) rfl rfl (beF cc19) hO <| ap 18 rfl (by kernel_rfl) hO (fun w => x_pickFV (v := .bool false) rfl (beF cc19) rfl) <| am 19 (.bool false) rfl (by kernel_rfl) hO <| AQ.skip 20 rfl (by kernel_rfl) (by kernel_rfl) (by kernel_rfl) rfl rfl rfl hO <| ap 21 rfl (by kernel_rfl) hO (fun w => x_pickFV (v := .bool false) rfl rfl rfl) <| ap 22 rfl (by kernel_rfl) hO (fun w => x_asgV (v := .bool false) rfl) <| AQ.done (by kernel_rfl) <| rt ?_
    obtain rfl := si H
    exact ⟨_, ⟨_, rfl, rfl⟩, ⟨rfl, ((S.sel 2 [] rfl).weaken hI)⟩⟩
   rw [if_neg cc13] at H
   refine AQ.skip 6 rfl (by kernel_rfl) (by kernel_rfl) (by kernel_rfl) rfl rfl (beF cc13) hO <| AQ.skip 7 rfl (by kernel_rfl) (by kernel_rfl) (by kernel_rfl) rfl rfl (beF cc13) hO <| AQ.skip 8 rfl (by kernel_rfl) (by kernel_rfl) (by kernel_rfl) rfl rfl (beF cc13) hO <| AQ.skip 9 rfl (by kernel_rfl) (by kernel_rfl) (by kernel_rfl) rfl rfl (beF cc13) hO <| AQ.skip 10 rfl (by kernel_rfl) (by kernel_rfl) (by kernel_rfl) rfl rfl (beF cc13) hO <| ap 11 rfl (by kernel_rfl) hO (fun w => x_pickFV (v := .bool false) rfl (beF cc13) rfl) <| am 12 (.bool false) rfl (by kernel_rfl) hO <| AQ.skip 13 rfl (by kernel_rfl) (by kernel_rfl) (by kernel_rfl) rfl rfl rfl hO <| AQ.skip 14 rfl (by kernel_rfl) (by kernel_rfl) (by kernel_rfl) rfl rfl rfl hO <| AQ.skip 15 rfl (by kernel_rfl) (by kernel_rfl) (by kernel_rfl) rfl rfl rfl hO <| AQ.skip 16 rfl (by kernel_rfl) (by kernel_rfl) (by kernel_rfl) rfl rfl rfl hO <| AQ.skip 17 rfl (by kernel_rfl) (by kernel_rfl) (by kernel_rfl) rfl rfl rfl hO <| ap 18 rfl (by kernel_rfl) hO (fun w => x_pickFV (v := .bool false) rfl rfl rfl) <| am 19 (.bool false) rfl (by kernel_rfl) hO <| AQ.skip 20 rfl (by kernel_rfl) (by kernel_rfl) (by kernel_rfl) rfl rfl rfl hO <| ap 21 rfl (by kernel_rfl) hO (fun w => x_pickFV (v := .bool false) rfl rfl rfl) <| ap 22 rfl (by kernel_rfl) hO (fun w => x_asgV (v := .bool false) rfl) <| AQ.done (by kernel_rfl) <| rt ?_
   obtain rfl := si H
   exact ⟨_, ⟨_, rfl, rfl⟩, ⟨rfl, ((S.sel 2 [] rfl).weaken hI)⟩⟩
  rw [if_neg cc8] at H
  refine cT rfl (noT (vaF cc8)) <| sq <| FW.anew [] trivial fun σ => rg ?_
  obtain ⟨y27, hy28, H⟩ := obx H
  refine g rfl (cl fb11 (@speculumlaw14_awake.ok k _ _ _ _ hG S hy28) rfl ?_)
  rintro _ w ⟨rfl, S⟩
  refine mv (.bool y27) rfl <| rt ?_
  obtain rfl := si H
  exact ⟨_, ⟨_, rfl, rfl⟩, ⟨rfl, ((S.sel 2 [] rfl).weaken hI)⟩⟩
 rw [if_neg cc5] at H
 refine gn rfl rfl rfl (noT (vaF cc5)) <| gn rfl rfl rfl (noT (vaF cc5)) <| gn rfl rfl rfl (noT (vaF cc5)) <| u rfl (x_pickTV (v := .bool true) rfl (noT (vaF cc5)) rfl) <| cT rfl rfl <| sq <| FW.anew [] trivial fun σ => rg ?_
 obtain ⟨y29, hy30, H⟩ := obx H
 refine g rfl (cl fb11 (@speculumlaw14_awake.ok k _ _ _ _ hG S hy30) rfl ?_)
 rintro _ w ⟨rfl, S⟩
 refine mv (.bool y29) rfl <| rt ?_
 obtain rfl := si H
 exact ⟨_, ⟨_, rfl, rfl⟩, ⟨rfl, ((S.sel 2 [] rfl).weaken hI)⟩⟩
def speculumref11_still.l0 : Nat → Int → Bool → (List (List Bool)) → Int → Option (List (List Bool))
  | 0, _, _, _, _ => none
  | k + 1, x0, x1, l5, n13 => (if n13 ≤ x0 then ((made 1 false (i64 (x0 + 1))).bind fun l30 => ((lat l30 n13).bind fun y36 => ((app 24 l5 [(l30.set n13.toNat x1)]).bind fun l50 => (speculumref11_still.l0 k x0 x1 l50 (i64 (n13 + 1)))))) else (some l5))
def speculumref11_still.f (k : Nat) (x0 : Int) (x1 : Bool) : Option (List (List Bool)) := ((speculumref11_still.l0 k x0 x1 [] 0).bind fun l20 => (some l20))
def speculumref11_then.l2 : Nat → (List (List Bool)) → (List (List Bool)) → Int → Int → (List (List Bool)) → Int → Option (List (List Bool))
  | 0, _, _, _, _, _, _ => none
  | k + 1, x0, x1, n14, n40, l58, n66 => (if n66 < (x0.length : Int) then ((lat x0 n14).bind fun y83 => ((lat y83 n40).bind fun y90 => (if y90 = true then ((lat l58 n14).bind fun y98 => ((lat y98 n66).bind fun y118 => (if y118 = true then ((lat y98 n66).bind fun y127 => (speculumref11_then.l2 k x0 x1 n14 n40 (l58.set (n14 : Int).toNat (y98.set n66.toNat true)) (i64 (n66 + 1)))) else ((lat x1 n40).bind fun y138 => ((lat y138 n66).bind fun y145 => ((lat y98 n66).bind fun y152 => (speculumref11_then.l2 k x0 x1 n14 n40 (l58.set (n14 : Int).toNat (y98.set n66.toNat y145)) (i64 (n66 + 1))))))))) else (some l58)))) else (some l58))
def speculumref11_then.l1 : Nat → (List (List Bool)) → (List (List Bool)) → Int → (List (List Bool)) → Int → Option (List (List Bool))
  | 0, _, _, _, _, _ => none
  | k + 1, x0, x1, n14, l32, n40 => (if n40 < (x0.length : Int) then ((speculumref11_then.l2 k x0 x1 n14 n40 l32 n40).bind fun l73 => (speculumref11_then.l1 k x0 x1 n14 l73 (i64 (n40 + 1)))) else (some l32))
def speculumref11_then.l0 : Nat → (List (List Bool)) → (List (List Bool)) → (List (List Bool)) → Int → Option (List (List Bool))
  | 0, _, _, _, _ => none
  | k + 1, x0, x1, l6, n14 => (if n14 < (x0.length : Int) then ((speculumref11_then.l1 k x0 x1 n14 l6 n14).bind fun l47 => (speculumref11_then.l0 k x0 x1 l47 (i64 (n14 + 1)))) else (some l6))
def speculumref11_then.f (k : Nat) (x0 : (List (List Bool))) (x1 : (List (List Bool))) : Option (List (List Bool)) := ((speculumref11_still.f k (i64 ((x0.length : Int) - 1)) false).bind fun y1 => ((speculumref11_then.l0 k x0 x1 y1 0).bind fun l21 => (some l21)))
def speculumref11_either.l1 : Nat → (List (List Bool)) → (List (List Bool)) → Int → (List (List Bool)) → Int → Option (List (List Bool))
  | 0, _, _, _, _, _ => none
  | k + 1, x0, x1, n14, l32, n40 => (if n40 < (x0.length : Int) then ((lat l32 n14).bind fun y57 => ((lat x0 n14).bind fun y71 => ((lat y71 n40).bind fun y78 => (if y78 = true then ((lat y57 n40).bind fun y86 => (speculumref11_either.l1 k x0 x1 n14 (l32.set (n14 : Int).toNat (y57.set n40.toNat true)) (i64 (n40 + 1)))) else ((lat x1 n14).bind fun y97 => ((lat y97 n40).bind fun y104 => ((lat y57 n40).bind fun y111 => (speculumref11_either.l1 k x0 x1 n14 (l32.set (n14 : Int).toNat (y57.set n40.toNat y104)) (i64 (n40 + 1)))))))))) else (some l32))
def speculumref11_either.l0 : Nat → (List (List Bool)) → (List (List Bool)) → (List (List Bool)) → Int → Option (List (List Bool))
  | 0, _, _, _, _ => none
  | k + 1, x0, x1, l6, n14 => (if n14 < (x0.length : Int) then ((speculumref11_either.l1 k x0 x1 n14 l6 0).bind fun l47 => (speculumref11_either.l0 k x0 x1 l47 (i64 (n14 + 1)))) else (some l6))
def speculumref11_either.f (k : Nat) (x0 : (List (List Bool))) (x1 : (List (List Bool))) : Option (List (List Bool)) := ((speculumref11_still.f k (i64 ((x0.length : Int) - 1)) false).bind fun y1 => ((speculumref11_either.l0 k x0 x1 y1 0).bind fun l21 => (some l21)))
def speculumref11_Node_in.l0 : Nat → T_speculumref11_Node → Int → Int → Option (Sum Bool Unit)
  | 0, _, _, _ => none
  | k + 1, x0, x1, n3 => (if n3 < (x0.From.length : Int) then ((lat x0.From n3).bind fun y12 => (if x1 ≥ y12 then ((lat x0.To n3).bind fun y20 => (if x1 ≤ y20 then (some (.inl (!x0.Not))) else (speculumref11_Node_in.l0 k x0 x1 (i64 (n3 + 1))))) else (speculumref11_Node_in.l0 k x0 x1 (i64 (n3 + 1))))) else (some (.inr ())))
def speculumref11_Node_in.f (k : Nat) (x0 : T_speculumref11_Node) (x1 : Int) : Option Bool := (((speculumref11_Node_in.l0 k x0 x1 0) : Option (Sum Bool Unit)).bind fun o => match o with | .inl r => some r | .inr _ => (some x0.Not))
end Go.Proofs.YtafnenafbognkaaGreatDoor
namespace Go.Proofs.YtafnenafbognkaaGreatDoor
open Sp
set_option maxRecDepth 100000
set_option maxHeartbeats 4000000
def speculumref11_often.l2 : Nat → (List (List Bool)) → Int → Int → (List (List Bool)) → Int → Option (List (List Bool))
  | 0, _, _, _, _, _ => none
  | k + 1, x0, n14, n40, l58, n66 => (if n66 < (x0.length : Int) then ((lat l58 n14).bind fun y83 => ((lat y83 n40).bind fun y96 => (if y96 = true then ((lat l58 n14).bind fun y105 => ((lat y105 n66).bind fun y125 => (if y125 = true then ((lat y105 n66).bind fun y134 => (speculumref11_often.l2 k x0 n14 n40 (l58.set (n14 : Int).toNat (y105.set n66.toNat true)) (i64 (n66 + 1)))) else ((lat x0 n40).bind fun y145 => ((lat y145 n66).bind fun y152 => ((lat y105 n66).bind fun y159 => (speculumref11_often.l2 k x0 n14 n40 (l58.set (n14 : Int).toNat (y105.set n66.toNat y152)) (i64 (n66 + 1))))))))) else (some l58)))) else (some l58))
def speculumref11_often.l1 : Nat → (List (List Bool)) → Int → (List (List Bool)) → Int → Option (List (List Bool))
  | 0, _, _, _, _ => none
  | k + 1, x0, n14, l32, n40 => (if n40 < (x0.length : Int) then ((speculumref11_often.l2 k x0 n14 n40 l32 n40).bind fun l73 => (speculumref11_often.l1 k x0 n14 l73 (i64 (n40 + 1)))) else (some l32))
def speculumref11_often.l0 : Nat → (List (List Bool)) → (List (List Bool)) → Int → Option (List (List Bool))
  | 0, _, _, _ => none
  | k + 1, x0, l6, n14 => (if n14 < (x0.length : Int) then ((speculumref11_often.l1 k x0 n14 l6 n14).bind fun l47 => (speculumref11_often.l0 k x0 l47 (i64 (n14 + 1)))) else (some l6))
def speculumref11_often.f (k : Nat) (x0 : (List (List Bool))) : Option (List (List Bool)) := ((speculumref11_still.f k (i64 ((x0.length : Int) - 1)) true).bind fun y1 => ((speculumref11_often.l0 k x0 y1 0).bind fun l21 => (some l21)))
mutual
def speculumref11_P_ends.l0 : Nat → (Option T_speculumref11_P) → (List Int) → T_speculumref11_Node → (List (List Bool)) → Int → Option (List (List Bool))
  | 0, _, _, _, _, _ => none
  | k + 1, x0, x2, y9, l23, n31 => (if n31 < (y9.Kids.length : Int) then ((lat y9.Kids n31).bind fun y48 => ((speculumref11_P_ends.f k x0 y48 x2).bind fun y55 => ((speculumref11_then.f k l23 y55).bind fun y65 => (speculumref11_P_ends.l0 k x0 x2 y9 y65 (i64 (n31 + 1)))))) else (some l23))
def speculumref11_P_ends.l1 : Nat → (Option T_speculumref11_P) → (List Int) → T_speculumref11_Node → (List (List Bool)) → Int → Option (List (List Bool))
  | 0, _, _, _, _, _ => none
  | k + 1, x0, x2, y9, l71, n79 => (if n79 < (y9.Kids.length : Int) then ((lat y9.Kids n79).bind fun y96 => ((speculumref11_P_ends.f k x0 y96 x2).bind fun y103 => ((speculumref11_either.f k l71 y103).bind fun y113 => (speculumref11_P_ends.l1 k x0 x2 y9 y113 (i64 (n79 + 1)))))) else (some l71))
def speculumref11_P_ends.l2 : Nat → (List Int) → T_speculumref11_Node → (List (List Bool)) → Int → Option (List (List Bool))
  | 0, _, _, _, _ => none
  | k + 1, x2, y9, l125, n133 => (if n133 < (x2.length : Int) then ((lat l125 n133).bind fun y150 => (if y9.Kind = 46 then ((lat y150 (i64 (n133 + 1))).bind fun y165 => (speculumref11_P_ends.l2 k x2 y9 (l125.set (n133 : Int).toNat (y150.set (i64 (n133 + 1)).toNat true)) (i64 (n133 + 1)))) else ((lat x2 n133).bind fun y176 => ((speculumref11_Node_in.f k y9 (i64 y176)).bind fun y183 => ((lat y150 (i64 (n133 + 1))).bind fun y185 => (speculumref11_P_ends.l2 k x2 y9 (l125.set (n133 : Int).toNat (y150.set (i64 (n133 + 1)).toNat y183)) (i64 (n133 + 1)))))))) else (some l125))
def speculumref11_P_ends.f : Nat → (Option T_speculumref11_P) → Int → (List Int) → Option (List (List Bool))
  | 0, _, _, _ => none
  | k + 1, x0, x1, x2 => ((x0).bind fun y1 => ((lat y1.N x1).bind fun y9 => ((speculumref11_still.f k (x2.length : Int) (y9.Kind == 114)).bind fun y17 => (if y9.Kind = 114 then ((speculumref11_P_ends.l0 k x0 x2 y9 y17 0).bind fun l38 => (some l38)) else (if y9.Kind = 99 then ((speculumref11_P_ends.l1 k x0 x2 y9 y17 0).bind fun l86 => (some l86)) else ((if y9.Kind = 115 then (some (y9.Kind == 115)) else (some (y9.Kind == 46))).bind fun b118 => (if b118 = true then ((speculumref11_P_ends.l2 k x2 y9 y17 0).bind fun l140 => (some l140)) else (if y9.Kind = 94 then ((lat y17 0).bind fun y197 => ((lat y197 0).bind fun y210 => (some (y17.set (0 : Int).toNat (y197.set (0 : Int).toNat true))))) else (if y9.Kind = 36 then ((lat y17 (x2.length : Int)).bind fun y222 => ((lat y222 (x2.length : Int)).bind fun y235 => (some (y17.set ((x2.length : Int) : Int).toNat (y222.set (x2.length : Int).toNat true))))) else (if y9.Kind = 63 then ((lat y9.Kids 0).bind fun y248 => ((speculumref11_still.f k (x2.length : Int) true).bind fun y255 => ((speculumref11_P_ends.f k x0 y248 x2).bind fun y259 => ((speculumref11_either.f k y255 y259).bind fun y269 => (some y269))))) else (if y9.Kind = 42 then ((lat y9.Kids 0).bind fun y274 => ((speculumref11_P_ends.f k x0 y274 x2).bind fun y281 => ((speculumref11_often.f k y281).bind fun y288 => (some y288)))) else (if y9.Kind = 43 then ((lat y9.Kids 0).bind fun y293 => ((speculumref11_P_ends.f k x0 y293 x2).bind fun y300 => ((speculumref11_often.f k y300).bind fun y307 => ((speculumref11_then.f k y300 y307).bind fun y314 => (some y314))))) else (some y17)))))))))))))
end
abbrev speculumref11_P_ends.C (k : Nat) : Prop := ∀ {x0 : (Option T_speculumref11_P)} {x1 : Int} {x2 : (List Int)} {vx0 : Value} {vx2 : Value} {F : List It} {I : IMem} {w : World} {r : (List (List Bool))}, Glob I → Own I w (F) → PtR R_speculumref11_P I vx0 x0 → SlR (tInt' .u32) I vx2 x2 → speculumref11_P_ends.f k x0 x1 x2 = some r →
    Calls Tryz.prog 98 #[vx0, .int .i64 x1, vx2] w fun e w' => ∃ v, e = .returned v ∧ ∃ (vy_0 : Value) (cy_0 : List Value) (uy_0 : List Value) (py_0 : List (Value × List Value)) (J : IMem), I.le J ∧ v = vy_0 ∧ Flat tRaw J cy_0 uy_0 ∧ MxR tBool J uy_0 py_0 r ∧ Own J w' (.av vy_0 140 1 cy_0 :: .fam 4 1 py_0 :: F)
theorem speculumref11_P_ends.zero : speculumref11_P_ends.C 0 := by
  intro _ _ _ _ _ _ _ _ _ _ _ _ _ H; cases H
def speculumref11_P_Match.l1 : Nat → (List (List Bool)) → Int → Int → Option (Sum Bool Unit)
  | 0, _, _, _ => none
  | k + 1, y1, n6, n16 => (if n16 < (y1.length : Int) then ((lat y1 n6).bind fun y25 => ((lat y25 n16).bind fun y38 => (if y38 = true then (some (.inl true)) else (speculumref11_P_Match.l1 k y1 n6 (i64 (n16 + 1)))))) else (some (.inr ())))
def speculumref11_P_Match.l0 : Nat → (List (List Bool)) → Int → Option (Sum Bool Unit)
  | 0, _, _ => none
  | k + 1, y1, n6 => (if n6 < (y1.length : Int) then (((speculumref11_P_Match.l1 k y1 n6 0) : Option (Sum Bool Unit)).bind fun o => match o with | .inl r => some (.inl r) | .inr _ => (speculumref11_P_Match.l0 k y1 (i64 (n6 + 1)))) else (some (.inr ())))
def speculumref11_P_Match.f (k : Nat) (x0 : (Option T_speculumref11_P)) (x1 : Int) (x2 : (List Int)) : Option Bool := ((speculumref11_P_ends.f k x0 x1 x2).bind fun y1 => (((speculumref11_P_Match.l0 k y1 0) : Option (Sum Bool Unit)).bind fun o => match o with | .inl r => some r | .inr _ => (some false)))
end Go.Proofs.YtafnenafbognkaaGreatDoor
