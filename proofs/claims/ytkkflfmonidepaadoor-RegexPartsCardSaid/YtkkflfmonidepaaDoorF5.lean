/-
  PRINTED FUNCTIONS 5: speculumlaw11_RegexParts.
-/
import Derived.Test.YtkkflfmonidepaaDoorF4
namespace Go.Proofs.YtkkflfmonidepaaDoor
open Sp
set_option maxRecDepth 100000
set_option maxHeartbeats 4000000
def speculumlaw11_RegexParts.l0 : Nat → ByteArray → ByteArray → (List Int) → Bool → Int → Option Bool
  | 0, _, _, _, _, _ => none
  | k + 1, x0, x1, x2, b31, n32 => (if n32 ≤ (x2.length : Int) then (if b31 = true then (speculumlaw11_RegexParts.l0 k x0 x1 x2 true (i64 (n32 + 1))) else ((cutR x2 n32).bind fun l44 => ((speculumlaw11_RegexParts_1.f k x0 l44).bind fun y47 => (if y47 = true then ((cutL x2 n32).bind fun l51 => ((speculumlaw11_RegexParts_1.f k x1 l51).bind fun y54 => (speculumlaw11_RegexParts.l0 k x0 x1 x2 y54 (i64 (n32 + 1))))) else (speculumlaw11_RegexParts.l0 k x0 x1 x2 false (i64 (n32 + 1))))))) else (some b31))
def speculumlaw11_RegexParts.f (k : Nat) (x0 : ByteArray) (x1 : ByteArray) (x2 : (List Int)) : Option Bool := (if (x0.size : Int) > 20 then ((speculumlaw11_awake.f k).bind fun y2 => (some y2)) else (if (x1.size : Int) > 20 then ((speculumlaw11_awake.f k).bind fun y5 => (some y5)) else (if (x2.length : Int) > 12 then ((speculumlaw11_awake.f k).bind fun y8 => (some y8)) else ((regex_Parse.f k x0).bind fun y10 => ((regex_Parse.f k x1).bind fun y14 => (if y10.2 = 0 then (if y14.2 = 0 then ((speculumlaw11_hasEnds.f k x0).bind fun y20 => (if y20 = true then ((speculumlaw11_awake.f k).bind fun y23 => (some y23)) else ((speculumlaw11_hasEnds.f k x1).bind fun y25 => (if y25 = true then ((speculumlaw11_awake.f k).bind fun y28 => (some y28)) else ((speculumlaw11_RegexParts.l0 k x0 x1 x2 false 0).bind fun b39 => ((scat (⟨#[94, 40]⟩) x0).bind fun s56 => ((scat s56 (⟨#[41, 32, 40]⟩)).bind fun s58 => ((scat s58 x1).bind fun s60 => ((scat s60 (⟨#[41, 36]⟩)).bind fun s62 => ((regex_Parse.f k s62).bind fun y64 => ((regex_Expr_Match.f k y64.1 x2).bind fun y68 => (if y68 = b39 then ((scat (⟨#[40]⟩) x0).bind fun s71 => ((scat s71 (⟨#[41, 124, 40]⟩)).bind fun s73 => ((scat s73 x1).bind fun s75 => ((scat s75 (⟨#[41]⟩)).bind fun s77 => ((speculumlaw11_RegexParts_1.f k s77 x2).bind fun y79 => ((speculumlaw11_RegexParts_1.f k x0 x2).bind fun y81 => (if y81 = true then (if y79 = true then ((speculumlaw11_awake.f k).bind fun y85 => (some y85)) else (some false)) else ((speculumlaw11_RegexParts_1.f k x1 x2).bind fun y87 => (if y79 = y87 then ((speculumlaw11_awake.f k).bind fun y90 => (some y90)) else (some false)))))))))) else (some false))))))))))))) else ((speculumlaw11_awake.f k).bind fun y92 => (some y92))) else ((speculumlaw11_awake.f k).bind fun y94 => (some y94))))))))
abbrev speculumlaw11_RegexParts.C (k : Nat) : Prop := ∀ {x0 : ByteArray} {x1 : ByteArray} {x2 : (List Int)} {vx2 : Value} {F : List It} {I : IMem} {w : World} {r : Bool}, Glob I → Own I w (F) → SlR (tInt' .u32) I vx2 x2 → speculumlaw11_RegexParts.f k x0 x1 x2 = some r →
    Calls Tryd.prog 4 #[.string x0, .string x1, vx2] w fun e w' => ∃ v, e = .returned v ∧ v = .bool r ∧ Own I w' (F)
theorem speculumlaw11_RegexParts.ok (k : Nat) : speculumlaw11_RegexParts.C k := by
  intro x0 x1 x2 vx2 F I w r hG S hx2 H
  have hI := IMem.le.refl I
  rw [speculumlaw11_RegexParts.f] at H
  refine Calls.ofFW (args := [.string x0, .string x1, vx2]) Tryd.func4 rfl rfl ?_
  refine FW.seq ?_
  refine FW.region ?_
  refine U rfl rfl (V (x_asgV (v := .bool false) rfl) ?_)
  refine FW.seq ?_
  refine FW.seq ?_
  refine FW.region ?_
  refine U rfl rfl (V (x_movV (v := .string x0) rfl) ?_)
  refine U rfl rfl (V (x_lens tstr9 rfl) ?_)
  refine U rfl rfl (V (x_bin rfl rfl rfl) ?_)
  refine U rfl rfl (V (x_movV (v := .bool (decide ((x0.size : Int) > 20))) rfl) ?_)
  by_cases cc1 : (x0.size : Int) > 20
  · rw [if_pos cc1] at H
    refine OK.gf rfl rfl rfl (deT cc1) ?_
    refine OK.gf rfl rfl rfl (deT cc1) ?_
    refine OK.gf rfl rfl rfl (deT cc1) ?_
    refine U rfl rfl (V (x_pickTV (v := .bool true) rfl (deT cc1) rfl) ?_)
    refine U rfl rfl (V (x_movV (v := .bool true) rfl) ?_)
    refine OK.gf rfl rfl rfl rfl ?_
    refine OK.gf rfl rfl rfl rfl ?_
    refine OK.gf rfl rfl rfl rfl ?_
    refine U rfl rfl (V (x_pickTV (v := .bool true) rfl rfl rfl) ?_)
    refine FW.condT rfl rfl ?_
    refine FW.seq ?_
    refine FW.anew [] trivial fun σ => ?_
    refine FW.region ?_
    obtain ⟨y2, hy3, H⟩ := obx H
    refine U rfl rfl (cl fb7 (@speculumlaw11_awake.ok k _ _ _ _ hG S hy3) rfl ?_)
    rintro _ w ⟨rfl, S⟩
    refine U rfl rfl (V (x_asgV (v := .bool y2) rfl) ?_)
    refine FW.ret ?_
    obtain rfl := Option.some.inj H
    exact ⟨_, ⟨_, rfl, rfl⟩, ⟨rfl, (S.weaken hI)⟩⟩
  · rw [if_neg cc1] at H
    refine OK.gt rfl rfl rfl (deF cc1) (V (x_movV (v := .string x1) rfl) ?_)
    refine OK.gt rfl rfl rfl (deF cc1) (V (x_lens tstr9 rfl) ?_)
    refine OK.gt rfl rfl rfl (deF cc1) (V (x_bin rfl rfl rfl) ?_)
    refine U rfl rfl (V (x_pickFV (v := .bool (decide ((x1.size : Int) > 20))) rfl (deF cc1) rfl) ?_)
    refine U rfl rfl (V (x_movV (v := .bool (decide ((x1.size : Int) > 20))) rfl) ?_)
    by_cases cc4 : (x1.size : Int) > 20
    · rw [if_pos cc4] at H
      refine OK.gf rfl rfl rfl (deT cc4) ?_
      refine OK.gf rfl rfl rfl (deT cc4) ?_
      refine OK.gf rfl rfl rfl (deT cc4) ?_
      refine U rfl rfl (V (x_pickTV (v := .bool true) rfl (deT cc4) rfl) ?_)
      refine FW.condT rfl rfl ?_
      refine FW.seq ?_
      refine FW.anew [] trivial fun σ => ?_
      refine FW.region ?_
      obtain ⟨y5, hy6, H⟩ := obx H
      refine U rfl rfl (cl fb7 (@speculumlaw11_awake.ok k _ _ _ _ hG S hy6) rfl ?_)
      rintro _ w ⟨rfl, S⟩
      refine U rfl rfl (V (x_asgV (v := .bool y5) rfl) ?_)
      refine FW.ret ?_
      obtain rfl := Option.some.inj H
      exact ⟨_, ⟨_, rfl, rfl⟩, ⟨rfl, (S.weaken hI)⟩⟩
    · rw [if_neg cc4] at H
      refine OK.gt rfl rfl rfl (deF cc4) (V (x_movV (v := vx2) rfl) ?_)
      refine OK.gt rfl rfl rfl (deF cc4) (V (x_lenD (r := (tInt' .u32)) tsl22 hx2) ?_)
      refine OK.gt rfl rfl rfl (deF cc4) (V (x_bin rfl rfl rfl) ?_)
      refine U rfl rfl (V (x_pickFV (v := .bool (decide ((x2.length : Int) > 12))) rfl (deF cc4) rfl) ?_)
      by_cases cc7 : (x2.length : Int) > 12
      · rw [if_pos cc7] at H
        refine FW.condT rfl (deT cc7) ?_
        refine FW.seq ?_
        refine FW.anew [] trivial fun σ => ?_
        refine FW.region ?_
        obtain ⟨y8, hy9, H⟩ := obx H
        refine U rfl rfl (cl fb7 (@speculumlaw11_awake.ok k _ _ _ _ hG S hy9) rfl ?_)
        rintro _ w ⟨rfl, S⟩
        refine U rfl rfl (V (x_asgV (v := .bool y8) rfl) ?_)
        refine FW.ret ?_
        obtain rfl := Option.some.inj H
        exact ⟨_, ⟨_, rfl, rfl⟩, ⟨rfl, (S.weaken hI)⟩⟩
      · rw [if_neg cc7] at H
        refine FW.condF rfl (deF cc7) ?_
        refine FW.skip ?_
        refine FW.seq ?_
        refine FW.anew [(0, .string x0), (1, .string x1), (2, vx2)] ⟨rfl, rfl, rfl, trivial⟩ fun σ => ?_
        refine FW.region ?_
        refine U rfl rfl (V (x_movV (v := .string x0) rfl) ?_)
        obtain ⟨y10, hy11, H⟩ := obx H
        refine U rfl rfl (cl fb8 (@regex_Parse.ok k x0 _ _ _ _ hG S hy11) rfl ?_)
        rintro _ w ⟨vy10_0, J12, hJ13, rfl, hy10_0, S⟩
        have hx2 := hx2.mono hJ13
        have hI := hI.trans hJ13
        have hG := hG.mono hJ13
        refine U rfl rfl (V (x_movV (v := .tuple #[vy10_0, .int .i64 y10.2]) rfl) ?_)
        refine U rfl rfl (V (x_ext rfl rfl) ?_)
        refine U rfl rfl (V (x_ext rfl rfl) ?_)
        refine U rfl rfl (V (x_asgV (v := vy10_0) rfl) ?_)
        refine U rfl rfl (V (x_asgV (v := .int .i64 y10.2) rfl) ?_)
        refine FW.seq ?_
        refine FW.anew [(0, .string x0), (1, .string x1), (2, vx2), (8, .int .i64 y10.2)] ⟨rfl, rfl, rfl, rfl, trivial⟩ fun σ => ?_
        refine FW.region ?_
        refine U rfl rfl (V (x_movV (v := .string x1) rfl) ?_)
        obtain ⟨y14, hy15, H⟩ := obx H
        refine U rfl rfl (cl fb8 (@regex_Parse.ok k x1 _ _ _ _ hG S hy15) rfl ?_)
        rintro _ w ⟨vy14_0, J16, hJ17, rfl, hy14_0, S⟩
        have hx2 := hx2.mono hJ17
        have hI := hI.trans hJ17
        have hG := hG.mono hJ17
        refine U rfl rfl (V (x_movV (v := .tuple #[vy14_0, .int .i64 y14.2]) rfl) ?_)
        refine U rfl rfl (V (x_ext rfl rfl) ?_)
        refine U rfl rfl (V (x_ext rfl rfl) ?_)
        refine U rfl rfl (V (x_asgV (v := vy14_0) rfl) ?_)
        refine U rfl rfl (V (x_asgV (v := .int .i64 y14.2) rfl) ?_)
        refine FW.seq ?_
        refine FW.seq ?_
        refine FW.anew [(0, .string x0), (1, .string x1), (2, vx2), (8, .int .i64 y10.2), (10, .int .i64 y14.2)] ⟨rfl, rfl, rfl, rfl, rfl, trivial⟩ fun σ => ?_
        refine FW.region ?_
        refine U rfl rfl (V (x_movV (v := .int .i64 y10.2) rfl) ?_)
        refine U rfl rfl (V (x_bin rfl rfl rfl) ?_)
        refine U rfl rfl (V (x_movV (v := .bool (y10.2 != 0)) rfl) ?_)
        by_cases cc18 : y10.2 = 0
        · rw [if_pos cc18] at H
          refine OK.gt rfl rfl rfl (neF cc18) (V (x_movV (v := .int .i64 y14.2) rfl) ?_)
          refine OK.gt rfl rfl rfl (neF cc18) (V (x_bin rfl rfl rfl) ?_)
          refine U rfl rfl (V (x_pickFV (v := .bool (y14.2 != 0)) rfl (neF cc18) rfl) ?_)
          refine U rfl rfl (V (x_movV (v := .bool (y14.2 != 0)) rfl) ?_)
          by_cases cc19 : y14.2 = 0
          · rw [if_pos cc19] at H
            refine OK.gt rfl rfl rfl (neF cc19) (V (x_movV (v := .string x0) rfl) ?_)
            obtain ⟨y20, hy21, H⟩ := obx H
            refine OK.gt rfl rfl rfl (neF cc19) (cl fb12 (@speculumlaw11_hasEnds.ok k x0 _ _ _ _ hG S hy21) rfl ?_)
            rintro _ w ⟨rfl, S⟩
            refine U rfl rfl (V (x_pickFV (v := .bool y20) rfl (neF cc19) rfl) ?_)
            refine U rfl rfl (V (x_movV (v := .bool y20) rfl) ?_)
            by_cases cc22 : y20 = true
            · rw [if_pos cc22] at H
              refine OK.gf rfl rfl rfl cc22 ?_
              refine OK.gf rfl rfl rfl cc22 ?_
              refine U rfl rfl (V (x_pickTV (v := .bool true) rfl cc22 rfl) ?_)
              refine FW.condT rfl rfl ?_
              refine FW.seq ?_
              refine FW.anew [] trivial fun σ => ?_
              refine FW.region ?_
              obtain ⟨y23, hy24, H⟩ := obx H
              refine U rfl rfl (cl fb7 (@speculumlaw11_awake.ok k _ _ _ _ hG S hy24) rfl ?_)
              rintro _ w ⟨rfl, S⟩
              refine U rfl rfl (V (x_asgV (v := .bool y23) rfl) ?_)
              refine FW.ret ?_
              obtain rfl := Option.some.inj H
              exact ⟨_, ⟨_, rfl, rfl⟩, ⟨rfl, (S.weaken hI)⟩⟩
            · rw [if_neg cc22] at H
              refine OK.gt rfl rfl rfl (vaF cc22) (V (x_movV (v := .string x1) rfl) ?_)
              obtain ⟨y25, hy26, H⟩ := obx H
              refine OK.gt rfl rfl rfl (vaF cc22) (cl fb12 (@speculumlaw11_hasEnds.ok k x1 _ _ _ _ hG S hy26) rfl ?_)
              rintro _ w ⟨rfl, S⟩
              refine U rfl rfl (V (x_pickFV (v := .bool y25) rfl (vaF cc22) rfl) ?_)
              by_cases cc27 : y25 = true
              · rw [if_pos cc27] at H
                refine FW.condT rfl cc27 ?_
                refine FW.seq ?_
                refine FW.anew [] trivial fun σ => ?_
                refine FW.region ?_
                obtain ⟨y28, hy29, H⟩ := obx H
                refine U rfl rfl (cl fb7 (@speculumlaw11_awake.ok k _ _ _ _ hG S hy29) rfl ?_)
                rintro _ w ⟨rfl, S⟩
                refine U rfl rfl (V (x_asgV (v := .bool y28) rfl) ?_)
                refine FW.ret ?_
                obtain rfl := Option.some.inj H
                exact ⟨_, ⟨_, rfl, rfl⟩, ⟨rfl, (S.weaken hI)⟩⟩
              · rw [if_neg cc27] at H
                refine FW.condF rfl (vaF cc27) ?_
                refine FW.skip ?_
                refine FW.seq ?_
                refine FW.anew [(0, .string x0), (1, .string x1), (2, vx2)] ⟨rfl, rfl, rfl, trivial⟩ fun σ => ?_
                refine FW.region ?_
                refine U rfl rfl (V (x_asgV (v := .func (.func 13) #[] #[]) rfl) ?_)
                refine FW.seq ?_
                refine FW.region ?_
                refine U rfl rfl (V (x_asgV (v := .bool false) rfl) ?_)
                refine FW.seq ?_
                refine FW.seq ?_
                refine FW.region ?_
                refine U rfl rfl (V (x_asgV (v := .int .i64 0) rfl) ?_)
                refine FW.block ?_
                obtain ⟨o35, hl37, HO36⟩ := obx H
                refine FW.cutX 0 (fun σ w => ∃ (b39 : Bool) (J38 : IMem), b39 = o35 ∧ Has σ [(0, .string x0), (1, .string x1), (2, vx2), (11, .func (.func 13) #[] #[]), (12, .bool b39)] ∧ J16.le J38 ∧ Own J38 w (F)) ?_ ?_
                ·
                  refine FW.loop k (FL.ind (fun q σ w => ∃ (b31 : Bool) (n32 : Int) (J30 : IMem), speculumlaw11_RegexParts.l0 q x0 x1 x2 b31 n32 = some o35 ∧ q ≤ k ∧ Has σ [(0, .string x0), (1, .string x1), (2, vx2), (11, .func (.func 13) #[] #[]), (12, .bool b31), (13, .int .i64 n32)] ∧ J16.le J30 ∧ Own J30 w (F)) ?_ ?_ k k _ _ (Nat.le_refl _) ⟨false, 0, J16, hl37, Nat.le_refl _, ⟨rfl, rfl, rfl, rfl, rfl, rfl, trivial⟩, (IMem.le.refl _), S⟩)
                  · rintro σ w ⟨b31, n32, J30, H, _⟩; cases H
                  · rintro q33 σ w ⟨b31, n32, J30, H, hq40, hσ, hL34, S⟩
                    have hx2 := hx2.mono hL34
                    have hI := hI.trans hL34
                    have hG := hG.mono hL34
                    rw [hσ.eq]
                    rw [speculumlaw11_RegexParts.l0] at H
                    refine FW.seq ?_
                    refine FW.seq ?_
                    refine FW.region ?_
                    refine U rfl rfl (V (x_movV (v := .int .i64 n32) rfl) ?_)
                    refine U rfl rfl (V (x_movV (v := vx2) rfl) ?_)
                    refine U rfl rfl (V (x_lenD (r := (tInt' .u32)) tsl22 hx2) ?_)
                    refine U rfl rfl (V (x_bin rfl rfl rfl) ?_)
                    by_cases cc41 : n32 ≤ (x2.length : Int)
                    · rw [if_pos cc41] at H
                      refine FW.condT rfl (deT cc41) ?_
                      refine FW.skip ?_
                      refine FW.seq ?_
                      refine FW.block ?_
                      refine FW.region ?_
                      refine U rfl rfl (V (x_movV (v := .bool b31) rfl) ?_)
                      refine U rfl rfl (V (x_movV (v := .bool b31) rfl) ?_)
                      by_cases cc42 : b31 = true
                      · rw [if_pos cc42] at H
                        refine OK.gf rfl rfl rfl cc42 ?_
                        refine OK.gf rfl rfl rfl cc42 ?_
                        refine OK.gf rfl rfl rfl cc42 ?_
                        refine OK.gf rfl rfl rfl cc42 ?_
                        refine OK.gf rfl rfl rfl cc42 ?_
                        refine OK.gf rfl rfl rfl cc42 ?_
                        refine OK.gf rfl rfl rfl cc42 ?_
                        refine OK.gu rfl rfl rfl ?_
                        refine OK.gu rfl rfl rfl ?_
                        refine OK.gu rfl rfl rfl ?_
                        refine OK.gu rfl rfl rfl ?_
                        refine OK.gu rfl rfl rfl ?_
                        refine OK.gu rfl rfl rfl ?_
                        refine OK.gf rfl rfl rfl cc42 ?_
                        refine U rfl rfl (V (x_pickTV (v := .bool true) rfl cc42 rfl) ?_)
                        refine U rfl rfl (V (x_asgV (v := .bool true) rfl) ?_)
                        refine FW.anew [(0, .string x0), (1, .string x1), (2, vx2), (11, .func (.func 13) #[] #[]), (12, .bool true), (13, .int .i64 n32)] ⟨rfl, rfl, rfl, rfl, rfl, rfl, trivial⟩ fun σ => ?_
                        refine FW.region ?_
                        refine U rfl rfl (V (x_movV (v := .int .i64 n32) rfl) ?_)
                        refine U rfl rfl (V (x_bin rfl rfl rfl) ?_)
                        refine U rfl rfl (V (x_asgV (v := .int .i64 (i64 (n32 + 1))) rfl) ?_)
                        exact ⟨q33, Nat.le_refl _, true, (i64 (n32 + 1)), J30, H, (Nat.le_of_succ_le hq40), ⟨rfl, rfl, rfl, rfl, rfl, rfl, trivial⟩, hL34, S⟩
                      · rw [if_neg cc42] at H
                        refine OK.gt rfl rfl rfl (vaF cc42) (V (x_movV (v := .func (.func 13) #[] #[]) rfl) ?_)
                        refine OK.gt rfl rfl rfl (vaF cc42) (V (x_movV (v := .string x0) rfl) ?_)
                        refine OK.gt rfl rfl rfl (vaF cc42) (V (x_movV (v := vx2) rfl) ?_)
                        refine OK.gt rfl rfl rfl (vaF cc42) (V (x_movV (v := .int .i64 n32) rfl) ?_)
                        obtain ⟨l44, h43, H⟩ := obx H
                        refine OK.gt rfl rfl rfl (vaF cc42) (o_cutR (r := (tInt' .u32)) tsl22 rfl hx2 rfl h43 fun v45 h46 => ?_)
                        obtain ⟨y47, hy48, H⟩ := obx H
                        refine OK.gt rfl rfl rfl (vaF cc42) (clv rfl fb13 (@speculumlaw11_RegexParts_1.ok q33 x0 l44 _ _ _ _ _ hG S h46 hy48) rfl ?_)
                        rintro _ w ⟨rfl, S⟩
                        refine OK.gt rfl rfl rfl (vaF cc42) (V (x_movV (v := .bool y47) rfl) ?_)
                        by_cases cc49 : y47 = true
                        · rw [if_pos cc49] at H
                          refine OK.gt rfl rfl rfl cc49 (V (x_movV (v := .func (.func 13) #[] #[]) rfl) ?_)
                          refine OK.gt rfl rfl rfl cc49 (V (x_movV (v := .string x1) rfl) ?_)
                          refine OK.gt rfl rfl rfl cc49 (V (x_movV (v := vx2) rfl) ?_)
                          refine OK.gt rfl rfl rfl cc49 (V (x_movV (v := .int .i64 n32) rfl) ?_)
                          obtain ⟨l51, h50, H⟩ := obx H
                          refine OK.gt rfl rfl rfl cc49 (o_cutL (r := (tInt' .u32)) tsl22 rfl hx2 rfl h50 fun v52 h53 => ?_)
                          obtain ⟨y54, hy55, H⟩ := obx H
                          refine OK.gt rfl rfl rfl cc49 (clv rfl fb13 (@speculumlaw11_RegexParts_1.ok q33 x1 l51 _ _ _ _ _ hG S h53 hy55) rfl ?_)
                          rintro _ w ⟨rfl, S⟩
                          refine OK.gt rfl rfl rfl (vaF cc42) (V (x_pickTV (v := .bool y54) rfl cc49 rfl) ?_)
                          refine U rfl rfl (V (x_pickFV (v := .bool y54) rfl (vaF cc42) rfl) ?_)
                          refine U rfl rfl (V (x_asgV (v := .bool y54) rfl) ?_)
                          refine FW.anew [(0, .string x0), (1, .string x1), (2, vx2), (11, .func (.func 13) #[] #[]), (12, .bool y54), (13, .int .i64 n32)] ⟨rfl, rfl, rfl, rfl, rfl, rfl, trivial⟩ fun σ => ?_
                          refine FW.region ?_
                          refine U rfl rfl (V (x_movV (v := .int .i64 n32) rfl) ?_)
                          refine U rfl rfl (V (x_bin rfl rfl rfl) ?_)
                          refine U rfl rfl (V (x_asgV (v := .int .i64 (i64 (n32 + 1))) rfl) ?_)
                          exact ⟨q33, Nat.le_refl _, y54, (i64 (n32 + 1)), J30, H, (Nat.le_of_succ_le hq40), ⟨rfl, rfl, rfl, rfl, rfl, rfl, trivial⟩, hL34, S⟩
                        · rw [if_neg cc49] at H
                          refine OK.gf rfl rfl rfl (vaF cc49) ?_
                          refine OK.gf rfl rfl rfl (vaF cc49) ?_
                          refine OK.gf rfl rfl rfl (vaF cc49) ?_
                          refine OK.gf rfl rfl rfl (vaF cc49) ?_
                          refine OK.gf rfl rfl rfl (vaF cc49) ?_
                          refine OK.gf rfl rfl rfl (vaF cc49) ?_
                          refine OK.gt rfl rfl rfl (vaF cc42) (V (x_pickFV (v := .bool false) rfl (vaF cc49) rfl) ?_)
                          refine U rfl rfl (V (x_pickFV (v := .bool false) rfl (vaF cc42) rfl) ?_)
                          refine U rfl rfl (V (x_asgV (v := .bool false) rfl) ?_)
                          refine FW.anew [(0, .string x0), (1, .string x1), (2, vx2), (11, .func (.func 13) #[] #[]), (12, .bool false), (13, .int .i64 n32)] ⟨rfl, rfl, rfl, rfl, rfl, rfl, trivial⟩ fun σ => ?_
                          refine FW.region ?_
                          refine U rfl rfl (V (x_movV (v := .int .i64 n32) rfl) ?_)
                          refine U rfl rfl (V (x_bin rfl rfl rfl) ?_)
                          refine U rfl rfl (V (x_asgV (v := .int .i64 (i64 (n32 + 1))) rfl) ?_)
                          exact ⟨q33, Nat.le_refl _, false, (i64 (n32 + 1)), J30, H, (Nat.le_of_succ_le hq40), ⟨rfl, rfl, rfl, rfl, rfl, rfl, trivial⟩, hL34, S⟩
                    · rw [if_neg cc41] at H
                      refine FW.condF rfl (deF cc41) ?_
                      refine FW.exit ?_
                      exact ⟨b31, J30, (Option.some.inj H), ⟨rfl, rfl, rfl, rfl, rfl, trivial⟩, hL34, S⟩
                · rintro σ w ⟨b39, J38, ho, hσ, hL34, S⟩
                  subst ho
                  have H := HO36
                  have hx2 := hx2.mono hL34
                  have hI := hI.trans hL34
                  have hG := hG.mono hL34
                  rw [hσ.eq]
                  refine FW.seq ?_
                  refine FW.region ?_
                  refine U rfl rfl (V (x_movV (v := .string x0) rfl) ?_)
                  obtain ⟨s56, h57, H⟩ := obx H
                  refine U rfl rfl (V (x_catD rfl rfl h57) ?_)
                  obtain ⟨s58, h59, H⟩ := obx H
                  refine U rfl rfl (V (x_catD rfl rfl h59) ?_)
                  refine U rfl rfl (V (x_movV (v := .string x1) rfl) ?_)
                  obtain ⟨s60, h61, H⟩ := obx H
                  refine U rfl rfl (V (x_catD rfl rfl h61) ?_)
                  obtain ⟨s62, h63, H⟩ := obx H
                  refine U rfl rfl (V (x_catD rfl rfl h63) ?_)
                  obtain ⟨y64, hy65, H⟩ := obx H
                  refine U rfl rfl (cl fb8 (@regex_Parse.ok k s62 _ _ _ _ hG S hy65) rfl ?_)
                  rintro _ w ⟨vy64_0, J66, hJ67, rfl, hy64_0, S⟩
                  have hx2 := hx2.mono hJ67
                  have hI := hI.trans hJ67
                  have hG := hG.mono hJ67
                  refine U rfl rfl (V (x_movV (v := .tuple #[vy64_0, .int .i64 y64.2]) rfl) ?_)
                  refine U rfl rfl (V (x_ext rfl rfl) ?_)
                  refine U rfl rfl (V (x_ext rfl rfl) ?_)
                  refine U rfl rfl (V (x_asgV (v := vy64_0) rfl) ?_)
                  refine U rfl rfl (V (x_asgV (v := .int .i64 y64.2) rfl) ?_)
                  refine FW.seq ?_
                  refine FW.anew [(0, .string x0), (1, .string x1), (2, vx2), (11, .func (.func 13) #[] #[]), (12, .bool b39), (14, vy64_0)] ⟨rfl, rfl, rfl, rfl, rfl, rfl, trivial⟩ fun σ => ?_
                  refine FW.region ?_
                  refine U rfl rfl (V (x_movV (v := vy64_0) rfl) ?_)
                  refine U rfl rfl (V (x_movV (v := vx2) rfl) ?_)
                  obtain ⟨y68, hy69, H⟩ := obx H
                  refine U rfl rfl (cl fb10 (@regex_Expr_Match.ok k y64.1 x2 _ _ _ _ _ _ hG S hy64_0 hx2 hy69) rfl ?_)
                  rintro _ w ⟨rfl, S⟩
                  refine U rfl rfl (V (x_movV (v := .bool b39) rfl) ?_)
                  refine U rfl rfl (V (x_beq tbool4 rfl rfl) ?_)
                  refine U rfl rfl (V (x_movV (v := .bool (y68 == b39)) rfl) ?_)
                  by_cases cc70 : y68 = b39
                  · rw [if_pos cc70] at H
                    refine OK.gt rfl rfl rfl (beT cc70) (V (x_movV (v := .func (.func 13) #[] #[]) rfl) ?_)
                    refine OK.gt rfl rfl rfl (beT cc70) (V (x_movV (v := .string x0) rfl) ?_)
                    obtain ⟨s71, h72, H⟩ := obx H
                    refine OK.gt rfl rfl rfl (beT cc70) (V (x_catD rfl rfl h72) ?_)
                    obtain ⟨s73, h74, H⟩ := obx H
                    refine OK.gt rfl rfl rfl (beT cc70) (V (x_catD rfl rfl h74) ?_)
                    refine OK.gt rfl rfl rfl (beT cc70) (V (x_movV (v := .string x1) rfl) ?_)
                    obtain ⟨s75, h76, H⟩ := obx H
                    refine OK.gt rfl rfl rfl (beT cc70) (V (x_catD rfl rfl h76) ?_)
                    obtain ⟨s77, h78, H⟩ := obx H
                    refine OK.gt rfl rfl rfl (beT cc70) (V (x_catD rfl rfl h78) ?_)
                    refine OK.gt rfl rfl rfl (beT cc70) (V (x_movV (v := vx2) rfl) ?_)
                    obtain ⟨y79, hy80, H⟩ := obx H
                    refine OK.gt rfl rfl rfl (beT cc70) (clv rfl fb13 (@speculumlaw11_RegexParts_1.ok k s77 x2 _ _ _ _ _ hG S hx2 hy80) rfl ?_)
                    rintro _ w ⟨rfl, S⟩
                    refine OK.gt rfl rfl rfl (beT cc70) (V (x_movV (v := .func (.func 13) #[] #[]) rfl) ?_)
                    refine OK.gt rfl rfl rfl (beT cc70) (V (x_movV (v := .string x0) rfl) ?_)
                    refine OK.gt rfl rfl rfl (beT cc70) (V (x_movV (v := vx2) rfl) ?_)
                    obtain ⟨y81, hy82, H⟩ := obx H
                    refine OK.gt rfl rfl rfl (beT cc70) (clv rfl fb13 (@speculumlaw11_RegexParts_1.ok k x0 x2 _ _ _ _ _ hG S hx2 hy82) rfl ?_)
                    rintro _ w ⟨rfl, S⟩
                    refine OK.gt rfl rfl rfl (beT cc70) (V (x_movV (v := .bool y81) rfl) ?_)
                    by_cases cc83 : y81 = true
                    · rw [if_pos cc83] at H
                      refine OK.gf rfl rfl rfl cc83 ?_
                      refine OK.gf rfl rfl rfl cc83 ?_
                      refine OK.gf rfl rfl rfl cc83 ?_
                      refine OK.gf rfl rfl rfl cc83 ?_
                      refine OK.gt rfl rfl rfl (beT cc70) (V (x_pickTV (v := .bool true) rfl cc83 rfl) ?_)
                      refine OK.gt rfl rfl rfl (beT cc70) (V (x_beq tbool4 rfl rfl) ?_)
                      refine U rfl rfl (V (x_pickTV (v := .bool (y79 == true)) rfl (beT cc70) rfl) ?_)
                      refine U rfl rfl (V (x_movV (v := .bool (y79 == true)) rfl) ?_)
                      by_cases cc84 : y79 = true
                      · rw [if_pos cc84] at H
                        obtain ⟨y85, hy86, H⟩ := obx H
                        refine OK.gt rfl rfl rfl (beT cc84) (cl fb7 (@speculumlaw11_awake.ok k _ _ _ _ hG S hy86) rfl ?_)
                        rintro _ w ⟨rfl, S⟩
                        refine U rfl rfl (V (x_pickTV (v := .bool y85) rfl (beT cc84) rfl) ?_)
                        refine U rfl rfl (V (x_asgV (v := .bool y85) rfl) ?_)
                        refine FW.ret ?_
                        obtain rfl := Option.some.inj H
                        exact ⟨_, ⟨_, rfl, rfl⟩, ⟨rfl, (S.weaken hI)⟩⟩
                      · rw [if_neg cc84] at H
                        refine OK.gf rfl rfl rfl (beF cc84) ?_
                        refine U rfl rfl (V (x_pickFV (v := .bool false) rfl (beF cc84) rfl) ?_)
                        refine U rfl rfl (V (x_asgV (v := .bool false) rfl) ?_)
                        refine FW.ret ?_
                        obtain rfl := Option.some.inj H
                        exact ⟨_, ⟨_, rfl, rfl⟩, ⟨rfl, (S.weaken hI)⟩⟩
                    · rw [if_neg cc83] at H
                      refine OK.gt rfl rfl rfl (vaF cc83) (V (x_movV (v := .func (.func 13) #[] #[]) rfl) ?_)
                      refine OK.gt rfl rfl rfl (vaF cc83) (V (x_movV (v := .string x1) rfl) ?_)
                      refine OK.gt rfl rfl rfl (vaF cc83) (V (x_movV (v := vx2) rfl) ?_)
                      obtain ⟨y87, hy88, H⟩ := obx H
                      refine OK.gt rfl rfl rfl (vaF cc83) (clv rfl fb13 (@speculumlaw11_RegexParts_1.ok k x1 x2 _ _ _ _ _ hG S hx2 hy88) rfl ?_)
                      rintro _ w ⟨rfl, S⟩
                      refine OK.gt rfl rfl rfl (beT cc70) (V (x_pickFV (v := .bool y87) rfl (vaF cc83) rfl) ?_)
                      refine OK.gt rfl rfl rfl (beT cc70) (V (x_beq tbool4 rfl rfl) ?_)
                      refine U rfl rfl (V (x_pickTV (v := .bool (y79 == y87)) rfl (beT cc70) rfl) ?_)
                      refine U rfl rfl (V (x_movV (v := .bool (y79 == y87)) rfl) ?_)
                      by_cases cc89 : y79 = y87
                      · rw [if_pos cc89] at H
                        obtain ⟨y90, hy91, H⟩ := obx H
                        refine OK.gt rfl rfl rfl (beT cc89) (cl fb7 (@speculumlaw11_awake.ok k _ _ _ _ hG S hy91) rfl ?_)
                        rintro _ w ⟨rfl, S⟩
                        refine U rfl rfl (V (x_pickTV (v := .bool y90) rfl (beT cc89) rfl) ?_)
                        refine U rfl rfl (V (x_asgV (v := .bool y90) rfl) ?_)
                        refine FW.ret ?_
                        obtain rfl := Option.some.inj H
                        exact ⟨_, ⟨_, rfl, rfl⟩, ⟨rfl, (S.weaken hI)⟩⟩
                      · rw [if_neg cc89] at H
                        refine OK.gf rfl rfl rfl (beF cc89) ?_
                        refine U rfl rfl (V (x_pickFV (v := .bool false) rfl (beF cc89) rfl) ?_)
                        refine U rfl rfl (V (x_asgV (v := .bool false) rfl) ?_)
                        refine FW.ret ?_
                        obtain rfl := Option.some.inj H
                        exact ⟨_, ⟨_, rfl, rfl⟩, ⟨rfl, (S.weaken hI)⟩⟩
                  · rw [if_neg cc70] at H
                    refine OK.gf rfl rfl rfl (beF cc70) ?_
                    refine OK.gf rfl rfl rfl (beF cc70) ?_
                    refine OK.gf rfl rfl rfl (beF cc70) ?_
                    refine OK.gf rfl rfl rfl (beF cc70) ?_
                    refine OK.gf rfl rfl rfl (beF cc70) ?_
                    refine OK.gf rfl rfl rfl (beF cc70) ?_
                    refine OK.gf rfl rfl rfl (beF cc70) ?_
                    refine OK.gf rfl rfl rfl (beF cc70) ?_
                    refine OK.gf rfl rfl rfl (beF cc70) ?_
                    refine OK.gf rfl rfl rfl (beF cc70) ?_
                    refine OK.gf rfl rfl rfl (beF cc70) ?_
                    refine OK.gf rfl rfl rfl (beF cc70) ?_
                    refine OK.gf rfl rfl rfl (beF cc70) ?_
                    refine OK.gf rfl rfl rfl (beF cc70) ?_
                    refine OK.gu rfl rfl rfl ?_
                    refine OK.gu rfl rfl rfl ?_
                    refine OK.gu rfl rfl rfl ?_
                    refine OK.gu rfl rfl rfl ?_
                    refine OK.gf rfl rfl rfl (beF cc70) ?_
                    refine OK.gf rfl rfl rfl (beF cc70) ?_
                    refine U rfl rfl (V (x_pickFV (v := .bool false) rfl (beF cc70) rfl) ?_)
                    refine U rfl rfl (V (x_movV (v := .bool false) rfl) ?_)
                    refine OK.gf rfl rfl rfl rfl ?_
                    refine U rfl rfl (V (x_pickFV (v := .bool false) rfl rfl rfl) ?_)
                    refine U rfl rfl (V (x_asgV (v := .bool false) rfl) ?_)
                    refine FW.ret ?_
                    obtain rfl := Option.some.inj H
                    exact ⟨_, ⟨_, rfl, rfl⟩, ⟨rfl, (S.weaken hI)⟩⟩
          · rw [if_neg cc19] at H
            refine OK.gf rfl rfl rfl (neT cc19) ?_
            refine OK.gf rfl rfl rfl (neT cc19) ?_
            refine U rfl rfl (V (x_pickTV (v := .bool true) rfl (neT cc19) rfl) ?_)
            refine U rfl rfl (V (x_movV (v := .bool true) rfl) ?_)
            refine OK.gf rfl rfl rfl rfl ?_
            refine OK.gf rfl rfl rfl rfl ?_
            refine U rfl rfl (V (x_pickTV (v := .bool true) rfl rfl rfl) ?_)
            refine FW.condT rfl rfl ?_
            refine FW.seq ?_
            refine FW.anew [] trivial fun σ => ?_
            refine FW.region ?_
            obtain ⟨y92, hy93, H⟩ := obx H
            refine U rfl rfl (cl fb7 (@speculumlaw11_awake.ok k _ _ _ _ hG S hy93) rfl ?_)
            rintro _ w ⟨rfl, S⟩
            refine U rfl rfl (V (x_asgV (v := .bool y92) rfl) ?_)
            refine FW.ret ?_
            obtain rfl := Option.some.inj H
            exact ⟨_, ⟨_, rfl, rfl⟩, ⟨rfl, (S.weaken hI)⟩⟩
        · rw [if_neg cc18] at H
          refine OK.gf rfl rfl rfl (neT cc18) ?_
          refine OK.gf rfl rfl rfl (neT cc18) ?_
          refine U rfl rfl (V (x_pickTV (v := .bool true) rfl (neT cc18) rfl) ?_)
          refine U rfl rfl (V (x_movV (v := .bool true) rfl) ?_)
          refine OK.gf rfl rfl rfl rfl ?_
          refine OK.gf rfl rfl rfl rfl ?_
          refine U rfl rfl (V (x_pickTV (v := .bool true) rfl rfl rfl) ?_)
          refine U rfl rfl (V (x_movV (v := .bool true) rfl) ?_)
          refine OK.gf rfl rfl rfl rfl ?_
          refine OK.gf rfl rfl rfl rfl ?_
          refine U rfl rfl (V (x_pickTV (v := .bool true) rfl rfl rfl) ?_)
          refine FW.condT rfl rfl ?_
          refine FW.seq ?_
          refine FW.anew [] trivial fun σ => ?_
          refine FW.region ?_
          obtain ⟨y94, hy95, H⟩ := obx H
          refine U rfl rfl (cl fb7 (@speculumlaw11_awake.ok k _ _ _ _ hG S hy95) rfl ?_)
          rintro _ w ⟨rfl, S⟩
          refine U rfl rfl (V (x_asgV (v := .bool y94) rfl) ?_)
          refine FW.ret ?_
          obtain rfl := Option.some.inj H
          exact ⟨_, ⟨_, rfl, rfl⟩, ⟨rfl, (S.weaken hI)⟩⟩
end Go.Proofs.YtkkflfmonidepaaDoor
