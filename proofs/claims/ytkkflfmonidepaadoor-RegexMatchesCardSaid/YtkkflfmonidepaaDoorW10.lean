/-
  Parts of the proof, merged: F5, F6.
-/
import Derived.Test.YtkkflfmonidepaaDoorW9
namespace Go.Proofs.YtkkflfmonidepaaDoor
open Sp
set_option maxRecDepth 100000
set_option maxHeartbeats 4000000
def speculumref11_P_set.l0 : Nat → Bool → Int → ByteArray → Int → (List T_speculumref11_Node) → Bool → (List Int) → (List Int) → Option (Sum (Int × T_speculumref11_P) (ByteArray × Int × (List T_speculumref11_Node) × Bool × (List Int) × (List Int)))
  | 0, _, _, _, _, _, _, _, _ => none
  | k + 1, b8, n16, s17, n18, l19, b22, l23, l26 => (if n16 ≤ (s17.size : Int) then (if b22 = true then (some (.inr (s17, n18, l19, b22, l23, l26))) else ((speculumref11_P_sign.f k (T_speculumref11_P.mk s17 n18 l19 b22)).bind fun y50 => (if y50.1 = 44 then (speculumref11_P_set.l0 k b8 (i64 (n16 + 1)) y50.2.S (i64 (y50.2.At + 1)) y50.2.N y50.2.Bad l23 l26) else (if y50.1 = 93 then (if (l23.length : Int) > 0 then ((speculumref11_P_put.f k (T_speculumref11_P.mk y50.2.S (i64 (y50.2.At + 1)) y50.2.N y50.2.Bad) (T_speculumref11_Node.mk 115 [] l23 l26 b8 false)).bind fun y57 => (some (.inl (y57.1, y57.2)))) else ((speculumref11_digit.f k y50.1).bind fun y61 => (if y61 = true then ((speculumref11_P_num.f k y50.2).bind fun y64 => (if y64.2.At < (y64.2.S.size : Int) then ((sat y64.2.S y64.2.At).bind fun y70 => ((if y70 = 45 then ((speculumref11_P_num.f k (T_speculumref11_P.mk y64.2.S (i64 (y64.2.At + 1)) y64.2.N y64.2.Bad)).bind fun y84 => (some (y84.1, y84.2.S, y84.2.At, y84.2.N, y84.2.Bad))) else (some (y64.1, y64.2.S, y64.2.At, y64.2.N, y64.2.Bad))).bind fun (n73, s74, n75, l76, b79) => (if b79 = true then ((app 8 l23 [y64.1]).bind fun l93 => ((app 8 l26 [n73]).bind fun l103 => (speculumref11_P_set.l0 k b8 (i64 (n16 + 1)) s74 n75 l76 true l93 l103))) else ((app 8 l23 [y64.1]).bind fun l113 => ((app 8 l26 [n73]).bind fun l123 => (speculumref11_P_set.l0 k b8 (i64 (n16 + 1)) s74 n75 l76 (decide (y64.1 > n73)) l113 l123)))))) else (if y64.2.Bad = true then ((app 8 l23 [y64.1]).bind fun l134 => ((app 8 l26 [y64.1]).bind fun l144 => (speculumref11_P_set.l0 k b8 (i64 (n16 + 1)) y64.2.S y64.2.At y64.2.N true l134 l144))) else ((app 8 l23 [y64.1]).bind fun l154 => ((app 8 l26 [y64.1]).bind fun l164 => (speculumref11_P_set.l0 k b8 (i64 (n16 + 1)) y64.2.S y64.2.At y64.2.N (decide (y64.1 > y64.1)) l154 l164)))))) else (speculumref11_P_set.l0 k b8 (i64 (n16 + 1)) y50.2.S y50.2.At y50.2.N true l23 l26)))) else ((speculumref11_digit.f k y50.1).bind fun y170 => (if y170 = true then ((speculumref11_P_num.f k y50.2).bind fun y173 => (if y173.2.At < (y173.2.S.size : Int) then ((sat y173.2.S y173.2.At).bind fun y179 => ((if y179 = 45 then ((speculumref11_P_num.f k (T_speculumref11_P.mk y173.2.S (i64 (y173.2.At + 1)) y173.2.N y173.2.Bad)).bind fun y193 => (some (y193.1, y193.2.S, y193.2.At, y193.2.N, y193.2.Bad))) else (some (y173.1, y173.2.S, y173.2.At, y173.2.N, y173.2.Bad))).bind fun (n182, s183, n184, l185, b188) => (if b188 = true then ((app 8 l23 [y173.1]).bind fun l202 => ((app 8 l26 [n182]).bind fun l212 => (speculumref11_P_set.l0 k b8 (i64 (n16 + 1)) s183 n184 l185 true l202 l212))) else ((app 8 l23 [y173.1]).bind fun l222 => ((app 8 l26 [n182]).bind fun l232 => (speculumref11_P_set.l0 k b8 (i64 (n16 + 1)) s183 n184 l185 (decide (y173.1 > n182)) l222 l232)))))) else (if y173.2.Bad = true then ((app 8 l23 [y173.1]).bind fun l243 => ((app 8 l26 [y173.1]).bind fun l253 => (speculumref11_P_set.l0 k b8 (i64 (n16 + 1)) y173.2.S y173.2.At y173.2.N true l243 l253))) else ((app 8 l23 [y173.1]).bind fun l263 => ((app 8 l26 [y173.1]).bind fun l273 => (speculumref11_P_set.l0 k b8 (i64 (n16 + 1)) y173.2.S y173.2.At y173.2.N (decide (y173.1 > y173.1)) l263 l273)))))) else (speculumref11_P_set.l0 k b8 (i64 (n16 + 1)) y50.2.S y50.2.At y50.2.N true l23 l26))))))) else (some (.inr (s17, n18, l19, b22, l23, l26))))
def speculumref11_P_set.f (k : Nat) (x0 : T_speculumref11_P) : Option (Int × T_speculumref11_P) := ((speculumref11_P_sign.f k x0).bind fun y2 => ((if y2.1 = 94 then (some ((i64 (y2.2.At + 1)), true)) else (some (y2.2.At, false))).bind fun (n7, b8) => (((speculumref11_P_set.l0 k b8 0 y2.2.S n7 y2.2.N y2.2.Bad [] []) : Option (Sum (Int × T_speculumref11_P) (ByteArray × Int × (List T_speculumref11_Node) × Bool × (List Int) × (List Int)))).bind fun o => match o with | .inl r => some r | .inr (s35, n36, l37, b40, l41, l44) => (some (0, (T_speculumref11_P.mk s35 n36 l37 true))))))
abbrev speculumref11_P_set.C (k : Nat) : Prop := ∀ {x0 : T_speculumref11_P} {x0v2 : Value} {bx0 : Nat} {F : List It} {I : IMem} {w : World} {r : Int × T_speculumref11_P}, Glob I → Own I w (.bk bx0 62 [.string x0.S, .int .i64 x0.At, x0v2, .bool x0.Bad] :: .tv x0v2 77 6 :: F) → SlR R_speculumref11_Node I x0v2 x0.N → speculumref11_P_set.f k x0 = some r →
    Calls Tryd.prog 53 #[.pointer (some ⟨bx0, 0, none⟩)] w fun e w' => ∃ v, e = .returned v ∧ ∃ (y_1v2 : Value) (J : IMem), I.le J ∧ v = .int .i64 r.1 ∧ SlR R_speculumref11_Node J y_1v2 r.2.N ∧ Own J w' (.bk bx0 62 [.string r.2.S, .int .i64 r.2.At, y_1v2, .bool r.2.Bad] :: .tv y_1v2 77 6 :: F)
theorem speculumref11_P_set.ok (k : Nat) : speculumref11_P_set.C k := by
  intro x0 x0v2 bx0 F I w r hG S x0h2 H
  have hI := IMem.le.refl I
  rw [speculumref11_P_set.f] at H
  refine Calls.ofFW (args := [.pointer (some ⟨bx0, 0, none⟩)]) Tryd.func53 rfl rfl ?_
  refine FW.seq ?_
  refine FW.region ?_
  refine U rfl rfl (V (x_asgV (v := .int .i64 0) rfl) ?_)
  refine FW.seq ?_
  refine FW.region ?_
  refine U rfl rfl (V (x_bld tz77 tpl77 rfl (.one rfl PC.nil) rfl) ?_)
  refine U rfl rfl (o_all tz77 S fun b1 w S => ?_)
  refine U rfl rfl (o_stA tag77 S 0 rfl rfl rfl rfl (c1 rfl (c1 rfl (c1 rfl (c1 rfl (c1 rfl (c1 rfl c0)))))) rfl fun w S => ?_)
  refine FW.seq ?_
  refine FW.seq ?_
  refine FW.region ?_
  refine U rfl rfl (V (x_movV (v := .pointer (some ⟨bx0, 0, none⟩)) rfl) ?_)
  obtain ⟨y2, hy3, H⟩ := obx H
  refine U rfl rfl (cl fb21 (@speculumref11_P_sign.ok k x0 _ _ _ _ _ _ hG (S.sel 3 [1, 2, 0] rfl) x0h2 hy3) rfl ?_)
  rintro _ w ⟨y2_1v2, J4, hJ5, rfl, y2_1h2, S⟩
  have hI := hI.trans hJ5
  have hG := hG.mono hJ5
  refine U rfl rfl (V (x_bin rfl rfl rfl) ?_)
  obtain ⟨o9, H, HO10⟩ := obx H
  have hL11 := IMem.le.refl J4
  refine FW.cutN (fun σ w => ∃ (n7 : Int) (b8 : Bool) (J6 : IMem), (n7, b8) = o9 ∧ Has σ [(0, .pointer (some ⟨bx0, 0, none⟩)), (3, .pointer (some ⟨b1, 0, none⟩))] ∧ J4.le J6 ∧ Own J6 w (.bk bx0 62 [.string y2.2.S, .int .i64 n7, y2_1v2, .bool y2.2.Bad] :: .tv y2_1v2 77 6 :: .bk b1 77 [.int .u8 115, (.slice none 0 0), (.slice none 0 0), (.slice none 0 0), .bool b8, .bool false] :: F)) ?_ ?_
  ·
    by_cases cc12 : y2.1 = 94
    · rw [if_pos cc12] at H
      refine FW.condT rfl (eqT cc12) ?_
      refine FW.seq ?_
      refine FW.anew [(0, .pointer (some ⟨bx0, 0, none⟩)), (3, .pointer (some ⟨b1, 0, none⟩))] ⟨rfl, rfl, trivial⟩ fun σ => ?_
      refine FW.region ?_
      refine U rfl rfl (V (x_fa tf77_4 rfl) ?_)
      refine U rfl rfl (o_st tone4 S 2 rfl rfl rfl rfl fun w S => ?_)
      refine FW.region ?_
      refine U rfl rfl (V (x_movV (v := .pointer (some ⟨bx0, 0, none⟩)) rfl) ?_)
      refine U rfl rfl (V (x_movV (v := .pointer (some ⟨bx0, 0, none⟩)) rfl) ?_)
      refine U rfl rfl (V (x_nk rfl) ?_)
      refine U rfl rfl (V (x_fa tf62_1 rfl) ?_)
      refine U rfl rfl (V (x_ld tsc3 rfl (S.load 0 rfl 1 rfl)) ?_)
      refine U rfl rfl (V (x_bin rfl rfl rfl) ?_)
      refine U rfl rfl (V (x_nk rfl) ?_)
      refine U rfl rfl (V (x_fa tf62_1 rfl) ?_)
      refine U rfl rfl (o_st tone3 S 0 rfl rfl rfl rfl fun w S => ?_)
      exact ⟨(i64 (y2.2.At + 1)), true, J4, (Option.some.inj H), ⟨rfl, rfl, trivial⟩, hL11, S⟩
    · rw [if_neg cc12] at H
      refine FW.condF rfl (eqF cc12) ?_
      refine FW.skip ?_
      exact ⟨y2.2.At, false, J4, (Option.some.inj H), ⟨rfl, rfl, trivial⟩, hL11, S⟩
  · rintro σ w ⟨n7, b8, J6, ho, hσ, hL11, S⟩
    subst ho
    have H := HO10
    try dsimp only at H
    have y2_1h2 := y2_1h2.mono hL11
    have hI := hI.trans hL11
    have hG := hG.mono hL11
    rw [hσ.eq]
    refine FW.seq ?_
    refine FW.seq ?_
    refine FW.region ?_
    refine U rfl rfl (V (x_asgV (v := .int .i64 0) rfl) ?_)
    refine FW.block ?_
    have S := S.nil_tv 3 1
    have S := S.nil_tv 3 1
    obtain ⟨o31, hl33, HO32⟩ := obx H
    refine FW.cutX 0 (fun σ w => ∃ (s35 : ByteArray) (n36 : Int) (l37 : (List T_speculumref11_Node)) (b40 : Bool) (l41 : (List Int)) (l44 : (List Int)) (v38 : Value) (v42 : Value) (v45 : Value) (J34 : IMem), (.inr (s35, n36, l37, b40, l41, l44)) = o31 ∧ Has σ [(0, .pointer (some ⟨bx0, 0, none⟩))] ∧ J6.le J34 ∧ Own J34 w (.tv v45 3 1 :: .tv v42 3 1 :: .bk bx0 62 [.string s35, .int .i64 n36, v38, .bool b40] :: .tv v38 77 6 :: .bk b1 77 [.int .u8 115, (.slice none 0 0), v42, v45, .bool b8, .bool false] :: F) ∧ SlR R_speculumref11_Node J34 v38 l37 ∧ SlR (tInt' .i64) J34 v42 l41 ∧ SlR (tInt' .i64) J34 v45 l44) ?_ ?_
    ·
      refine FW.loop k (FL.ind (fun q σ w => ∃ (n16 : Int) (s17 : ByteArray) (n18 : Int) (l19 : (List T_speculumref11_Node)) (b22 : Bool) (l23 : (List Int)) (l26 : (List Int)) (v20 : Value) (v24 : Value) (v27 : Value) (J15 : IMem), speculumref11_P_set.l0 q b8 n16 s17 n18 l19 b22 l23 l26 = some o31 ∧ q ≤ k ∧ Has σ [(0, .pointer (some ⟨bx0, 0, none⟩)), (3, .pointer (some ⟨b1, 0, none⟩)), (4, .int .i64 n16)] ∧ J6.le J15 ∧ Own J15 w (.tv v27 3 1 :: .tv v24 3 1 :: .bk bx0 62 [.string s17, .int .i64 n18, v20, .bool b22] :: .tv v20 77 6 :: .bk b1 77 [.int .u8 115, (.slice none 0 0), v24, v27, .bool b8, .bool false] :: F) ∧ SlR R_speculumref11_Node J15 v20 l19 ∧ SlR (tInt' .i64) J15 v24 l23 ∧ SlR (tInt' .i64) J15 v27 l26) ?_ ?_ k k _ _ (Nat.le_refl _) ⟨0, y2.2.S, n7, y2.2.N, y2.2.Bad, [], [], y2_1v2, (.slice none 0 0), (.slice none 0 0), J6, hl33, Nat.le_refl _, ⟨rfl, rfl, rfl, trivial⟩, (IMem.le.refl _), S, y2_1h2, (SlR.nil _ _), (SlR.nil _ _)⟩)
      · rintro σ w ⟨n16, s17, n18, l19, b22, l23, l26, v20, v24, v27, J15, H, _⟩; cases H
      · rintro q29 σ w ⟨n16, s17, n18, l19, b22, l23, l26, v20, v24, v27, J15, H, hq47, hσ, hL30, S, h21, h25, h28⟩
        have hI := hI.trans hL30
        have hG := hG.mono hL30
        rw [hσ.eq]
        rw [speculumref11_P_set.l0] at H
        refine FW.seq ?_
        refine FW.seq ?_
        refine FW.region ?_
        refine U rfl rfl (V (x_movV (v := .int .i64 n16) rfl) ?_)
        refine U rfl rfl (V (x_movV (v := .pointer (some ⟨bx0, 0, none⟩)) rfl) ?_)
        refine U rfl rfl (V (x_nk rfl) ?_)
        refine U rfl rfl (V (x_fa tf62_0 rfl) ?_)
        refine U rfl rfl (V (x_ld tsc9 rfl (S.load 2 rfl 0 rfl)) ?_)
        refine U rfl rfl (V (x_lens tstr9 rfl) ?_)
        refine U rfl rfl (V (x_bin rfl rfl rfl) ?_)
        refine U rfl rfl (V (x_movV (v := .bool (decide (n16 ≤ (s17.size : Int)))) rfl) ?_)
        by_cases cc48 : n16 ≤ (s17.size : Int)
        · rw [if_pos cc48] at H
          refine OK.gt rfl rfl rfl (deT cc48) (V (x_movV (v := .pointer (some ⟨bx0, 0, none⟩)) rfl) ?_)
          refine OK.gt rfl rfl rfl (deT cc48) (V (x_nk rfl) ?_)
          refine OK.gt rfl rfl rfl (deT cc48) (V (x_fa tf62_3 rfl) ?_)
          refine OK.gt rfl rfl rfl (deT cc48) (V (x_ld tsc4 rfl (S.load 2 rfl 3 rfl)) ?_)
          refine OK.gt rfl rfl rfl (deT cc48) (V (x_not' rfl) ?_)
          refine U rfl rfl (V (x_pickTV (v := .bool (!b22)) rfl (deT cc48) rfl) ?_)
          by_cases cc49 : b22 = true
          · rw [if_pos cc49] at H
            refine FW.condF rfl (noF cc49) ?_
            refine FW.exit ?_
            exact ⟨s17, n18, l19, b22, l23, l26, v20, v24, v27, J15, (Option.some.inj H), ⟨rfl, trivial⟩, hL30, S, h21, h25, h28⟩
          · rw [if_neg cc49] at H
            refine FW.condT rfl (noT (vaF cc49)) ?_
            refine FW.skip ?_
            refine FW.seq ?_
            refine FW.block ?_
            refine FW.seq ?_
            refine FW.anew [(0, .pointer (some ⟨bx0, 0, none⟩)), (3, .pointer (some ⟨b1, 0, none⟩)), (4, .int .i64 n16)] ⟨rfl, rfl, rfl, trivial⟩ fun σ => ?_
            refine FW.region ?_
            refine U rfl rfl (V (x_movV (v := .pointer (some ⟨bx0, 0, none⟩)) rfl) ?_)
            obtain ⟨y50, hy51, H⟩ := obx H
            refine U rfl rfl (cl fb21 (@speculumref11_P_sign.ok q29 (T_speculumref11_P.mk s17 n18 l19 b22) _ _ _ _ _ _ hG (S.sel 5 [2, 3, 0, 1, 4] rfl) h21 hy51) rfl ?_)
            rintro _ w ⟨y50_1v2, J52, hJ53, rfl, y50_1h2, S⟩
            have h25 := h25.mono hJ53
            have h28 := h28.mono hJ53
            have hI := hI.trans hJ53
            have hL30 := hL30.trans hJ53
            have hG := hG.mono hJ53
            refine U rfl rfl (V (x_asgV (v := .int .u8 y50.1) rfl) ?_)
            refine FW.block ?_
            refine FW.seq ?_
            refine FW.region ?_
            refine U rfl rfl (V (x_movV (v := .int .u8 y50.1) rfl) ?_)
            refine U rfl rfl (V (x_bin rfl rfl rfl) ?_)
            refine U rfl rfl (V (x_asgV (v := .bool (y50.1 == 44)) rfl) ?_)
            by_cases cc54 : y50.1 = 44
            · rw [if_pos cc54] at H
              refine FW.condT rfl (eqT cc54) ?_
              refine FW.region ?_
              refine U rfl rfl (V (x_movV (v := .pointer (some ⟨bx0, 0, none⟩)) rfl) ?_)
              refine U rfl rfl (V (x_movV (v := .pointer (some ⟨bx0, 0, none⟩)) rfl) ?_)
              refine U rfl rfl (V (x_nk rfl) ?_)
              refine U rfl rfl (V (x_fa tf62_1 rfl) ?_)
              refine U rfl rfl (V (x_ld tsc3 rfl (S.load 0 rfl 1 rfl)) ?_)
              refine U rfl rfl (V (x_bin rfl rfl rfl) ?_)
              refine U rfl rfl (V (x_nk rfl) ?_)
              refine U rfl rfl (V (x_fa tf62_1 rfl) ?_)
              refine U rfl rfl (o_st tone3 S 0 rfl rfl rfl rfl fun w S => ?_)
              refine FW.anew [(0, .pointer (some ⟨bx0, 0, none⟩)), (3, .pointer (some ⟨b1, 0, none⟩)), (4, .int .i64 n16)] ⟨rfl, rfl, rfl, trivial⟩ fun σ => ?_
              refine FW.region ?_
              refine U rfl rfl (V (x_movV (v := .int .i64 n16) rfl) ?_)
              refine U rfl rfl (V (x_bin rfl rfl rfl) ?_)
              refine U rfl rfl (V (x_asgV (v := .int .i64 (i64 (n16 + 1))) rfl) ?_)
              exact ⟨q29, Nat.le_refl _, (i64 (n16 + 1)), y50.2.S, (i64 (y50.2.At + 1)), y50.2.N, y50.2.Bad, l23, l26, y50_1v2, v24, v27, J52, H, (Nat.le_of_succ_le hq47), ⟨rfl, rfl, rfl, trivial⟩, hL30, (S.sel 5 [2, 3, 0, 1, 4] rfl), y50_1h2, h25, h28⟩
            · rw [if_neg cc54] at H
              refine FW.condF rfl (eqF cc54) ?_
              refine FW.seq ?_
              refine FW.region ?_
              refine U rfl rfl (V (x_movV (v := .int .u8 y50.1) rfl) ?_)
              refine U rfl rfl (V (x_bin rfl rfl rfl) ?_)
              refine U rfl rfl (V (x_movV (v := .bool (y50.1 == 93)) rfl) ?_)
              by_cases cc55 : y50.1 = 93
              · rw [if_pos cc55] at H
                refine OK.gt rfl rfl rfl (eqT cc55) (V (x_fa tf77_2 rfl) ?_)
                refine OK.gt rfl rfl rfl (eqT cc55) (V (x_ld tsc75 rfl (S.load 4 rfl 2 rfl)) ?_)
                refine OK.gt rfl rfl rfl (eqT cc55) (V (x_lenD (r := (tInt' .i64)) tsl75 h25) ?_)
                refine OK.gt rfl rfl rfl (eqT cc55) (V (x_bin rfl rfl rfl) ?_)
                refine U rfl rfl (V (x_pickTV (v := .bool (decide ((l23.length : Int) > 0))) rfl (eqT cc55) rfl) ?_)
                refine U rfl rfl (V (x_asgV (v := .bool (decide ((l23.length : Int) > 0))) rfl) ?_)
                by_cases cc56 : (l23.length : Int) > 0
                · rw [if_pos cc56] at H
                  refine FW.condT rfl (deT cc56) ?_
                  refine FW.seq ?_
                  refine FW.anew [(0, .pointer (some ⟨bx0, 0, none⟩)), (3, .pointer (some ⟨b1, 0, none⟩))] ⟨rfl, rfl, trivial⟩ fun σ => ?_
                  refine FW.region ?_
                  refine U rfl rfl (V (x_movV (v := .pointer (some ⟨bx0, 0, none⟩)) rfl) ?_)
                  refine U rfl rfl (V (x_movV (v := .pointer (some ⟨bx0, 0, none⟩)) rfl) ?_)
                  refine U rfl rfl (V (x_nk rfl) ?_)
                  refine U rfl rfl (V (x_fa tf62_1 rfl) ?_)
                  refine U rfl rfl (V (x_ld tsc3 rfl (S.load 0 rfl 1 rfl)) ?_)
                  refine U rfl rfl (V (x_bin rfl rfl rfl) ?_)
                  refine U rfl rfl (V (x_nk rfl) ?_)
                  refine U rfl rfl (V (x_fa tf62_1 rfl) ?_)
                  refine U rfl rfl (o_st tone3 S 0 rfl rfl rfl rfl fun w S => ?_)
                  refine FW.seq ?_
                  refine FW.anew [(0, .pointer (some ⟨bx0, 0, none⟩)), (3, .pointer (some ⟨b1, 0, none⟩))] ⟨rfl, rfl, trivial⟩ fun σ => ?_
                  refine FW.region ?_
                  refine U rfl rfl (V (x_movV (v := .pointer (some ⟨bx0, 0, none⟩)) rfl) ?_)
                  refine U rfl rfl (V (x_ldA tag77 rfl (S.loadW 4 rfl) rfl) ?_)
                  obtain ⟨y57, hy58, H⟩ := obx H
                  refine U rfl rfl (cl fb33 (@speculumref11_P_put.ok q29 (T_speculumref11_P.mk y50.2.S (i64 (y50.2.At + 1)) y50.2.N y50.2.Bad) (T_speculumref11_Node.mk 115 [] l23 l26 b8 false) _ _ _ _ _ _ _ _ _ hG S y50_1h2 (SlR.nil _ _) h25 h28 hy58) rfl ?_)
                  rintro _ w ⟨y57_1v2, J59, hJ60, rfl, y57_1h2, S⟩
                  have h25 := h25.mono hJ60
                  have h28 := h28.mono hJ60
                  have hI := hI.trans hJ60
                  have hL30 := hL30.trans hJ60
                  have hG := hG.mono hJ60
                  refine U rfl rfl (V (x_asgV (v := .int .i64 y57.1) rfl) ?_)
                  refine FW.ret ?_
                  obtain rfl := Option.some.inj H
                  obtain rfl := Option.some.inj HO32
                  exact ⟨_, ⟨_, rfl, rfl⟩, ⟨y57_1v2, J59, hI, rfl, y57_1h2, (S.sel 5 [0, 1] rfl)⟩⟩
                · rw [if_neg cc56] at H
                  refine FW.condF rfl (deF cc56) ?_
                  refine FW.seq ?_
                  refine FW.anew [(0, .pointer (some ⟨bx0, 0, none⟩)), (3, .pointer (some ⟨b1, 0, none⟩)), (4, .int .i64 n16), (5, .int .u8 y50.1)] ⟨rfl, rfl, rfl, rfl, trivial⟩ fun σ => ?_
                  refine FW.region ?_
                  refine U rfl rfl (V (x_movV (v := .int .u8 y50.1) rfl) ?_)
                  obtain ⟨y61, hy62, H⟩ := obx H
                  refine U rfl rfl (cl fb51 (@speculumref11_digit.ok q29 y50.1 _ _ _ _ hG S hy62) rfl ?_)
                  rintro _ w ⟨rfl, S⟩
                  refine U rfl rfl (V (x_asgV (v := .bool y61) rfl) ?_)
                  by_cases cc63 : y61 = true
                  · rw [if_pos cc63] at H
                    refine FW.condT rfl cc63 ?_
                    refine FW.seq ?_
                    refine FW.region ?_
                    refine U rfl rfl (V (x_movV (v := .pointer (some ⟨bx0, 0, none⟩)) rfl) ?_)
                    obtain ⟨y64, hy65, H⟩ := obx H
                    refine U rfl rfl (cl fb52 (@speculumref11_P_num.ok q29 y50.2 _ _ _ _ _ _ hG S y50_1h2 hy65) rfl ?_)
                    rintro _ w ⟨y64_1v2, J66, hJ67, rfl, y64_1h2, S⟩
                    have h25 := h25.mono hJ67
                    have h28 := h28.mono hJ67
                    have hI := hI.trans hJ67
                    have hL30 := hL30.trans hJ67
                    have hG := hG.mono hJ67
                    refine U rfl rfl (V (x_asgV (v := .int .i64 y64.1) rfl) ?_)
                    refine FW.seq ?_
                    refine FW.region ?_
                    refine U rfl rfl (V (x_movV (v := .int .i64 y64.1) rfl) ?_)
                    refine U rfl rfl (V (x_asgV (v := .int .i64 y64.1) rfl) ?_)
                    refine FW.seq ?_
                    refine FW.seq ?_
                    refine FW.anew [(0, .pointer (some ⟨bx0, 0, none⟩)), (3, .pointer (some ⟨b1, 0, none⟩)), (4, .int .i64 n16), (6, .int .i64 y64.1), (7, .int .i64 y64.1)] ⟨rfl, rfl, rfl, rfl, rfl, trivial⟩ fun σ => ?_
                    have S := S.drew
                    refine FW.regionD mixed ?_
                    have hO := Hold.nil (w := { w with drawn := w.drawn + 1 })
                    refine AQ.pure 0 rfl (by kernel_rfl) (by kernel_rfl) (by kernel_rfl) rfl hO (fun w => x_movV (v := .pointer (some ⟨bx0, 0, none⟩)) rfl) ?_
                    refine AQ.pure 1 rfl (by kernel_rfl) (by kernel_rfl) (by kernel_rfl) rfl hO (fun w => x_nk rfl) ?_
                    refine AQ.pure 2 rfl (by kernel_rfl) (by kernel_rfl) (by kernel_rfl) rfl hO (fun w => x_fa tf62_1 rfl) ?_
                    have hR68 := IMem.le.refl J66
                    refine AQ.take (S := Stab J66 [.bk bx0 62 [.string y64.2.S, .int .i64 y64.2.At, y64_1v2, .bool y64.2.Bad]]) 3 rfl (by kernel_rfl) (by kernel_rfl) (by kernel_rfl) rfl hO (Stab.of S 0 rfl hR68) (fun w hS => x_ld tsc3 rfl (hS.load 0 rfl 1 rfl)) fun hO => ?_
                    refine AQ.pure 4 rfl (by kernel_rfl) (by kernel_rfl) (by kernel_rfl) rfl hO (fun w => x_movV (v := .pointer (some ⟨bx0, 0, none⟩)) rfl) ?_
                    refine AQ.pure 5 rfl (by kernel_rfl) (by kernel_rfl) (by kernel_rfl) rfl hO (fun w => x_nk rfl) ?_
                    refine AQ.pure 6 rfl (by kernel_rfl) (by kernel_rfl) (by kernel_rfl) rfl hO (fun w => x_fa tf62_0 rfl) ?_
                    refine AQ.take (S := Stab J66 [.bk bx0 62 [.string y64.2.S, .int .i64 y64.2.At, y64_1v2, .bool y64.2.Bad]]) 7 rfl (by kernel_rfl) (by kernel_rfl) (by kernel_rfl) rfl hO (Stab.of S 0 rfl hR68) (fun w hS => x_ld tsc9 rfl (hS.load 0 rfl 0 rfl)) fun hO => ?_
                    refine AQ.pure 8 rfl (by kernel_rfl) (by kernel_rfl) (by kernel_rfl) rfl hO (fun w => x_lens tstr9 rfl) ?_
                    refine AQ.pure 9 rfl (by kernel_rfl) (by kernel_rfl) (by kernel_rfl) rfl hO (fun w => x_bin rfl rfl rfl) ?_
                    refine AQ.pure 10 rfl (by kernel_rfl) (by kernel_rfl) (by kernel_rfl) rfl hO (fun w => x_movV (v := .bool (decide (y64.2.At < (y64.2.S.size : Int)))) rfl) ?_
                    by_cases cc69 : y64.2.At < (y64.2.S.size : Int)
                    · rw [if_pos cc69] at H
                      refine AQ.pure 11 rfl (by kernel_rfl) (by kernel_rfl) (by kernel_rfl) (gT rfl rfl (deT cc69)) hO (fun w => x_movV (v := .pointer (some ⟨bx0, 0, none⟩)) rfl) ?_
                      refine AQ.pure 12 rfl (by kernel_rfl) (by kernel_rfl) (by kernel_rfl) (gT rfl rfl (deT cc69)) hO (fun w => x_nk rfl) ?_
                      refine AQ.pure 13 rfl (by kernel_rfl) (by kernel_rfl) (by kernel_rfl) (gT rfl rfl (deT cc69)) hO (fun w => x_fa tf62_0 rfl) ?_
                      refine AQ.take (S := Stab J66 [.bk bx0 62 [.string y64.2.S, .int .i64 y64.2.At, y64_1v2, .bool y64.2.Bad]]) 14 rfl (by kernel_rfl) (by kernel_rfl) (by kernel_rfl) (gT rfl rfl (deT cc69)) hO (Stab.of S 0 rfl hR68) (fun w hS => x_ld tsc9 rfl (hS.load 0 rfl 0 rfl)) fun hO => ?_
                      refine AQ.pure 15 rfl (by kernel_rfl) (by kernel_rfl) (by kernel_rfl) (gT rfl rfl (deT cc69)) hO (fun w => x_movV (v := .pointer (some ⟨bx0, 0, none⟩)) rfl) ?_
                      refine AQ.pure 16 rfl (by kernel_rfl) (by kernel_rfl) (by kernel_rfl) (gT rfl rfl (deT cc69)) hO (fun w => x_nk rfl) ?_
                      refine AQ.pure 17 rfl (by kernel_rfl) (by kernel_rfl) (by kernel_rfl) (gT rfl rfl (deT cc69)) hO (fun w => x_fa tf62_1 rfl) ?_
                      refine AQ.take (S := Stab J66 [.bk bx0 62 [.string y64.2.S, .int .i64 y64.2.At, y64_1v2, .bool y64.2.Bad]]) 18 rfl (by kernel_rfl) (by kernel_rfl) (by kernel_rfl) (gT rfl rfl (deT cc69)) hO (Stab.of S 0 rfl hR68) (fun w hS => x_ld tsc3 rfl (hS.load 0 rfl 1 rfl)) fun hO => ?_
                      obtain ⟨y70, h71, H⟩ := obx H
                      refine AQ.pure 19 rfl (by kernel_rfl) (by kernel_rfl) (by kernel_rfl) (gT rfl rfl (deT cc69)) hO (fun w => x_sat tstr9 rfl rfl h71) ?_
                      refine AQ.pure 20 rfl (by kernel_rfl) (by kernel_rfl) (by kernel_rfl) (gT rfl rfl (deT cc69)) hO (fun w => x_bin rfl rfl rfl) ?_
                      refine AQ.pure 21 rfl (by kernel_rfl) (by kernel_rfl) (by kernel_rfl) rfl hO (fun w => x_pickTV (v := .bool (y70 == 45)) rfl (deT cc69) rfl) ?_
                      refine AQ.done (by kernel_rfl) ?_
                      obtain ⟨o80, H, HO81⟩ := obx H
                      have hL82 := IMem.le.refl J66
                      refine FW.cutN (fun σ w => ∃ (n73 : Int) (s74 : ByteArray) (n75 : Int) (l76 : (List T_speculumref11_Node)) (b79 : Bool) (v77 : Value) (J72 : IMem), (n73, s74, n75, l76, b79) = o80 ∧ Has σ [(0, .pointer (some ⟨bx0, 0, none⟩)), (3, .pointer (some ⟨b1, 0, none⟩)), (4, .int .i64 n16), (6, .int .i64 y64.1), (7, .int .i64 n73)] ∧ J66.le J72 ∧ Own J72 w (.bk bx0 62 [.string s74, .int .i64 n75, v77, .bool b79] :: .tv v77 77 6 :: .tv v27 3 1 :: .tv v24 3 1 :: .bk b1 77 [.int .u8 115, (.slice none 0 0), v24, v27, .bool b8, .bool false] :: F) ∧ SlR R_speculumref11_Node J72 v77 l76) ?_ ?_
                      ·
                        by_cases cc83 : y70 = 45
                        · rw [if_pos cc83] at H
                          refine FW.condT rfl (eqT cc83) ?_
                          refine FW.seq ?_
                          refine FW.anew [(0, .pointer (some ⟨bx0, 0, none⟩)), (3, .pointer (some ⟨b1, 0, none⟩)), (4, .int .i64 n16), (6, .int .i64 y64.1)] ⟨rfl, rfl, rfl, rfl, trivial⟩ fun σ => ?_
                          refine FW.region ?_
                          refine U rfl rfl (V (x_movV (v := .pointer (some ⟨bx0, 0, none⟩)) rfl) ?_)
                          refine U rfl rfl (V (x_movV (v := .pointer (some ⟨bx0, 0, none⟩)) rfl) ?_)
                          refine U rfl rfl (V (x_nk rfl) ?_)
                          refine U rfl rfl (V (x_fa tf62_1 rfl) ?_)
                          refine U rfl rfl (V (x_ld tsc3 rfl (S.load 0 rfl 1 rfl)) ?_)
                          refine U rfl rfl (V (x_bin rfl rfl rfl) ?_)
                          refine U rfl rfl (V (x_nk rfl) ?_)
                          refine U rfl rfl (V (x_fa tf62_1 rfl) ?_)
                          refine U rfl rfl (o_st tone3 S 0 rfl rfl rfl rfl fun w S => ?_)
                          refine FW.anew [(0, .pointer (some ⟨bx0, 0, none⟩)), (3, .pointer (some ⟨b1, 0, none⟩)), (4, .int .i64 n16), (6, .int .i64 y64.1)] ⟨rfl, rfl, rfl, rfl, trivial⟩ fun σ => ?_
                          refine FW.region ?_
                          refine U rfl rfl (V (x_movV (v := .pointer (some ⟨bx0, 0, none⟩)) rfl) ?_)
                          obtain ⟨y84, hy85, H⟩ := obx H
                          refine U rfl rfl (cl fb52 (@speculumref11_P_num.ok q29 (T_speculumref11_P.mk y64.2.S (i64 (y64.2.At + 1)) y64.2.N y64.2.Bad) _ _ _ _ _ _ hG S y64_1h2 hy85) rfl ?_)
                          rintro _ w ⟨y84_1v2, J86, hJ87, rfl, y84_1h2, S⟩
                          have h25 := h25.mono hJ87
                          have h28 := h28.mono hJ87
                          have hI := hI.trans hJ87
                          have hL30 := hL30.trans hJ87
                          have hL82 := hL82.trans hJ87
                          have hG := hG.mono hJ87
                          refine U rfl rfl (V (x_asgV (v := .int .i64 y84.1) rfl) ?_)
                          exact ⟨y84.1, y84.2.S, y84.2.At, y84.2.N, y84.2.Bad, y84_1v2, J86, (Option.some.inj H), ⟨rfl, rfl, rfl, rfl, rfl, trivial⟩, hL82, S, y84_1h2⟩
                        · rw [if_neg cc83] at H
                          refine FW.condF rfl (eqF cc83) ?_
                          refine FW.skip ?_
                          exact ⟨y64.1, y64.2.S, y64.2.At, y64.2.N, y64.2.Bad, y64_1v2, J66, (Option.some.inj H), ⟨rfl, rfl, rfl, rfl, rfl, trivial⟩, hL82, S, y64_1h2⟩
                      · rintro σ w ⟨n73, s74, n75, l76, b79, v77, J72, ho, hσ, hL82, S, h78⟩
                        subst ho
                        have H := HO81
                        try dsimp only at H
                        have h25 := h25.mono hL82
                        have h28 := h28.mono hL82
                        have hI := hI.trans hL82
                        have hL30 := hL30.trans hL82
                        have hG := hG.mono hL82
                        rw [hσ.eq]
                        refine FW.seq ?_
                        refine FW.region ?_
                        refine U rfl rfl (V (x_movV (v := .pointer (some ⟨bx0, 0, none⟩)) rfl) ?_)
                        refine U rfl rfl (V (x_movV (v := .pointer (some ⟨bx0, 0, none⟩)) rfl) ?_)
                        refine U rfl rfl (V (x_nk rfl) ?_)
                        refine U rfl rfl (V (x_fa tf62_3 rfl) ?_)
                        refine U rfl rfl (V (x_ld tsc4 rfl (S.load 0 rfl 3 rfl)) ?_)
                        refine U rfl rfl (V (x_movV (v := .bool b79) rfl) ?_)
                        by_cases cc88 : b79 = true
                        · rw [if_pos cc88] at H
                          refine OK.gf rfl rfl rfl cc88 ?_
                          refine OK.gf rfl rfl rfl cc88 ?_
                          refine OK.gf rfl rfl rfl cc88 ?_
                          refine U rfl rfl (V (x_pickTV (v := .bool true) rfl cc88 rfl) ?_)
                          refine U rfl rfl (V (x_nk rfl) ?_)
                          refine U rfl rfl (V (x_fa tf62_3 rfl) ?_)
                          refine U rfl rfl (o_st tone4 S 0 rfl rfl rfl rfl fun w S => ?_)
                          refine FW.seq ?_
                          refine FW.anew [(0, .pointer (some ⟨bx0, 0, none⟩)), (3, .pointer (some ⟨b1, 0, none⟩)), (4, .int .i64 n16), (6, .int .i64 y64.1), (7, .int .i64 n73)] ⟨rfl, rfl, rfl, rfl, rfl, trivial⟩ fun σ => ?_
                          refine FW.region ?_
                          refine U rfl rfl (V (x_fa tf77_2 rfl) ?_)
                          refine U rfl rfl (V (x_ld tsc75 rfl (S.load 4 rfl 2 rfl)) ?_)
                          refine U rfl rfl (V (x_movV (v := .int .i64 y64.1) rfl) ?_)
                          refine U rfl rfl (o_bsl tsl75 tz3 rfl rfl rfl rfl (.one rfl PC.nil) rfl S fun b89 w S => ?_)
                          obtain ⟨J90, hJ92, S, h91⟩ := S.freeze (r := (tInt' .i64)) (l := [y64.1]) 0 rfl ⟨[.int .i64 y64.1], _, rfl, rfl, rfl⟩ rfl rfl
                          have h25 := h25.mono hJ92
                          have h78 := h78.mono hJ92
                          have h28 := h28.mono hJ92
                          have hI := hI.trans hJ92
                          have hL30 := hL30.trans hJ92
                          have hG := hG.mono hJ92
                          obtain ⟨l93, h95, H⟩ := obx H
                          refine U rfl rfl (o_appD (r := (tInt' .i64)) tsl75 rfl tz3 rfl rfl S 4 rfl rfl h25 h91 h95 fun v94 w J97 hJ98 S h96 => ?_)
                          have h25 := h25.mono hJ98
                          have h91 := h91.mono hJ98
                          have h78 := h78.mono hJ98
                          have h28 := h28.mono hJ98
                          have hI := hI.trans hJ98
                          have hL30 := hL30.trans hJ98
                          have hG := hG.mono hJ98
                          refine U rfl rfl (V (x_fa tf77_2 rfl) ?_)
                          refine U rfl rfl (o_st tone75 S 5 rfl rfl rfl h96.one fun w S => ?_)
                          refine FW.anew [(0, .pointer (some ⟨bx0, 0, none⟩)), (3, .pointer (some ⟨b1, 0, none⟩)), (4, .int .i64 n16), (7, .int .i64 n73)] ⟨rfl, rfl, rfl, rfl, trivial⟩ fun σ => ?_
                          refine FW.region ?_
                          refine U rfl rfl (V (x_fa tf77_3 rfl) ?_)
                          refine U rfl rfl (V (x_ld tsc75 rfl (S.load 5 rfl 3 rfl)) ?_)
                          refine U rfl rfl (V (x_movV (v := .int .i64 n73) rfl) ?_)
                          refine U rfl rfl (o_bsl tsl75 tz3 rfl rfl rfl rfl (.one rfl PC.nil) rfl S fun b99 w S => ?_)
                          obtain ⟨J100, hJ102, S, h101⟩ := S.freeze (r := (tInt' .i64)) (l := [n73]) 0 rfl ⟨[.int .i64 n73], _, rfl, rfl, rfl⟩ rfl rfl
                          have h28 := h28.mono hJ102
                          have h78 := h78.mono hJ102
                          have h96 := h96.mono hJ102
                          have hI := hI.trans hJ102
                          have hL30 := hL30.trans hJ102
                          have hG := hG.mono hJ102
                          obtain ⟨l103, h105, H⟩ := obx H
                          refine U rfl rfl (o_appD (r := (tInt' .i64)) tsl75 rfl tz3 rfl rfl S 4 rfl rfl h28 h101 h105 fun v104 w J107 hJ108 S h106 => ?_)
                          have h28 := h28.mono hJ108
                          have h101 := h101.mono hJ108
                          have h78 := h78.mono hJ108
                          have h96 := h96.mono hJ108
                          have hI := hI.trans hJ108
                          have hL30 := hL30.trans hJ108
                          have hG := hG.mono hJ108
                          refine U rfl rfl (V (x_fa tf77_3 rfl) ?_)
                          refine U rfl rfl (o_st tone75 S 6 rfl rfl rfl h106.one fun w S => ?_)
                          refine FW.anew [(0, .pointer (some ⟨bx0, 0, none⟩)), (3, .pointer (some ⟨b1, 0, none⟩)), (4, .int .i64 n16)] ⟨rfl, rfl, rfl, trivial⟩ fun σ => ?_
                          refine FW.region ?_
                          refine U rfl rfl (V (x_movV (v := .int .i64 n16) rfl) ?_)
                          refine U rfl rfl (V (x_bin rfl rfl rfl) ?_)
                          refine U rfl rfl (V (x_asgV (v := .int .i64 (i64 (n16 + 1))) rfl) ?_)
                          exact ⟨q29, Nat.le_refl _, (i64 (n16 + 1)), s74, n75, l76, true, l93, l103, v77, v94, v104, J107, H, (Nat.le_of_succ_le hq47), ⟨rfl, rfl, rfl, trivial⟩, hL30, (S.sel 7 [4, 5, 2, 3, 6] rfl), h78, h96, h106⟩
                        · rw [if_neg cc88] at H
                          refine OK.gt rfl rfl rfl (vaF cc88) (V (x_movV (v := .int .i64 y64.1) rfl) ?_)
                          refine OK.gt rfl rfl rfl (vaF cc88) (V (x_movV (v := .int .i64 n73) rfl) ?_)
                          refine OK.gt rfl rfl rfl (vaF cc88) (V (x_bin rfl rfl rfl) ?_)
                          refine U rfl rfl (V (x_pickFV (v := .bool (decide (y64.1 > n73))) rfl (vaF cc88) rfl) ?_)
                          refine U rfl rfl (V (x_nk rfl) ?_)
                          refine U rfl rfl (V (x_fa tf62_3 rfl) ?_)
                          refine U rfl rfl (o_st tone4 S 0 rfl rfl rfl rfl fun w S => ?_)
                          refine FW.seq ?_
                          refine FW.anew [(0, .pointer (some ⟨bx0, 0, none⟩)), (3, .pointer (some ⟨b1, 0, none⟩)), (4, .int .i64 n16), (6, .int .i64 y64.1), (7, .int .i64 n73)] ⟨rfl, rfl, rfl, rfl, rfl, trivial⟩ fun σ => ?_
                          refine FW.region ?_
                          refine U rfl rfl (V (x_fa tf77_2 rfl) ?_)
                          refine U rfl rfl (V (x_ld tsc75 rfl (S.load 4 rfl 2 rfl)) ?_)
                          refine U rfl rfl (V (x_movV (v := .int .i64 y64.1) rfl) ?_)
                          refine U rfl rfl (o_bsl tsl75 tz3 rfl rfl rfl rfl (.one rfl PC.nil) rfl S fun b109 w S => ?_)
                          obtain ⟨J110, hJ112, S, h111⟩ := S.freeze (r := (tInt' .i64)) (l := [y64.1]) 0 rfl ⟨[.int .i64 y64.1], _, rfl, rfl, rfl⟩ rfl rfl
                          have h25 := h25.mono hJ112
                          have h78 := h78.mono hJ112
                          have h28 := h28.mono hJ112
                          have hI := hI.trans hJ112
                          have hL30 := hL30.trans hJ112
                          have hG := hG.mono hJ112
                          obtain ⟨l113, h115, H⟩ := obx H
                          refine U rfl rfl (o_appD (r := (tInt' .i64)) tsl75 rfl tz3 rfl rfl S 4 rfl rfl h25 h111 h115 fun v114 w J117 hJ118 S h116 => ?_)
                          have h25 := h25.mono hJ118
                          have h111 := h111.mono hJ118
                          have h78 := h78.mono hJ118
                          have h28 := h28.mono hJ118
                          have hI := hI.trans hJ118
                          have hL30 := hL30.trans hJ118
                          have hG := hG.mono hJ118
                          refine U rfl rfl (V (x_fa tf77_2 rfl) ?_)
                          refine U rfl rfl (o_st tone75 S 5 rfl rfl rfl h116.one fun w S => ?_)
                          refine FW.anew [(0, .pointer (some ⟨bx0, 0, none⟩)), (3, .pointer (some ⟨b1, 0, none⟩)), (4, .int .i64 n16), (7, .int .i64 n73)] ⟨rfl, rfl, rfl, rfl, trivial⟩ fun σ => ?_
                          refine FW.region ?_
                          refine U rfl rfl (V (x_fa tf77_3 rfl) ?_)
                          refine U rfl rfl (V (x_ld tsc75 rfl (S.load 5 rfl 3 rfl)) ?_)
                          refine U rfl rfl (V (x_movV (v := .int .i64 n73) rfl) ?_)
                          refine U rfl rfl (o_bsl tsl75 tz3 rfl rfl rfl rfl (.one rfl PC.nil) rfl S fun b119 w S => ?_)
                          obtain ⟨J120, hJ122, S, h121⟩ := S.freeze (r := (tInt' .i64)) (l := [n73]) 0 rfl ⟨[.int .i64 n73], _, rfl, rfl, rfl⟩ rfl rfl
                          have h28 := h28.mono hJ122
                          have h78 := h78.mono hJ122
                          have h116 := h116.mono hJ122
                          have hI := hI.trans hJ122
                          have hL30 := hL30.trans hJ122
                          have hG := hG.mono hJ122
                          obtain ⟨l123, h125, H⟩ := obx H
                          refine U rfl rfl (o_appD (r := (tInt' .i64)) tsl75 rfl tz3 rfl rfl S 4 rfl rfl h28 h121 h125 fun v124 w J127 hJ128 S h126 => ?_)
                          have h28 := h28.mono hJ128
                          have h121 := h121.mono hJ128
                          have h78 := h78.mono hJ128
                          have h116 := h116.mono hJ128
                          have hI := hI.trans hJ128
                          have hL30 := hL30.trans hJ128
                          have hG := hG.mono hJ128
                          refine U rfl rfl (V (x_fa tf77_3 rfl) ?_)
                          refine U rfl rfl (o_st tone75 S 6 rfl rfl rfl h126.one fun w S => ?_)
                          refine FW.anew [(0, .pointer (some ⟨bx0, 0, none⟩)), (3, .pointer (some ⟨b1, 0, none⟩)), (4, .int .i64 n16)] ⟨rfl, rfl, rfl, trivial⟩ fun σ => ?_
                          refine FW.region ?_
                          refine U rfl rfl (V (x_movV (v := .int .i64 n16) rfl) ?_)
                          refine U rfl rfl (V (x_bin rfl rfl rfl) ?_)
                          refine U rfl rfl (V (x_asgV (v := .int .i64 (i64 (n16 + 1))) rfl) ?_)
                          exact ⟨q29, Nat.le_refl _, (i64 (n16 + 1)), s74, n75, l76, (decide (y64.1 > n73)), l113, l123, v77, v114, v124, J127, H, (Nat.le_of_succ_le hq47), ⟨rfl, rfl, rfl, trivial⟩, hL30, (S.sel 7 [4, 5, 2, 3, 6] rfl), h78, h116, h126⟩
                    · rw [if_neg cc69] at H
                      refine AQ.skip 11 rfl (by kernel_rfl) (by kernel_rfl) (by kernel_rfl) rfl rfl (deF cc69) hO ?_
                      refine AQ.skip 12 rfl (by kernel_rfl) (by kernel_rfl) (by kernel_rfl) rfl rfl (deF cc69) hO ?_
                      refine AQ.skip 13 rfl (by kernel_rfl) (by kernel_rfl) (by kernel_rfl) rfl rfl (deF cc69) hO ?_
                      refine AQ.skip 14 rfl (by kernel_rfl) (by kernel_rfl) (by kernel_rfl) rfl rfl (deF cc69) hO ?_
                      refine AQ.skip 15 rfl (by kernel_rfl) (by kernel_rfl) (by kernel_rfl) rfl rfl (deF cc69) hO ?_
                      refine AQ.skip 16 rfl (by kernel_rfl) (by kernel_rfl) (by kernel_rfl) rfl rfl (deF cc69) hO ?_
                      refine AQ.skip 17 rfl (by kernel_rfl) (by kernel_rfl) (by kernel_rfl) rfl rfl (deF cc69) hO ?_
                      refine AQ.skip 18 rfl (by kernel_rfl) (by kernel_rfl) (by kernel_rfl) rfl rfl (deF cc69) hO ?_
                      refine AQ.skip 19 rfl (by kernel_rfl) (by kernel_rfl) (by kernel_rfl) rfl rfl (deF cc69) hO ?_
                      refine AQ.skip 20 rfl (by kernel_rfl) (by kernel_rfl) (by kernel_rfl) rfl rfl (deF cc69) hO ?_
                      refine AQ.pure 21 rfl (by kernel_rfl) (by kernel_rfl) (by kernel_rfl) rfl hO (fun w => x_pickFV (v := .bool false) rfl (deF cc69) rfl) ?_
                      refine AQ.done (by kernel_rfl) ?_
                      refine FW.condF rfl rfl ?_
                      refine FW.skip ?_
                      refine FW.seq ?_
                      refine FW.anew [(0, .pointer (some ⟨bx0, 0, none⟩)), (3, .pointer (some ⟨b1, 0, none⟩)), (4, .int .i64 n16), (6, .int .i64 y64.1), (7, .int .i64 y64.1)] ⟨rfl, rfl, rfl, rfl, rfl, trivial⟩ fun σ => ?_
                      refine FW.region ?_
                      refine U rfl rfl (V (x_movV (v := .pointer (some ⟨bx0, 0, none⟩)) rfl) ?_)
                      refine U rfl rfl (V (x_movV (v := .pointer (some ⟨bx0, 0, none⟩)) rfl) ?_)
                      refine U rfl rfl (V (x_nk rfl) ?_)
                      refine U rfl rfl (V (x_fa tf62_3 rfl) ?_)
                      refine U rfl rfl (V (x_ld tsc4 rfl (S.load 0 rfl 3 rfl)) ?_)
                      refine U rfl rfl (V (x_movV (v := .bool y64.2.Bad) rfl) ?_)
                      by_cases cc129 : y64.2.Bad = true
                      · rw [if_pos cc129] at H
                        refine OK.gf rfl rfl rfl cc129 ?_
                        refine OK.gf rfl rfl rfl cc129 ?_
                        refine OK.gf rfl rfl rfl cc129 ?_
                        refine U rfl rfl (V (x_pickTV (v := .bool true) rfl cc129 rfl) ?_)
                        refine U rfl rfl (V (x_nk rfl) ?_)
                        refine U rfl rfl (V (x_fa tf62_3 rfl) ?_)
                        refine U rfl rfl (o_st tone4 S 0 rfl rfl rfl rfl fun w S => ?_)
                        refine FW.seq ?_
                        refine FW.anew [(0, .pointer (some ⟨bx0, 0, none⟩)), (3, .pointer (some ⟨b1, 0, none⟩)), (4, .int .i64 n16), (6, .int .i64 y64.1), (7, .int .i64 y64.1)] ⟨rfl, rfl, rfl, rfl, rfl, trivial⟩ fun σ => ?_
                        refine FW.region ?_
                        refine U rfl rfl (V (x_fa tf77_2 rfl) ?_)
                        refine U rfl rfl (V (x_ld tsc75 rfl (S.load 4 rfl 2 rfl)) ?_)
                        refine U rfl rfl (V (x_movV (v := .int .i64 y64.1) rfl) ?_)
                        refine U rfl rfl (o_bsl tsl75 tz3 rfl rfl rfl rfl (.one rfl PC.nil) rfl S fun b130 w S => ?_)
                        obtain ⟨J131, hJ133, S, h132⟩ := S.freeze (r := (tInt' .i64)) (l := [y64.1]) 0 rfl ⟨[.int .i64 y64.1], _, rfl, rfl, rfl⟩ rfl rfl
                        have h25 := h25.mono hJ133
                        have y64_1h2 := y64_1h2.mono hJ133
                        have h28 := h28.mono hJ133
                        have hI := hI.trans hJ133
                        have hL30 := hL30.trans hJ133
                        have hG := hG.mono hJ133
                        obtain ⟨l134, h136, H⟩ := obx H
                        refine U rfl rfl (o_appD (r := (tInt' .i64)) tsl75 rfl tz3 rfl rfl S 4 rfl rfl h25 h132 h136 fun v135 w J138 hJ139 S h137 => ?_)
                        have h25 := h25.mono hJ139
                        have h132 := h132.mono hJ139
                        have y64_1h2 := y64_1h2.mono hJ139
                        have h28 := h28.mono hJ139
                        have hI := hI.trans hJ139
                        have hL30 := hL30.trans hJ139
                        have hG := hG.mono hJ139
                        refine U rfl rfl (V (x_fa tf77_2 rfl) ?_)
                        refine U rfl rfl (o_st tone75 S 5 rfl rfl rfl h137.one fun w S => ?_)
                        refine FW.anew [(0, .pointer (some ⟨bx0, 0, none⟩)), (3, .pointer (some ⟨b1, 0, none⟩)), (4, .int .i64 n16), (7, .int .i64 y64.1)] ⟨rfl, rfl, rfl, rfl, trivial⟩ fun σ => ?_
                        refine FW.region ?_
                        refine U rfl rfl (V (x_fa tf77_3 rfl) ?_)
                        refine U rfl rfl (V (x_ld tsc75 rfl (S.load 5 rfl 3 rfl)) ?_)
                        refine U rfl rfl (V (x_movV (v := .int .i64 y64.1) rfl) ?_)
                        refine U rfl rfl (o_bsl tsl75 tz3 rfl rfl rfl rfl (.one rfl PC.nil) rfl S fun b140 w S => ?_)
                        obtain ⟨J141, hJ143, S, h142⟩ := S.freeze (r := (tInt' .i64)) (l := [y64.1]) 0 rfl ⟨[.int .i64 y64.1], _, rfl, rfl, rfl⟩ rfl rfl
                        have h28 := h28.mono hJ143
                        have y64_1h2 := y64_1h2.mono hJ143
                        have h137 := h137.mono hJ143
                        have hI := hI.trans hJ143
                        have hL30 := hL30.trans hJ143
                        have hG := hG.mono hJ143
                        obtain ⟨l144, h146, H⟩ := obx H
                        refine U rfl rfl (o_appD (r := (tInt' .i64)) tsl75 rfl tz3 rfl rfl S 4 rfl rfl h28 h142 h146 fun v145 w J148 hJ149 S h147 => ?_)
                        have h28 := h28.mono hJ149
                        have h142 := h142.mono hJ149
                        have y64_1h2 := y64_1h2.mono hJ149
                        have h137 := h137.mono hJ149
                        have hI := hI.trans hJ149
                        have hL30 := hL30.trans hJ149
                        have hG := hG.mono hJ149
                        refine U rfl rfl (V (x_fa tf77_3 rfl) ?_)
                        refine U rfl rfl (o_st tone75 S 6 rfl rfl rfl h147.one fun w S => ?_)
                        refine FW.anew [(0, .pointer (some ⟨bx0, 0, none⟩)), (3, .pointer (some ⟨b1, 0, none⟩)), (4, .int .i64 n16)] ⟨rfl, rfl, rfl, trivial⟩ fun σ => ?_
                        refine FW.region ?_
                        refine U rfl rfl (V (x_movV (v := .int .i64 n16) rfl) ?_)
                        refine U rfl rfl (V (x_bin rfl rfl rfl) ?_)
                        refine U rfl rfl (V (x_asgV (v := .int .i64 (i64 (n16 + 1))) rfl) ?_)
                        exact ⟨q29, Nat.le_refl _, (i64 (n16 + 1)), y64.2.S, y64.2.At, y64.2.N, true, l134, l144, y64_1v2, v135, v145, J148, H, (Nat.le_of_succ_le hq47), ⟨rfl, rfl, rfl, trivial⟩, hL30, (S.sel 7 [4, 5, 2, 3, 6] rfl), y64_1h2, h137, h147⟩
                      · rw [if_neg cc129] at H
                        refine OK.gt rfl rfl rfl (vaF cc129) (V (x_movV (v := .int .i64 y64.1) rfl) ?_)
                        refine OK.gt rfl rfl rfl (vaF cc129) (V (x_movV (v := .int .i64 y64.1) rfl) ?_)
                        refine OK.gt rfl rfl rfl (vaF cc129) (V (x_bin rfl rfl rfl) ?_)
                        refine U rfl rfl (V (x_pickFV (v := .bool (decide (y64.1 > y64.1))) rfl (vaF cc129) rfl) ?_)
                        refine U rfl rfl (V (x_nk rfl) ?_)
                        refine U rfl rfl (V (x_fa tf62_3 rfl) ?_)
                        refine U rfl rfl (o_st tone4 S 0 rfl rfl rfl rfl fun w S => ?_)
                        refine FW.seq ?_
                        refine FW.anew [(0, .pointer (some ⟨bx0, 0, none⟩)), (3, .pointer (some ⟨b1, 0, none⟩)), (4, .int .i64 n16), (6, .int .i64 y64.1), (7, .int .i64 y64.1)] ⟨rfl, rfl, rfl, rfl, rfl, trivial⟩ fun σ => ?_
                        refine FW.region ?_
                        refine U rfl rfl (V (x_fa tf77_2 rfl) ?_)
                        refine U rfl rfl (V (x_ld tsc75 rfl (S.load 4 rfl 2 rfl)) ?_)
                        refine U rfl rfl (V (x_movV (v := .int .i64 y64.1) rfl) ?_)
                        refine U rfl rfl (o_bsl tsl75 tz3 rfl rfl rfl rfl (.one rfl PC.nil) rfl S fun b150 w S => ?_)
                        obtain ⟨J151, hJ153, S, h152⟩ := S.freeze (r := (tInt' .i64)) (l := [y64.1]) 0 rfl ⟨[.int .i64 y64.1], _, rfl, rfl, rfl⟩ rfl rfl
                        have h25 := h25.mono hJ153
                        have y64_1h2 := y64_1h2.mono hJ153
                        have h28 := h28.mono hJ153
                        have hI := hI.trans hJ153
                        have hL30 := hL30.trans hJ153
                        have hG := hG.mono hJ153
                        obtain ⟨l154, h156, H⟩ := obx H
                        refine U rfl rfl (o_appD (r := (tInt' .i64)) tsl75 rfl tz3 rfl rfl S 4 rfl rfl h25 h152 h156 fun v155 w J158 hJ159 S h157 => ?_)
                        have h25 := h25.mono hJ159
                        have h152 := h152.mono hJ159
                        have y64_1h2 := y64_1h2.mono hJ159
                        have h28 := h28.mono hJ159
                        have hI := hI.trans hJ159
                        have hL30 := hL30.trans hJ159
                        have hG := hG.mono hJ159
                        refine U rfl rfl (V (x_fa tf77_2 rfl) ?_)
                        refine U rfl rfl (o_st tone75 S 5 rfl rfl rfl h157.one fun w S => ?_)
                        refine FW.anew [(0, .pointer (some ⟨bx0, 0, none⟩)), (3, .pointer (some ⟨b1, 0, none⟩)), (4, .int .i64 n16), (7, .int .i64 y64.1)] ⟨rfl, rfl, rfl, rfl, trivial⟩ fun σ => ?_
                        refine FW.region ?_
                        refine U rfl rfl (V (x_fa tf77_3 rfl) ?_)
                        refine U rfl rfl (V (x_ld tsc75 rfl (S.load 5 rfl 3 rfl)) ?_)
                        refine U rfl rfl (V (x_movV (v := .int .i64 y64.1) rfl) ?_)
                        refine U rfl rfl (o_bsl tsl75 tz3 rfl rfl rfl rfl (.one rfl PC.nil) rfl S fun b160 w S => ?_)
                        obtain ⟨J161, hJ163, S, h162⟩ := S.freeze (r := (tInt' .i64)) (l := [y64.1]) 0 rfl ⟨[.int .i64 y64.1], _, rfl, rfl, rfl⟩ rfl rfl
                        have h28 := h28.mono hJ163
                        have y64_1h2 := y64_1h2.mono hJ163
                        have h157 := h157.mono hJ163
                        have hI := hI.trans hJ163
                        have hL30 := hL30.trans hJ163
                        have hG := hG.mono hJ163
                        obtain ⟨l164, h166, H⟩ := obx H
                        refine U rfl rfl (o_appD (r := (tInt' .i64)) tsl75 rfl tz3 rfl rfl S 4 rfl rfl h28 h162 h166 fun v165 w J168 hJ169 S h167 => ?_)
                        have h28 := h28.mono hJ169
                        have h162 := h162.mono hJ169
                        have y64_1h2 := y64_1h2.mono hJ169
                        have h157 := h157.mono hJ169
                        have hI := hI.trans hJ169
                        have hL30 := hL30.trans hJ169
                        have hG := hG.mono hJ169
                        refine U rfl rfl (V (x_fa tf77_3 rfl) ?_)
                        refine U rfl rfl (o_st tone75 S 6 rfl rfl rfl h167.one fun w S => ?_)
                        refine FW.anew [(0, .pointer (some ⟨bx0, 0, none⟩)), (3, .pointer (some ⟨b1, 0, none⟩)), (4, .int .i64 n16)] ⟨rfl, rfl, rfl, trivial⟩ fun σ => ?_
                        refine FW.region ?_
                        refine U rfl rfl (V (x_movV (v := .int .i64 n16) rfl) ?_)
                        refine U rfl rfl (V (x_bin rfl rfl rfl) ?_)
                        refine U rfl rfl (V (x_asgV (v := .int .i64 (i64 (n16 + 1))) rfl) ?_)
                        exact ⟨q29, Nat.le_refl _, (i64 (n16 + 1)), y64.2.S, y64.2.At, y64.2.N, (decide (y64.1 > y64.1)), l154, l164, y64_1v2, v155, v165, J168, H, (Nat.le_of_succ_le hq47), ⟨rfl, rfl, rfl, trivial⟩, hL30, (S.sel 7 [4, 5, 2, 3, 6] rfl), y64_1h2, h157, h167⟩
                  · rw [if_neg cc63] at H
                    refine FW.condF rfl (vaF cc63) ?_
                    refine FW.region ?_
                    refine U rfl rfl (V (x_movV (v := .pointer (some ⟨bx0, 0, none⟩)) rfl) ?_)
                    refine U rfl rfl (V (x_nk rfl) ?_)
                    refine U rfl rfl (V (x_fa tf62_3 rfl) ?_)
                    refine U rfl rfl (o_st tone4 S 0 rfl rfl rfl rfl fun w S => ?_)
                    refine FW.anew [(0, .pointer (some ⟨bx0, 0, none⟩)), (3, .pointer (some ⟨b1, 0, none⟩)), (4, .int .i64 n16)] ⟨rfl, rfl, rfl, trivial⟩ fun σ => ?_
                    refine FW.region ?_
                    refine U rfl rfl (V (x_movV (v := .int .i64 n16) rfl) ?_)
                    refine U rfl rfl (V (x_bin rfl rfl rfl) ?_)
                    refine U rfl rfl (V (x_asgV (v := .int .i64 (i64 (n16 + 1))) rfl) ?_)
                    exact ⟨q29, Nat.le_refl _, (i64 (n16 + 1)), y50.2.S, y50.2.At, y50.2.N, true, l23, l26, y50_1v2, v24, v27, J52, H, (Nat.le_of_succ_le hq47), ⟨rfl, rfl, rfl, trivial⟩, hL30, (S.sel 5 [2, 3, 0, 1, 4] rfl), y50_1h2, h25, h28⟩
              · rw [if_neg cc55] at H
                refine OK.gf rfl rfl rfl (eqF cc55) ?_
                refine OK.gf rfl rfl rfl (eqF cc55) ?_
                refine OK.gf rfl rfl rfl (eqF cc55) ?_
                refine OK.gf rfl rfl rfl (eqF cc55) ?_
                refine U rfl rfl (V (x_pickFV (v := .bool false) rfl (eqF cc55) rfl) ?_)
                refine U rfl rfl (V (x_asgV (v := .bool false) rfl) ?_)
                refine FW.condF rfl rfl ?_
                refine FW.seq ?_
                refine FW.anew [(0, .pointer (some ⟨bx0, 0, none⟩)), (3, .pointer (some ⟨b1, 0, none⟩)), (4, .int .i64 n16), (5, .int .u8 y50.1)] ⟨rfl, rfl, rfl, rfl, trivial⟩ fun σ => ?_
                refine FW.region ?_
                refine U rfl rfl (V (x_movV (v := .int .u8 y50.1) rfl) ?_)
                obtain ⟨y170, hy171, H⟩ := obx H
                refine U rfl rfl (cl fb51 (@speculumref11_digit.ok q29 y50.1 _ _ _ _ hG S hy171) rfl ?_)
                rintro _ w ⟨rfl, S⟩
                refine U rfl rfl (V (x_asgV (v := .bool y170) rfl) ?_)
                by_cases cc172 : y170 = true
                · rw [if_pos cc172] at H
                  refine FW.condT rfl cc172 ?_
                  refine FW.seq ?_
                  refine FW.region ?_
                  refine U rfl rfl (V (x_movV (v := .pointer (some ⟨bx0, 0, none⟩)) rfl) ?_)
                  obtain ⟨y173, hy174, H⟩ := obx H
                  refine U rfl rfl (cl fb52 (@speculumref11_P_num.ok q29 y50.2 _ _ _ _ _ _ hG S y50_1h2 hy174) rfl ?_)
                  rintro _ w ⟨y173_1v2, J175, hJ176, rfl, y173_1h2, S⟩
                  have h25 := h25.mono hJ176
                  have h28 := h28.mono hJ176
                  have hI := hI.trans hJ176
                  have hL30 := hL30.trans hJ176
                  have hG := hG.mono hJ176
                  refine U rfl rfl (V (x_asgV (v := .int .i64 y173.1) rfl) ?_)
                  refine FW.seq ?_
                  refine FW.region ?_
                  refine U rfl rfl (V (x_movV (v := .int .i64 y173.1) rfl) ?_)
                  refine U rfl rfl (V (x_asgV (v := .int .i64 y173.1) rfl) ?_)
                  refine FW.seq ?_
                  refine FW.seq ?_
                  refine FW.anew [(0, .pointer (some ⟨bx0, 0, none⟩)), (3, .pointer (some ⟨b1, 0, none⟩)), (4, .int .i64 n16), (6, .int .i64 y173.1), (7, .int .i64 y173.1)] ⟨rfl, rfl, rfl, rfl, rfl, trivial⟩ fun σ => ?_
                  have S := S.drew
                  refine FW.regionD mixed ?_
                  have hO := Hold.nil (w := { w with drawn := w.drawn + 1 })
                  refine AQ.pure 0 rfl (by kernel_rfl) (by kernel_rfl) (by kernel_rfl) rfl hO (fun w => x_movV (v := .pointer (some ⟨bx0, 0, none⟩)) rfl) ?_
                  refine AQ.pure 1 rfl (by kernel_rfl) (by kernel_rfl) (by kernel_rfl) rfl hO (fun w => x_nk rfl) ?_
                  refine AQ.pure 2 rfl (by kernel_rfl) (by kernel_rfl) (by kernel_rfl) rfl hO (fun w => x_fa tf62_1 rfl) ?_
                  have hR177 := IMem.le.refl J175
                  refine AQ.take (S := Stab J175 [.bk bx0 62 [.string y173.2.S, .int .i64 y173.2.At, y173_1v2, .bool y173.2.Bad]]) 3 rfl (by kernel_rfl) (by kernel_rfl) (by kernel_rfl) rfl hO (Stab.of S 0 rfl hR177) (fun w hS => x_ld tsc3 rfl (hS.load 0 rfl 1 rfl)) fun hO => ?_
                  refine AQ.pure 4 rfl (by kernel_rfl) (by kernel_rfl) (by kernel_rfl) rfl hO (fun w => x_movV (v := .pointer (some ⟨bx0, 0, none⟩)) rfl) ?_
                  refine AQ.pure 5 rfl (by kernel_rfl) (by kernel_rfl) (by kernel_rfl) rfl hO (fun w => x_nk rfl) ?_
                  refine AQ.pure 6 rfl (by kernel_rfl) (by kernel_rfl) (by kernel_rfl) rfl hO (fun w => x_fa tf62_0 rfl) ?_
                  refine AQ.take (S := Stab J175 [.bk bx0 62 [.string y173.2.S, .int .i64 y173.2.At, y173_1v2, .bool y173.2.Bad]]) 7 rfl (by kernel_rfl) (by kernel_rfl) (by kernel_rfl) rfl hO (Stab.of S 0 rfl hR177) (fun w hS => x_ld tsc9 rfl (hS.load 0 rfl 0 rfl)) fun hO => ?_
                  refine AQ.pure 8 rfl (by kernel_rfl) (by kernel_rfl) (by kernel_rfl) rfl hO (fun w => x_lens tstr9 rfl) ?_
                  refine AQ.pure 9 rfl (by kernel_rfl) (by kernel_rfl) (by kernel_rfl) rfl hO (fun w => x_bin rfl rfl rfl) ?_
                  refine AQ.pure 10 rfl (by kernel_rfl) (by kernel_rfl) (by kernel_rfl) rfl hO (fun w => x_movV (v := .bool (decide (y173.2.At < (y173.2.S.size : Int)))) rfl) ?_
                  by_cases cc178 : y173.2.At < (y173.2.S.size : Int)
                  · rw [if_pos cc178] at H
                    refine AQ.pure 11 rfl (by kernel_rfl) (by kernel_rfl) (by kernel_rfl) (gT rfl rfl (deT cc178)) hO (fun w => x_movV (v := .pointer (some ⟨bx0, 0, none⟩)) rfl) ?_
                    refine AQ.pure 12 rfl (by kernel_rfl) (by kernel_rfl) (by kernel_rfl) (gT rfl rfl (deT cc178)) hO (fun w => x_nk rfl) ?_
                    refine AQ.pure 13 rfl (by kernel_rfl) (by kernel_rfl) (by kernel_rfl) (gT rfl rfl (deT cc178)) hO (fun w => x_fa tf62_0 rfl) ?_
                    refine AQ.take (S := Stab J175 [.bk bx0 62 [.string y173.2.S, .int .i64 y173.2.At, y173_1v2, .bool y173.2.Bad]]) 14 rfl (by kernel_rfl) (by kernel_rfl) (by kernel_rfl) (gT rfl rfl (deT cc178)) hO (Stab.of S 0 rfl hR177) (fun w hS => x_ld tsc9 rfl (hS.load 0 rfl 0 rfl)) fun hO => ?_
                    refine AQ.pure 15 rfl (by kernel_rfl) (by kernel_rfl) (by kernel_rfl) (gT rfl rfl (deT cc178)) hO (fun w => x_movV (v := .pointer (some ⟨bx0, 0, none⟩)) rfl) ?_
                    refine AQ.pure 16 rfl (by kernel_rfl) (by kernel_rfl) (by kernel_rfl) (gT rfl rfl (deT cc178)) hO (fun w => x_nk rfl) ?_
                    refine AQ.pure 17 rfl (by kernel_rfl) (by kernel_rfl) (by kernel_rfl) (gT rfl rfl (deT cc178)) hO (fun w => x_fa tf62_1 rfl) ?_
                    refine AQ.take (S := Stab J175 [.bk bx0 62 [.string y173.2.S, .int .i64 y173.2.At, y173_1v2, .bool y173.2.Bad]]) 18 rfl (by kernel_rfl) (by kernel_rfl) (by kernel_rfl) (gT rfl rfl (deT cc178)) hO (Stab.of S 0 rfl hR177) (fun w hS => x_ld tsc3 rfl (hS.load 0 rfl 1 rfl)) fun hO => ?_
                    obtain ⟨y179, h180, H⟩ := obx H
                    refine AQ.pure 19 rfl (by kernel_rfl) (by kernel_rfl) (by kernel_rfl) (gT rfl rfl (deT cc178)) hO (fun w => x_sat tstr9 rfl rfl h180) ?_
                    refine AQ.pure 20 rfl (by kernel_rfl) (by kernel_rfl) (by kernel_rfl) (gT rfl rfl (deT cc178)) hO (fun w => x_bin rfl rfl rfl) ?_
                    refine AQ.pure 21 rfl (by kernel_rfl) (by kernel_rfl) (by kernel_rfl) rfl hO (fun w => x_pickTV (v := .bool (y179 == 45)) rfl (deT cc178) rfl) ?_
                    refine AQ.done (by kernel_rfl) ?_
                    obtain ⟨o189, H, HO190⟩ := obx H
                    have hL191 := IMem.le.refl J175
                    refine FW.cutN (fun σ w => ∃ (n182 : Int) (s183 : ByteArray) (n184 : Int) (l185 : (List T_speculumref11_Node)) (b188 : Bool) (v186 : Value) (J181 : IMem), (n182, s183, n184, l185, b188) = o189 ∧ Has σ [(0, .pointer (some ⟨bx0, 0, none⟩)), (3, .pointer (some ⟨b1, 0, none⟩)), (4, .int .i64 n16), (6, .int .i64 y173.1), (7, .int .i64 n182)] ∧ J175.le J181 ∧ Own J181 w (.bk bx0 62 [.string s183, .int .i64 n184, v186, .bool b188] :: .tv v186 77 6 :: .tv v27 3 1 :: .tv v24 3 1 :: .bk b1 77 [.int .u8 115, (.slice none 0 0), v24, v27, .bool b8, .bool false] :: F) ∧ SlR R_speculumref11_Node J181 v186 l185) ?_ ?_
                    ·
                      by_cases cc192 : y179 = 45
                      · rw [if_pos cc192] at H
                        refine FW.condT rfl (eqT cc192) ?_
                        refine FW.seq ?_
                        refine FW.anew [(0, .pointer (some ⟨bx0, 0, none⟩)), (3, .pointer (some ⟨b1, 0, none⟩)), (4, .int .i64 n16), (6, .int .i64 y173.1)] ⟨rfl, rfl, rfl, rfl, trivial⟩ fun σ => ?_
                        refine FW.region ?_
                        refine U rfl rfl (V (x_movV (v := .pointer (some ⟨bx0, 0, none⟩)) rfl) ?_)
                        refine U rfl rfl (V (x_movV (v := .pointer (some ⟨bx0, 0, none⟩)) rfl) ?_)
                        refine U rfl rfl (V (x_nk rfl) ?_)
                        refine U rfl rfl (V (x_fa tf62_1 rfl) ?_)
                        refine U rfl rfl (V (x_ld tsc3 rfl (S.load 0 rfl 1 rfl)) ?_)
                        refine U rfl rfl (V (x_bin rfl rfl rfl) ?_)
                        refine U rfl rfl (V (x_nk rfl) ?_)
                        refine U rfl rfl (V (x_fa tf62_1 rfl) ?_)
                        refine U rfl rfl (o_st tone3 S 0 rfl rfl rfl rfl fun w S => ?_)
                        refine FW.anew [(0, .pointer (some ⟨bx0, 0, none⟩)), (3, .pointer (some ⟨b1, 0, none⟩)), (4, .int .i64 n16), (6, .int .i64 y173.1)] ⟨rfl, rfl, rfl, rfl, trivial⟩ fun σ => ?_
                        refine FW.region ?_
                        refine U rfl rfl (V (x_movV (v := .pointer (some ⟨bx0, 0, none⟩)) rfl) ?_)
                        obtain ⟨y193, hy194, H⟩ := obx H
                        refine U rfl rfl (cl fb52 (@speculumref11_P_num.ok q29 (T_speculumref11_P.mk y173.2.S (i64 (y173.2.At + 1)) y173.2.N y173.2.Bad) _ _ _ _ _ _ hG S y173_1h2 hy194) rfl ?_)
                        rintro _ w ⟨y193_1v2, J195, hJ196, rfl, y193_1h2, S⟩
                        have h25 := h25.mono hJ196
                        have h28 := h28.mono hJ196
                        have hI := hI.trans hJ196
                        have hL30 := hL30.trans hJ196
                        have hL191 := hL191.trans hJ196
                        have hG := hG.mono hJ196
                        refine U rfl rfl (V (x_asgV (v := .int .i64 y193.1) rfl) ?_)
                        exact ⟨y193.1, y193.2.S, y193.2.At, y193.2.N, y193.2.Bad, y193_1v2, J195, (Option.some.inj H), ⟨rfl, rfl, rfl, rfl, rfl, trivial⟩, hL191, S, y193_1h2⟩
                      · rw [if_neg cc192] at H
                        refine FW.condF rfl (eqF cc192) ?_
                        refine FW.skip ?_
                        exact ⟨y173.1, y173.2.S, y173.2.At, y173.2.N, y173.2.Bad, y173_1v2, J175, (Option.some.inj H), ⟨rfl, rfl, rfl, rfl, rfl, trivial⟩, hL191, S, y173_1h2⟩
                    · rintro σ w ⟨n182, s183, n184, l185, b188, v186, J181, ho, hσ, hL191, S, h187⟩
                      subst ho
                      have H := HO190
                      try dsimp only at H
                      have h25 := h25.mono hL191
                      have h28 := h28.mono hL191
                      have hI := hI.trans hL191
                      have hL30 := hL30.trans hL191
                      have hG := hG.mono hL191
                      rw [hσ.eq]
                      refine FW.seq ?_
                      refine FW.region ?_
                      refine U rfl rfl (V (x_movV (v := .pointer (some ⟨bx0, 0, none⟩)) rfl) ?_)
                      refine U rfl rfl (V (x_movV (v := .pointer (some ⟨bx0, 0, none⟩)) rfl) ?_)
                      refine U rfl rfl (V (x_nk rfl) ?_)
                      refine U rfl rfl (V (x_fa tf62_3 rfl) ?_)
                      refine U rfl rfl (V (x_ld tsc4 rfl (S.load 0 rfl 3 rfl)) ?_)
                      refine U rfl rfl (V (x_movV (v := .bool b188) rfl) ?_)
                      by_cases cc197 : b188 = true
                      · rw [if_pos cc197] at H
                        refine OK.gf rfl rfl rfl cc197 ?_
                        refine OK.gf rfl rfl rfl cc197 ?_
                        refine OK.gf rfl rfl rfl cc197 ?_
                        refine U rfl rfl (V (x_pickTV (v := .bool true) rfl cc197 rfl) ?_)
                        refine U rfl rfl (V (x_nk rfl) ?_)
                        refine U rfl rfl (V (x_fa tf62_3 rfl) ?_)
                        refine U rfl rfl (o_st tone4 S 0 rfl rfl rfl rfl fun w S => ?_)
                        refine FW.seq ?_
                        refine FW.anew [(0, .pointer (some ⟨bx0, 0, none⟩)), (3, .pointer (some ⟨b1, 0, none⟩)), (4, .int .i64 n16), (6, .int .i64 y173.1), (7, .int .i64 n182)] ⟨rfl, rfl, rfl, rfl, rfl, trivial⟩ fun σ => ?_
                        refine FW.region ?_
                        refine U rfl rfl (V (x_fa tf77_2 rfl) ?_)
                        refine U rfl rfl (V (x_ld tsc75 rfl (S.load 4 rfl 2 rfl)) ?_)
                        refine U rfl rfl (V (x_movV (v := .int .i64 y173.1) rfl) ?_)
                        refine U rfl rfl (o_bsl tsl75 tz3 rfl rfl rfl rfl (.one rfl PC.nil) rfl S fun b198 w S => ?_)
                        obtain ⟨J199, hJ201, S, h200⟩ := S.freeze (r := (tInt' .i64)) (l := [y173.1]) 0 rfl ⟨[.int .i64 y173.1], _, rfl, rfl, rfl⟩ rfl rfl
                        have h25 := h25.mono hJ201
                        have h187 := h187.mono hJ201
                        have h28 := h28.mono hJ201
                        have hI := hI.trans hJ201
                        have hL30 := hL30.trans hJ201
                        have hG := hG.mono hJ201
                        obtain ⟨l202, h204, H⟩ := obx H
                        refine U rfl rfl (o_appD (r := (tInt' .i64)) tsl75 rfl tz3 rfl rfl S 4 rfl rfl h25 h200 h204 fun v203 w J206 hJ207 S h205 => ?_)
                        have h25 := h25.mono hJ207
                        have h200 := h200.mono hJ207
                        have h187 := h187.mono hJ207
                        have h28 := h28.mono hJ207
                        have hI := hI.trans hJ207
                        have hL30 := hL30.trans hJ207
                        have hG := hG.mono hJ207
                        refine U rfl rfl (V (x_fa tf77_2 rfl) ?_)
                        refine U rfl rfl (o_st tone75 S 5 rfl rfl rfl h205.one fun w S => ?_)
                        refine FW.anew [(0, .pointer (some ⟨bx0, 0, none⟩)), (3, .pointer (some ⟨b1, 0, none⟩)), (4, .int .i64 n16), (7, .int .i64 n182)] ⟨rfl, rfl, rfl, rfl, trivial⟩ fun σ => ?_
                        refine FW.region ?_
                        refine U rfl rfl (V (x_fa tf77_3 rfl) ?_)
                        refine U rfl rfl (V (x_ld tsc75 rfl (S.load 5 rfl 3 rfl)) ?_)
                        refine U rfl rfl (V (x_movV (v := .int .i64 n182) rfl) ?_)
                        refine U rfl rfl (o_bsl tsl75 tz3 rfl rfl rfl rfl (.one rfl PC.nil) rfl S fun b208 w S => ?_)
                        obtain ⟨J209, hJ211, S, h210⟩ := S.freeze (r := (tInt' .i64)) (l := [n182]) 0 rfl ⟨[.int .i64 n182], _, rfl, rfl, rfl⟩ rfl rfl
                        have h28 := h28.mono hJ211
                        have h187 := h187.mono hJ211
                        have h205 := h205.mono hJ211
                        have hI := hI.trans hJ211
                        have hL30 := hL30.trans hJ211
                        have hG := hG.mono hJ211
                        obtain ⟨l212, h214, H⟩ := obx H
                        refine U rfl rfl (o_appD (r := (tInt' .i64)) tsl75 rfl tz3 rfl rfl S 4 rfl rfl h28 h210 h214 fun v213 w J216 hJ217 S h215 => ?_)
                        have h28 := h28.mono hJ217
                        have h210 := h210.mono hJ217
                        have h187 := h187.mono hJ217
                        have h205 := h205.mono hJ217
                        have hI := hI.trans hJ217
                        have hL30 := hL30.trans hJ217
                        have hG := hG.mono hJ217
                        refine U rfl rfl (V (x_fa tf77_3 rfl) ?_)
                        refine U rfl rfl (o_st tone75 S 6 rfl rfl rfl h215.one fun w S => ?_)
                        refine FW.anew [(0, .pointer (some ⟨bx0, 0, none⟩)), (3, .pointer (some ⟨b1, 0, none⟩)), (4, .int .i64 n16)] ⟨rfl, rfl, rfl, trivial⟩ fun σ => ?_
                        refine FW.region ?_
                        refine U rfl rfl (V (x_movV (v := .int .i64 n16) rfl) ?_)
                        refine U rfl rfl (V (x_bin rfl rfl rfl) ?_)
                        refine U rfl rfl (V (x_asgV (v := .int .i64 (i64 (n16 + 1))) rfl) ?_)
                        exact ⟨q29, Nat.le_refl _, (i64 (n16 + 1)), s183, n184, l185, true, l202, l212, v186, v203, v213, J216, H, (Nat.le_of_succ_le hq47), ⟨rfl, rfl, rfl, trivial⟩, hL30, (S.sel 7 [4, 5, 2, 3, 6] rfl), h187, h205, h215⟩
                      · rw [if_neg cc197] at H
                        refine OK.gt rfl rfl rfl (vaF cc197) (V (x_movV (v := .int .i64 y173.1) rfl) ?_)
                        refine OK.gt rfl rfl rfl (vaF cc197) (V (x_movV (v := .int .i64 n182) rfl) ?_)
                        refine OK.gt rfl rfl rfl (vaF cc197) (V (x_bin rfl rfl rfl) ?_)
                        refine U rfl rfl (V (x_pickFV (v := .bool (decide (y173.1 > n182))) rfl (vaF cc197) rfl) ?_)
                        refine U rfl rfl (V (x_nk rfl) ?_)
                        refine U rfl rfl (V (x_fa tf62_3 rfl) ?_)
                        refine U rfl rfl (o_st tone4 S 0 rfl rfl rfl rfl fun w S => ?_)
                        refine FW.seq ?_
                        refine FW.anew [(0, .pointer (some ⟨bx0, 0, none⟩)), (3, .pointer (some ⟨b1, 0, none⟩)), (4, .int .i64 n16), (6, .int .i64 y173.1), (7, .int .i64 n182)] ⟨rfl, rfl, rfl, rfl, rfl, trivial⟩ fun σ => ?_
                        refine FW.region ?_
                        refine U rfl rfl (V (x_fa tf77_2 rfl) ?_)
                        refine U rfl rfl (V (x_ld tsc75 rfl (S.load 4 rfl 2 rfl)) ?_)
                        refine U rfl rfl (V (x_movV (v := .int .i64 y173.1) rfl) ?_)
                        refine U rfl rfl (o_bsl tsl75 tz3 rfl rfl rfl rfl (.one rfl PC.nil) rfl S fun b218 w S => ?_)
                        obtain ⟨J219, hJ221, S, h220⟩ := S.freeze (r := (tInt' .i64)) (l := [y173.1]) 0 rfl ⟨[.int .i64 y173.1], _, rfl, rfl, rfl⟩ rfl rfl
                        have h25 := h25.mono hJ221
                        have h187 := h187.mono hJ221
                        have h28 := h28.mono hJ221
                        have hI := hI.trans hJ221
                        have hL30 := hL30.trans hJ221
                        have hG := hG.mono hJ221
                        obtain ⟨l222, h224, H⟩ := obx H
                        refine U rfl rfl (o_appD (r := (tInt' .i64)) tsl75 rfl tz3 rfl rfl S 4 rfl rfl h25 h220 h224 fun v223 w J226 hJ227 S h225 => ?_)
                        have h25 := h25.mono hJ227
                        have h220 := h220.mono hJ227
                        have h187 := h187.mono hJ227
                        have h28 := h28.mono hJ227
                        have hI := hI.trans hJ227
                        have hL30 := hL30.trans hJ227
                        have hG := hG.mono hJ227
                        refine U rfl rfl (V (x_fa tf77_2 rfl) ?_)
                        refine U rfl rfl (o_st tone75 S 5 rfl rfl rfl h225.one fun w S => ?_)
                        refine FW.anew [(0, .pointer (some ⟨bx0, 0, none⟩)), (3, .pointer (some ⟨b1, 0, none⟩)), (4, .int .i64 n16), (7, .int .i64 n182)] ⟨rfl, rfl, rfl, rfl, trivial⟩ fun σ => ?_
                        refine FW.region ?_
                        refine U rfl rfl (V (x_fa tf77_3 rfl) ?_)
                        refine U rfl rfl (V (x_ld tsc75 rfl (S.load 5 rfl 3 rfl)) ?_)
                        refine U rfl rfl (V (x_movV (v := .int .i64 n182) rfl) ?_)
                        refine U rfl rfl (o_bsl tsl75 tz3 rfl rfl rfl rfl (.one rfl PC.nil) rfl S fun b228 w S => ?_)
                        obtain ⟨J229, hJ231, S, h230⟩ := S.freeze (r := (tInt' .i64)) (l := [n182]) 0 rfl ⟨[.int .i64 n182], _, rfl, rfl, rfl⟩ rfl rfl
                        have h28 := h28.mono hJ231
                        have h187 := h187.mono hJ231
                        have h225 := h225.mono hJ231
                        have hI := hI.trans hJ231
                        have hL30 := hL30.trans hJ231
                        have hG := hG.mono hJ231
                        obtain ⟨l232, h234, H⟩ := obx H
                        refine U rfl rfl (o_appD (r := (tInt' .i64)) tsl75 rfl tz3 rfl rfl S 4 rfl rfl h28 h230 h234 fun v233 w J236 hJ237 S h235 => ?_)
                        have h28 := h28.mono hJ237
                        have h230 := h230.mono hJ237
                        have h187 := h187.mono hJ237
                        have h225 := h225.mono hJ237
                        have hI := hI.trans hJ237
                        have hL30 := hL30.trans hJ237
                        have hG := hG.mono hJ237
                        refine U rfl rfl (V (x_fa tf77_3 rfl) ?_)
                        refine U rfl rfl (o_st tone75 S 6 rfl rfl rfl h235.one fun w S => ?_)
                        refine FW.anew [(0, .pointer (some ⟨bx0, 0, none⟩)), (3, .pointer (some ⟨b1, 0, none⟩)), (4, .int .i64 n16)] ⟨rfl, rfl, rfl, trivial⟩ fun σ => ?_
                        refine FW.region ?_
                        refine U rfl rfl (V (x_movV (v := .int .i64 n16) rfl) ?_)
                        refine U rfl rfl (V (x_bin rfl rfl rfl) ?_)
                        refine U rfl rfl (V (x_asgV (v := .int .i64 (i64 (n16 + 1))) rfl) ?_)
                        exact ⟨q29, Nat.le_refl _, (i64 (n16 + 1)), s183, n184, l185, (decide (y173.1 > n182)), l222, l232, v186, v223, v233, J236, H, (Nat.le_of_succ_le hq47), ⟨rfl, rfl, rfl, trivial⟩, hL30, (S.sel 7 [4, 5, 2, 3, 6] rfl), h187, h225, h235⟩
                  · rw [if_neg cc178] at H
                    refine AQ.skip 11 rfl (by kernel_rfl) (by kernel_rfl) (by kernel_rfl) rfl rfl (deF cc178) hO ?_
                    refine AQ.skip 12 rfl (by kernel_rfl) (by kernel_rfl) (by kernel_rfl) rfl rfl (deF cc178) hO ?_
                    refine AQ.skip 13 rfl (by kernel_rfl) (by kernel_rfl) (by kernel_rfl) rfl rfl (deF cc178) hO ?_
                    refine AQ.skip 14 rfl (by kernel_rfl) (by kernel_rfl) (by kernel_rfl) rfl rfl (deF cc178) hO ?_
                    refine AQ.skip 15 rfl (by kernel_rfl) (by kernel_rfl) (by kernel_rfl) rfl rfl (deF cc178) hO ?_
                    refine AQ.skip 16 rfl (by kernel_rfl) (by kernel_rfl) (by kernel_rfl) rfl rfl (deF cc178) hO ?_
                    refine AQ.skip 17 rfl (by kernel_rfl) (by kernel_rfl) (by kernel_rfl) rfl rfl (deF cc178) hO ?_
                    refine AQ.skip 18 rfl (by kernel_rfl) (by kernel_rfl) (by kernel_rfl) rfl rfl (deF cc178) hO ?_
                    refine AQ.skip 19 rfl (by kernel_rfl) (by kernel_rfl) (by kernel_rfl) rfl rfl (deF cc178) hO ?_
                    refine AQ.skip 20 rfl (by kernel_rfl) (by kernel_rfl) (by kernel_rfl) rfl rfl (deF cc178) hO ?_
                    refine AQ.pure 21 rfl (by kernel_rfl) (by kernel_rfl) (by kernel_rfl) rfl hO (fun w => x_pickFV (v := .bool false) rfl (deF cc178) rfl) ?_
                    refine AQ.done (by kernel_rfl) ?_
                    refine FW.condF rfl rfl ?_
                    refine FW.skip ?_
                    refine FW.seq ?_
                    refine FW.anew [(0, .pointer (some ⟨bx0, 0, none⟩)), (3, .pointer (some ⟨b1, 0, none⟩)), (4, .int .i64 n16), (6, .int .i64 y173.1), (7, .int .i64 y173.1)] ⟨rfl, rfl, rfl, rfl, rfl, trivial⟩ fun σ => ?_
                    refine FW.region ?_
                    refine U rfl rfl (V (x_movV (v := .pointer (some ⟨bx0, 0, none⟩)) rfl) ?_)
                    refine U rfl rfl (V (x_movV (v := .pointer (some ⟨bx0, 0, none⟩)) rfl) ?_)
                    refine U rfl rfl (V (x_nk rfl) ?_)
                    refine U rfl rfl (V (x_fa tf62_3 rfl) ?_)
                    refine U rfl rfl (V (x_ld tsc4 rfl (S.load 0 rfl 3 rfl)) ?_)
                    refine U rfl rfl (V (x_movV (v := .bool y173.2.Bad) rfl) ?_)
                    by_cases cc238 : y173.2.Bad = true
                    · rw [if_pos cc238] at H
                      refine OK.gf rfl rfl rfl cc238 ?_
                      refine OK.gf rfl rfl rfl cc238 ?_
                      refine OK.gf rfl rfl rfl cc238 ?_
                      refine U rfl rfl (V (x_pickTV (v := .bool true) rfl cc238 rfl) ?_)
                      refine U rfl rfl (V (x_nk rfl) ?_)
                      refine U rfl rfl (V (x_fa tf62_3 rfl) ?_)
                      refine U rfl rfl (o_st tone4 S 0 rfl rfl rfl rfl fun w S => ?_)
                      refine FW.seq ?_
                      refine FW.anew [(0, .pointer (some ⟨bx0, 0, none⟩)), (3, .pointer (some ⟨b1, 0, none⟩)), (4, .int .i64 n16), (6, .int .i64 y173.1), (7, .int .i64 y173.1)] ⟨rfl, rfl, rfl, rfl, rfl, trivial⟩ fun σ => ?_
                      refine FW.region ?_
                      refine U rfl rfl (V (x_fa tf77_2 rfl) ?_)
                      refine U rfl rfl (V (x_ld tsc75 rfl (S.load 4 rfl 2 rfl)) ?_)
                      refine U rfl rfl (V (x_movV (v := .int .i64 y173.1) rfl) ?_)
                      refine U rfl rfl (o_bsl tsl75 tz3 rfl rfl rfl rfl (.one rfl PC.nil) rfl S fun b239 w S => ?_)
                      obtain ⟨J240, hJ242, S, h241⟩ := S.freeze (r := (tInt' .i64)) (l := [y173.1]) 0 rfl ⟨[.int .i64 y173.1], _, rfl, rfl, rfl⟩ rfl rfl
                      have h25 := h25.mono hJ242
                      have y173_1h2 := y173_1h2.mono hJ242
                      have h28 := h28.mono hJ242
                      have hI := hI.trans hJ242
                      have hL30 := hL30.trans hJ242
                      have hG := hG.mono hJ242
                      obtain ⟨l243, h245, H⟩ := obx H
                      refine U rfl rfl (o_appD (r := (tInt' .i64)) tsl75 rfl tz3 rfl rfl S 4 rfl rfl h25 h241 h245 fun v244 w J247 hJ248 S h246 => ?_)
                      have h25 := h25.mono hJ248
                      have h241 := h241.mono hJ248
                      have y173_1h2 := y173_1h2.mono hJ248
                      have h28 := h28.mono hJ248
                      have hI := hI.trans hJ248
                      have hL30 := hL30.trans hJ248
                      have hG := hG.mono hJ248
                      refine U rfl rfl (V (x_fa tf77_2 rfl) ?_)
                      refine U rfl rfl (o_st tone75 S 5 rfl rfl rfl h246.one fun w S => ?_)
                      refine FW.anew [(0, .pointer (some ⟨bx0, 0, none⟩)), (3, .pointer (some ⟨b1, 0, none⟩)), (4, .int .i64 n16), (7, .int .i64 y173.1)] ⟨rfl, rfl, rfl, rfl, trivial⟩ fun σ => ?_
                      refine FW.region ?_
                      refine U rfl rfl (V (x_fa tf77_3 rfl) ?_)
                      refine U rfl rfl (V (x_ld tsc75 rfl (S.load 5 rfl 3 rfl)) ?_)
                      refine U rfl rfl (V (x_movV (v := .int .i64 y173.1) rfl) ?_)
                      refine U rfl rfl (o_bsl tsl75 tz3 rfl rfl rfl rfl (.one rfl PC.nil) rfl S fun b249 w S => ?_)
                      obtain ⟨J250, hJ252, S, h251⟩ := S.freeze (r := (tInt' .i64)) (l := [y173.1]) 0 rfl ⟨[.int .i64 y173.1], _, rfl, rfl, rfl⟩ rfl rfl
                      have h28 := h28.mono hJ252
                      have y173_1h2 := y173_1h2.mono hJ252
                      have h246 := h246.mono hJ252
                      have hI := hI.trans hJ252
                      have hL30 := hL30.trans hJ252
                      have hG := hG.mono hJ252
                      obtain ⟨l253, h255, H⟩ := obx H
                      refine U rfl rfl (o_appD (r := (tInt' .i64)) tsl75 rfl tz3 rfl rfl S 4 rfl rfl h28 h251 h255 fun v254 w J257 hJ258 S h256 => ?_)
                      have h28 := h28.mono hJ258
                      have h251 := h251.mono hJ258
                      have y173_1h2 := y173_1h2.mono hJ258
                      have h246 := h246.mono hJ258
                      have hI := hI.trans hJ258
                      have hL30 := hL30.trans hJ258
                      have hG := hG.mono hJ258
                      refine U rfl rfl (V (x_fa tf77_3 rfl) ?_)
                      refine U rfl rfl (o_st tone75 S 6 rfl rfl rfl h256.one fun w S => ?_)
                      refine FW.anew [(0, .pointer (some ⟨bx0, 0, none⟩)), (3, .pointer (some ⟨b1, 0, none⟩)), (4, .int .i64 n16)] ⟨rfl, rfl, rfl, trivial⟩ fun σ => ?_
                      refine FW.region ?_
                      refine U rfl rfl (V (x_movV (v := .int .i64 n16) rfl) ?_)
                      refine U rfl rfl (V (x_bin rfl rfl rfl) ?_)
                      refine U rfl rfl (V (x_asgV (v := .int .i64 (i64 (n16 + 1))) rfl) ?_)
                      exact ⟨q29, Nat.le_refl _, (i64 (n16 + 1)), y173.2.S, y173.2.At, y173.2.N, true, l243, l253, y173_1v2, v244, v254, J257, H, (Nat.le_of_succ_le hq47), ⟨rfl, rfl, rfl, trivial⟩, hL30, (S.sel 7 [4, 5, 2, 3, 6] rfl), y173_1h2, h246, h256⟩
                    · rw [if_neg cc238] at H
                      refine OK.gt rfl rfl rfl (vaF cc238) (V (x_movV (v := .int .i64 y173.1) rfl) ?_)
                      refine OK.gt rfl rfl rfl (vaF cc238) (V (x_movV (v := .int .i64 y173.1) rfl) ?_)
                      refine OK.gt rfl rfl rfl (vaF cc238) (V (x_bin rfl rfl rfl) ?_)
                      refine U rfl rfl (V (x_pickFV (v := .bool (decide (y173.1 > y173.1))) rfl (vaF cc238) rfl) ?_)
                      refine U rfl rfl (V (x_nk rfl) ?_)
                      refine U rfl rfl (V (x_fa tf62_3 rfl) ?_)
                      refine U rfl rfl (o_st tone4 S 0 rfl rfl rfl rfl fun w S => ?_)
                      refine FW.seq ?_
                      refine FW.anew [(0, .pointer (some ⟨bx0, 0, none⟩)), (3, .pointer (some ⟨b1, 0, none⟩)), (4, .int .i64 n16), (6, .int .i64 y173.1), (7, .int .i64 y173.1)] ⟨rfl, rfl, rfl, rfl, rfl, trivial⟩ fun σ => ?_
                      refine FW.region ?_
                      refine U rfl rfl (V (x_fa tf77_2 rfl) ?_)
                      refine U rfl rfl (V (x_ld tsc75 rfl (S.load 4 rfl 2 rfl)) ?_)
                      refine U rfl rfl (V (x_movV (v := .int .i64 y173.1) rfl) ?_)
                      refine U rfl rfl (o_bsl tsl75 tz3 rfl rfl rfl rfl (.one rfl PC.nil) rfl S fun b259 w S => ?_)
                      obtain ⟨J260, hJ262, S, h261⟩ := S.freeze (r := (tInt' .i64)) (l := [y173.1]) 0 rfl ⟨[.int .i64 y173.1], _, rfl, rfl, rfl⟩ rfl rfl
                      have h25 := h25.mono hJ262
                      have y173_1h2 := y173_1h2.mono hJ262
                      have h28 := h28.mono hJ262
                      have hI := hI.trans hJ262
                      have hL30 := hL30.trans hJ262
                      have hG := hG.mono hJ262
                      obtain ⟨l263, h265, H⟩ := obx H
                      refine U rfl rfl (o_appD (r := (tInt' .i64)) tsl75 rfl tz3 rfl rfl S 4 rfl rfl h25 h261 h265 fun v264 w J267 hJ268 S h266 => ?_)
                      have h25 := h25.mono hJ268
                      have h261 := h261.mono hJ268
                      have y173_1h2 := y173_1h2.mono hJ268
                      have h28 := h28.mono hJ268
                      have hI := hI.trans hJ268
                      have hL30 := hL30.trans hJ268
                      have hG := hG.mono hJ268
                      refine U rfl rfl (V (x_fa tf77_2 rfl) ?_)
                      refine U rfl rfl (o_st tone75 S 5 rfl rfl rfl h266.one fun w S => ?_)
                      refine FW.anew [(0, .pointer (some ⟨bx0, 0, none⟩)), (3, .pointer (some ⟨b1, 0, none⟩)), (4, .int .i64 n16), (7, .int .i64 y173.1)] ⟨rfl, rfl, rfl, rfl, trivial⟩ fun σ => ?_
                      refine FW.region ?_
                      refine U rfl rfl (V (x_fa tf77_3 rfl) ?_)
                      refine U rfl rfl (V (x_ld tsc75 rfl (S.load 5 rfl 3 rfl)) ?_)
                      refine U rfl rfl (V (x_movV (v := .int .i64 y173.1) rfl) ?_)
                      refine U rfl rfl (o_bsl tsl75 tz3 rfl rfl rfl rfl (.one rfl PC.nil) rfl S fun b269 w S => ?_)
                      obtain ⟨J270, hJ272, S, h271⟩ := S.freeze (r := (tInt' .i64)) (l := [y173.1]) 0 rfl ⟨[.int .i64 y173.1], _, rfl, rfl, rfl⟩ rfl rfl
                      have h28 := h28.mono hJ272
                      have y173_1h2 := y173_1h2.mono hJ272
                      have h266 := h266.mono hJ272
                      have hI := hI.trans hJ272
                      have hL30 := hL30.trans hJ272
                      have hG := hG.mono hJ272
                      obtain ⟨l273, h275, H⟩ := obx H
                      refine U rfl rfl (o_appD (r := (tInt' .i64)) tsl75 rfl tz3 rfl rfl S 4 rfl rfl h28 h271 h275 fun v274 w J277 hJ278 S h276 => ?_)
                      have h28 := h28.mono hJ278
                      have h271 := h271.mono hJ278
                      have y173_1h2 := y173_1h2.mono hJ278
                      have h266 := h266.mono hJ278
                      have hI := hI.trans hJ278
                      have hL30 := hL30.trans hJ278
                      have hG := hG.mono hJ278
                      refine U rfl rfl (V (x_fa tf77_3 rfl) ?_)
                      refine U rfl rfl (o_st tone75 S 6 rfl rfl rfl h276.one fun w S => ?_)
                      refine FW.anew [(0, .pointer (some ⟨bx0, 0, none⟩)), (3, .pointer (some ⟨b1, 0, none⟩)), (4, .int .i64 n16)] ⟨rfl, rfl, rfl, trivial⟩ fun σ => ?_
                      refine FW.region ?_
                      refine U rfl rfl (V (x_movV (v := .int .i64 n16) rfl) ?_)
                      refine U rfl rfl (V (x_bin rfl rfl rfl) ?_)
                      refine U rfl rfl (V (x_asgV (v := .int .i64 (i64 (n16 + 1))) rfl) ?_)
                      exact ⟨q29, Nat.le_refl _, (i64 (n16 + 1)), y173.2.S, y173.2.At, y173.2.N, (decide (y173.1 > y173.1)), l263, l273, y173_1v2, v264, v274, J277, H, (Nat.le_of_succ_le hq47), ⟨rfl, rfl, rfl, trivial⟩, hL30, (S.sel 7 [4, 5, 2, 3, 6] rfl), y173_1h2, h266, h276⟩
                · rw [if_neg cc172] at H
                  refine FW.condF rfl (vaF cc172) ?_
                  refine FW.region ?_
                  refine U rfl rfl (V (x_movV (v := .pointer (some ⟨bx0, 0, none⟩)) rfl) ?_)
                  refine U rfl rfl (V (x_nk rfl) ?_)
                  refine U rfl rfl (V (x_fa tf62_3 rfl) ?_)
                  refine U rfl rfl (o_st tone4 S 0 rfl rfl rfl rfl fun w S => ?_)
                  refine FW.anew [(0, .pointer (some ⟨bx0, 0, none⟩)), (3, .pointer (some ⟨b1, 0, none⟩)), (4, .int .i64 n16)] ⟨rfl, rfl, rfl, trivial⟩ fun σ => ?_
                  refine FW.region ?_
                  refine U rfl rfl (V (x_movV (v := .int .i64 n16) rfl) ?_)
                  refine U rfl rfl (V (x_bin rfl rfl rfl) ?_)
                  refine U rfl rfl (V (x_asgV (v := .int .i64 (i64 (n16 + 1))) rfl) ?_)
                  exact ⟨q29, Nat.le_refl _, (i64 (n16 + 1)), y50.2.S, y50.2.At, y50.2.N, true, l23, l26, y50_1v2, v24, v27, J52, H, (Nat.le_of_succ_le hq47), ⟨rfl, rfl, rfl, trivial⟩, hL30, (S.sel 5 [2, 3, 0, 1, 4] rfl), y50_1h2, h25, h28⟩
        · rw [if_neg cc48] at H
          refine OK.gf rfl rfl rfl (deF cc48) ?_
          refine OK.gf rfl rfl rfl (deF cc48) ?_
          refine OK.gf rfl rfl rfl (deF cc48) ?_
          refine OK.gf rfl rfl rfl (deF cc48) ?_
          refine OK.gf rfl rfl rfl (deF cc48) ?_
          refine U rfl rfl (V (x_pickFV (v := .bool false) rfl (deF cc48) rfl) ?_)
          refine FW.condF rfl rfl ?_
          refine FW.exit ?_
          exact ⟨s17, n18, l19, b22, l23, l26, v20, v24, v27, J15, (Option.some.inj H), ⟨rfl, trivial⟩, hL30, S, h21, h25, h28⟩
    · rintro σ w ⟨s35, n36, l37, b40, l41, l44, v38, v42, v45, J34, ho, hσ, hL30, S, h39, h43, h46⟩
      subst ho
      have H := HO32
      try dsimp only at H
      have hI := hI.trans hL30
      have hG := hG.mono hL30
      rw [hσ.eq]
      refine FW.seq ?_
      refine FW.region ?_
      refine U rfl rfl (V (x_movV (v := .pointer (some ⟨bx0, 0, none⟩)) rfl) ?_)
      refine U rfl rfl (V (x_nk rfl) ?_)
      refine U rfl rfl (V (x_fa tf62_3 rfl) ?_)
      refine U rfl rfl (o_st tone4 S 2 rfl rfl rfl rfl fun w S => ?_)
      refine FW.seq ?_
      refine FW.region ?_
      refine U rfl rfl (V (x_asgV (v := .int .i64 0) rfl) ?_)
      refine FW.ret ?_
      obtain rfl := Option.some.inj H
      exact ⟨_, ⟨_, rfl, rfl⟩, ⟨v38, J34, hI, rfl, h39, (S.sel 5 [2, 3] rfl)⟩⟩
end Go.Proofs.YtkkflfmonidepaaDoor
namespace Go.Proofs.YtkkflfmonidepaaDoor
open Sp
set_option maxRecDepth 100000
set_option maxHeartbeats 4000000
mutual
def speculumref11_P_choices.l0 : Nat → (List Int) → ByteArray → Int → (List T_speculumref11_Node) → Bool → Option ((List Int) × ByteArray × Int × (List T_speculumref11_Node) × Bool)
  | 0, _, _, _, _, _ => none
  | k + 1, l11, s14, n15, l16, b19 => (if b19 = true then (some (l11, s14, n15, l16, b19)) else ((speculumref11_P_sign.f k (T_speculumref11_P.mk s14 n15 l16 b19)).bind fun y37 => (if y37.1 = 124 then ((speculumref11_P_row.f k (T_speculumref11_P.mk y37.2.S (i64 (y37.2.At + 1)) y37.2.N y37.2.Bad)).bind fun y43 => ((app 8 l11 [y43.1]).bind fun l51 => (speculumref11_P_choices.l0 k l51 y43.2.S y43.2.At y43.2.N y43.2.Bad))) else (some (l11, y37.2.S, y37.2.At, y37.2.N, y37.2.Bad)))))
def speculumref11_P_choices.f : Nat → T_speculumref11_P → Option (Int × T_speculumref11_P)
  | 0, _ => none
  | k + 1, x0 => ((speculumref11_P_row.f k x0).bind fun y1 => ((speculumref11_P_choices.l0 k [y1.1] y1.2.S y1.2.At y1.2.N y1.2.Bad).bind fun (l26, s29, n30, l31, b34) => ((speculumref11_P_put.f k (T_speculumref11_P.mk s29 n30 l31 b34) (T_speculumref11_Node.mk 99 l26 [] [] false false)).bind fun y57 => (some (y57.1, y57.2)))))
def speculumref11_P_row.l0 : Nat → Int → ByteArray → Int → (List T_speculumref11_Node) → Bool → (List Int) → Option (ByteArray × Int × (List T_speculumref11_Node) × Bool × (List Int))
  | 0, _, _, _, _, _, _ => none
  | k + 1, n8, s9, n10, l11, b14, l15 => (if b14 = true then (some (s9, n10, l11, b14, l15)) else (if n8 = 0 then (some (s9, n10, l11, b14, l15)) else (if n8 = 124 then (some (s9, n10, l11, b14, l15)) else (if n8 = 41 then (some (s9, n10, l11, b14, l15)) else ((speculumref11_P_part.f k (T_speculumref11_P.mk s9 n10 l11 b14)).bind fun y39 => ((app 8 l15 [y39.1]).bind fun l47 => ((speculumref11_P_sign.f k y39.2).bind fun y53 => (speculumref11_P_row.l0 k y53.1 y53.2.S y53.2.At y53.2.N y53.2.Bad l47))))))))
def speculumref11_P_row.f : Nat → T_speculumref11_P → Option (Int × T_speculumref11_P)
  | 0, _ => none
  | k + 1, x0 => ((speculumref11_P_sign.f k x0).bind fun y2 => ((speculumref11_P_row.l0 k y2.1 y2.2.S y2.2.At y2.2.N y2.2.Bad []).bind fun (s24, n25, l26, b29, l30) => ((speculumref11_P_put.f k (T_speculumref11_P.mk s24 n25 l26 b29) (T_speculumref11_Node.mk 114 l30 [] [] false false)).bind fun y57 => (some (y57.1, y57.2)))))
def speculumref11_P_part.l0 : Nat → Int → Int → ByteArray → Int → (List T_speculumref11_Node) → Bool → Option (Int × ByteArray × Int × (List T_speculumref11_Node) × Bool)
  | 0, _, _, _, _, _, _ => none
  | k + 1, n70, n71, s72, n73, l74, b77 => (if b77 = true then (some (n71, s72, n73, l74, b77)) else (if n70 = 42 then ((speculumref11_P_put.f k (T_speculumref11_P.mk s72 (i64 (n73 + 1)) l74 b77) (T_speculumref11_Node.mk n70 [n71] [] [] false false)).bind fun y98 => ((speculumref11_P_sign.f k y98.2).bind fun y102 => (speculumref11_P_part.l0 k y102.1 y98.1 y102.2.S y102.2.At y102.2.N y102.2.Bad))) else (if n70 = 43 then ((speculumref11_P_put.f k (T_speculumref11_P.mk s72 (i64 (n73 + 1)) l74 b77) (T_speculumref11_Node.mk n70 [n71] [] [] false false)).bind fun y111 => ((speculumref11_P_sign.f k y111.2).bind fun y115 => (speculumref11_P_part.l0 k y115.1 y111.1 y115.2.S y115.2.At y115.2.N y115.2.Bad))) else (if n70 = 63 then ((speculumref11_P_put.f k (T_speculumref11_P.mk s72 (i64 (n73 + 1)) l74 b77) (T_speculumref11_Node.mk n70 [n71] [] [] false false)).bind fun y124 => ((speculumref11_P_sign.f k y124.2).bind fun y128 => (speculumref11_P_part.l0 k y128.1 y124.1 y128.2.S y128.2.At y128.2.N y128.2.Bad))) else (some (n71, s72, n73, l74, b77))))))
def speculumref11_P_part.f : Nat → T_speculumref11_P → Option (Int × T_speculumref11_P)
  | 0, _ => none
  | k + 1, x0 => ((speculumref11_P_sign.f k x0).bind fun y1 => ((((speculumref11_digit.f k y1.1).bind fun y16 => (if y16 = true then ((speculumref11_P_num.f k y1.2).bind fun y19 => ((speculumref11_P_put.f k y19.2 (T_speculumref11_Node.mk 115 [] [y19.1] [y19.1] false true)).bind fun y31 => (some (.inr (y31.1, y31.2.S, y31.2.At, y31.2.N, y31.2.Bad))))) else (if y1.1 = 46 then ((speculumref11_P_put.f k (T_speculumref11_P.mk y1.2.S (i64 (y1.2.At + 1)) y1.2.N y1.2.Bad) (T_speculumref11_Node.mk y1.1 [] [] [] false false)).bind fun y36 => (some (.inr (y36.1, y36.2.S, y36.2.At, y36.2.N, y36.2.Bad)))) else (if y1.1 = 94 then ((speculumref11_P_put.f k (T_speculumref11_P.mk y1.2.S (i64 (y1.2.At + 1)) y1.2.N y1.2.Bad) (T_speculumref11_Node.mk y1.1 [] [] [] false false)).bind fun y41 => (some (.inr (y41.1, y41.2.S, y41.2.At, y41.2.N, y41.2.Bad)))) else (if y1.1 = 36 then ((speculumref11_P_put.f k (T_speculumref11_P.mk y1.2.S (i64 (y1.2.At + 1)) y1.2.N y1.2.Bad) (T_speculumref11_Node.mk y1.1 [] [] [] false false)).bind fun y46 => (some (.inr (y46.1, y46.2.S, y46.2.At, y46.2.N, y46.2.Bad)))) else (if y1.1 = 91 then ((speculumref11_P_set.f k (T_speculumref11_P.mk y1.2.S (i64 (y1.2.At + 1)) y1.2.N y1.2.Bad)).bind fun y51 => (some (.inr (y51.1, y51.2.S, y51.2.At, y51.2.N, y51.2.Bad)))) else (if y1.1 = 40 then ((speculumref11_P_choices.f k (T_speculumref11_P.mk y1.2.S (i64 (y1.2.At + 1)) y1.2.N y1.2.Bad)).bind fun y56 => ((speculumref11_P_sign.f k y56.2).bind fun y60 => (if y60.1 = 41 then (some (.inr (y56.1, y60.2.S, (i64 (y60.2.At + 1)), y60.2.N, y60.2.Bad))) else (some (.inl (0, (T_speculumref11_P.mk y60.2.S y60.2.At y60.2.N true))))))) else (some (.inl (0, (T_speculumref11_P.mk y1.2.S y1.2.At y1.2.N true))))))))))) : Option (Sum (Int × T_speculumref11_P) (Int × ByteArray × Int × (List T_speculumref11_Node) × Bool))).bind fun o => match o with | .inl r => some r | .inr (n6, s7, n8, l9, b12) => ((speculumref11_P_sign.f k (T_speculumref11_P.mk s7 n8 l9 b12)).bind fun y65 => ((speculumref11_P_part.l0 k y65.1 n6 y65.2.S y65.2.At y65.2.N y65.2.Bad).bind fun (n84, s85, n86, l87, b90) => (some (n84, (T_speculumref11_P.mk s85 n86 l87 b90)))))))
end
abbrev speculumref11_P_choices.C (k : Nat) : Prop := ∀ {x0 : T_speculumref11_P} {x0v2 : Value} {bx0 : Nat} {F : List It} {I : IMem} {w : World} {r : Int × T_speculumref11_P}, Glob I → Own I w (.bk bx0 62 [.string x0.S, .int .i64 x0.At, x0v2, .bool x0.Bad] :: .tv x0v2 77 6 :: F) → SlR R_speculumref11_Node I x0v2 x0.N → speculumref11_P_choices.f k x0 = some r →
    Calls Tryd.prog 20 #[.pointer (some ⟨bx0, 0, none⟩)] w fun e w' => ∃ v, e = .returned v ∧ ∃ (y_1v2 : Value) (J : IMem), I.le J ∧ v = .int .i64 r.1 ∧ SlR R_speculumref11_Node J y_1v2 r.2.N ∧ Own J w' (.bk bx0 62 [.string r.2.S, .int .i64 r.2.At, y_1v2, .bool r.2.Bad] :: .tv y_1v2 77 6 :: F)
abbrev speculumref11_P_row.C (k : Nat) : Prop := ∀ {x0 : T_speculumref11_P} {x0v2 : Value} {bx0 : Nat} {F : List It} {I : IMem} {w : World} {r : Int × T_speculumref11_P}, Glob I → Own I w (.bk bx0 62 [.string x0.S, .int .i64 x0.At, x0v2, .bool x0.Bad] :: .tv x0v2 77 6 :: F) → SlR R_speculumref11_Node I x0v2 x0.N → speculumref11_P_row.f k x0 = some r →
    Calls Tryd.prog 32 #[.pointer (some ⟨bx0, 0, none⟩)] w fun e w' => ∃ v, e = .returned v ∧ ∃ (y_1v2 : Value) (J : IMem), I.le J ∧ v = .int .i64 r.1 ∧ SlR R_speculumref11_Node J y_1v2 r.2.N ∧ Own J w' (.bk bx0 62 [.string r.2.S, .int .i64 r.2.At, y_1v2, .bool r.2.Bad] :: .tv y_1v2 77 6 :: F)
abbrev speculumref11_P_part.C (k : Nat) : Prop := ∀ {x0 : T_speculumref11_P} {x0v2 : Value} {bx0 : Nat} {F : List It} {I : IMem} {w : World} {r : Int × T_speculumref11_P}, Glob I → Own I w (.bk bx0 62 [.string x0.S, .int .i64 x0.At, x0v2, .bool x0.Bad] :: .tv x0v2 77 6 :: F) → SlR R_speculumref11_Node I x0v2 x0.N → speculumref11_P_part.f k x0 = some r →
    Calls Tryd.prog 45 #[.pointer (some ⟨bx0, 0, none⟩)] w fun e w' => ∃ v, e = .returned v ∧ ∃ (y_1v2 : Value) (J : IMem), I.le J ∧ v = .int .i64 r.1 ∧ SlR R_speculumref11_Node J y_1v2 r.2.N ∧ Own J w' (.bk bx0 62 [.string r.2.S, .int .i64 r.2.At, y_1v2, .bool r.2.Bad] :: .tv y_1v2 77 6 :: F)
theorem speculumref11_P_choices.step (k : Nat) (ih_speculumref11_P_row : ∀ m, m ≤ k → speculumref11_P_row.C m) : speculumref11_P_choices.C (k + 1) := by
  intro x0 x0v2 bx0 F I w r hG S x0h2 H
  have hI := IMem.le.refl I
  rw [speculumref11_P_choices.f] at H
  refine Calls.ofFW (args := [.pointer (some ⟨bx0, 0, none⟩)]) Tryd.func20 rfl rfl ?_
  refine FW.seq ?_
  refine FW.region ?_
  refine U rfl rfl (V (x_asgV (v := .int .i64 0) rfl) ?_)
  refine FW.seq ?_
  refine FW.region ?_
  refine U rfl rfl (V (x_movV (v := .pointer (some ⟨bx0, 0, none⟩)) rfl) ?_)
  obtain ⟨y1, hy2, H⟩ := obx H
  refine U rfl rfl (cl fb32 (@ih_speculumref11_P_row k (by omega) x0 _ _ _ _ _ _ hG S x0h2 hy2) rfl ?_)
  rintro _ w ⟨y1_1v2, J3, hJ4, rfl, y1_1h2, S⟩
  have hI := hI.trans hJ4
  have hG := hG.mono hJ4
  refine U rfl rfl (o_bsl tsl75 tz3 rfl rfl rfl rfl (.one rfl PC.nil) rfl S fun b5 w S => ?_)
  obtain ⟨J6, hJ8, S, h7⟩ := S.freeze (r := (tInt' .i64)) (l := [y1.1]) 0 rfl ⟨[.int .i64 y1.1], _, rfl, rfl, rfl⟩ rfl rfl
  have y1_1h2 := y1_1h2.mono hJ8
  have hI := hI.trans hJ8
  have hG := hG.mono hJ8
  refine U rfl rfl (V (x_bld tz77 tpl77 rfl (.one rfl (.one h7.one PC.nil)) rfl) ?_)
  refine U rfl rfl (o_all tz77 S fun b9 w S => ?_)
  refine U rfl rfl (o_stA tag77 S 0 rfl rfl rfl rfl (c1 rfl (c1 h7.one (c1 rfl (c1 rfl (c1 rfl (c1 rfl c0)))))) rfl fun w S => ?_)
  refine FW.seq ?_
  refine FW.block ?_
  obtain ⟨o22, hl24, HO23⟩ := obx H
  refine FW.cutX 0 (fun σ w => ∃ (l26 : (List Int)) (s29 : ByteArray) (n30 : Int) (l31 : (List T_speculumref11_Node)) (b34 : Bool) (v27 : Value) (v32 : Value) (J25 : IMem), (l26, s29, n30, l31, b34) = o22 ∧ Has σ [(0, .pointer (some ⟨bx0, 0, none⟩)), (3, .pointer (some ⟨b9, 0, none⟩))] ∧ J6.le J25 ∧ Own J25 w (.bk b9 77 [.int .u8 99, v27, (.slice none 0 0), (.slice none 0 0), .bool false, .bool false] :: .tv v27 3 1 :: .bk bx0 62 [.string s29, .int .i64 n30, v32, .bool b34] :: .tv v32 77 6 :: F) ∧ SlR (tInt' .i64) J25 v27 l26 ∧ SlR R_speculumref11_Node J25 v32 l31) ?_ ?_
  ·
    refine FW.loop k (FL.ind (fun q σ w => ∃ (l11 : (List Int)) (s14 : ByteArray) (n15 : Int) (l16 : (List T_speculumref11_Node)) (b19 : Bool) (v12 : Value) (v17 : Value) (J10 : IMem), speculumref11_P_choices.l0 q l11 s14 n15 l16 b19 = some o22 ∧ q ≤ k ∧ Has σ [(0, .pointer (some ⟨bx0, 0, none⟩)), (3, .pointer (some ⟨b9, 0, none⟩))] ∧ J6.le J10 ∧ Own J10 w (.bk b9 77 [.int .u8 99, v12, (.slice none 0 0), (.slice none 0 0), .bool false, .bool false] :: .tv v12 3 1 :: .bk bx0 62 [.string s14, .int .i64 n15, v17, .bool b19] :: .tv v17 77 6 :: F) ∧ SlR (tInt' .i64) J10 v12 l11 ∧ SlR R_speculumref11_Node J10 v17 l16) ?_ ?_ k k _ _ (Nat.le_refl _) ⟨[y1.1], y1.2.S, y1.2.At, y1.2.N, y1.2.Bad, (.slice (some ⟨b5, 0, none⟩) 1 1), y1_1v2, J6, hl24, Nat.le_refl _, ⟨rfl, rfl, trivial⟩, (IMem.le.refl _), S, h7, y1_1h2⟩)
    · rintro σ w ⟨l11, s14, n15, l16, b19, v12, v17, J10, H, _⟩; cases H
    · rintro q20 σ w ⟨l11, s14, n15, l16, b19, v12, v17, J10, H, hq35, hσ, hL21, S, h13, h18⟩
      have hI := hI.trans hL21
      have hG := hG.mono hL21
      rw [hσ.eq]
      rw [speculumref11_P_choices.l0] at H
      refine FW.seq ?_
      refine FW.seq ?_
      refine FW.region ?_
      refine U rfl rfl (V (x_movV (v := .pointer (some ⟨bx0, 0, none⟩)) rfl) ?_)
      refine U rfl rfl (V (x_nk rfl) ?_)
      refine U rfl rfl (V (x_fa tf62_3 rfl) ?_)
      refine U rfl rfl (V (x_ld tsc4 rfl (S.load 2 rfl 3 rfl)) ?_)
      refine U rfl rfl (V (x_not' rfl) ?_)
      refine U rfl rfl (V (x_movV (v := .bool (!b19)) rfl) ?_)
      by_cases cc36 : b19 = true
      · rw [if_pos cc36] at H
        refine OK.gf rfl rfl rfl (noF cc36) ?_
        refine OK.gf rfl rfl rfl (noF cc36) ?_
        refine OK.gf rfl rfl rfl (noF cc36) ?_
        refine U rfl rfl (V (x_pickFV (v := .bool false) rfl (noF cc36) rfl) ?_)
        refine FW.condF rfl rfl ?_
        refine FW.exit ?_
        exact ⟨l11, s14, n15, l16, b19, v12, v17, J10, (Option.some.inj H), ⟨rfl, rfl, trivial⟩, hL21, S, h13, h18⟩
      · rw [if_neg cc36] at H
        refine OK.gt rfl rfl rfl (noT (vaF cc36)) (V (x_movV (v := .pointer (some ⟨bx0, 0, none⟩)) rfl) ?_)
        obtain ⟨y37, hy38, H⟩ := obx H
        refine OK.gt rfl rfl rfl (noT (vaF cc36)) (cl fb21 (@speculumref11_P_sign.ok q20 (T_speculumref11_P.mk s14 n15 l16 b19) _ _ _ _ _ _ hG (S.sel 4 [2, 3, 0, 1] rfl) h18 hy38) rfl ?_)
        rintro _ w ⟨y37_1v2, J39, hJ40, rfl, y37_1h2, S⟩
        have h13 := h13.mono hJ40
        have hI := hI.trans hJ40
        have hL21 := hL21.trans hJ40
        have hG := hG.mono hJ40
        refine OK.gt rfl rfl rfl (noT (vaF cc36)) (V (x_bin rfl rfl rfl) ?_)
        refine U rfl rfl (V (x_pickTV (v := .bool (y37.1 == 124)) rfl (noT (vaF cc36)) rfl) ?_)
        by_cases cc41 : y37.1 = 124
        · rw [if_pos cc41] at H
          refine FW.condT rfl (eqT cc41) ?_
          refine FW.skip ?_
          refine FW.block ?_
          refine FW.seq ?_
          refine FW.anew [(0, .pointer (some ⟨bx0, 0, none⟩)), (3, .pointer (some ⟨b9, 0, none⟩))] ⟨rfl, rfl, trivial⟩ fun σ => ?_
          refine FW.region ?_
          refine U rfl rfl (V (x_movV (v := .pointer (some ⟨bx0, 0, none⟩)) rfl) ?_)
          refine U rfl rfl (V (x_movV (v := .pointer (some ⟨bx0, 0, none⟩)) rfl) ?_)
          refine U rfl rfl (V (x_nk rfl) ?_)
          refine U rfl rfl (V (x_fa tf62_1 rfl) ?_)
          refine U rfl rfl (V (x_ld tsc3 rfl (S.load 0 rfl 1 rfl)) ?_)
          refine U rfl rfl (V (x_bin rfl rfl rfl) ?_)
          refine U rfl rfl (V (x_nk rfl) ?_)
          refine U rfl rfl (V (x_fa tf62_1 rfl) ?_)
          refine U rfl rfl (o_st tone3 S 0 rfl rfl rfl rfl fun w S => ?_)
          refine FW.anew [(0, .pointer (some ⟨bx0, 0, none⟩)), (3, .pointer (some ⟨b9, 0, none⟩))] ⟨rfl, rfl, trivial⟩ fun σ => ?_
          have S := S.drew
          refine FW.regionD mixed ?_
          have hO := Hold.nil (w := { w with drawn := w.drawn + 1 })
          refine AQ.pure 0 rfl (by kernel_rfl) (by kernel_rfl) (by kernel_rfl) rfl hO (fun w => x_fa tf77_1 rfl) ?_
          have hR42 := IMem.le.refl J39
          refine AQ.take (S := Stab J39 [.bk b9 77 [.int .u8 99, v12, (.slice none 0 0), (.slice none 0 0), .bool false, .bool false]]) 1 rfl (by kernel_rfl) (by kernel_rfl) (by kernel_rfl) rfl hO (Stab.of S 2 rfl hR42) (fun w hS => x_ld tsc75 rfl (hS.load 0 rfl 1 rfl)) fun hO => ?_
          refine AQ.pure 2 rfl (by kernel_rfl) (by kernel_rfl) (by kernel_rfl) rfl hO (fun w => x_movV (v := .pointer (some ⟨bx0, 0, none⟩)) rfl) ?_
          refine AQ.one 3 [1] [true] (by kernel_rfl) rfl (by kernel_rfl) ?_
          obtain ⟨y43, hy44, H⟩ := obx H
          refine U rfl rfl (cl fb32 (@ih_speculumref11_P_row q20 (by omega) (T_speculumref11_P.mk y37.2.S (i64 (y37.2.At + 1)) y37.2.N y37.2.Bad) _ _ _ _ _ _ hG S y37_1h2 hy44) rfl ?_)
          rintro _ w ⟨y43_1v2, J45, hJ46, rfl, y43_1h2, S⟩
          have h13 := h13.mono hJ46
          have hI := hI.trans hJ46
          have hL21 := hL21.trans hJ46
          have hR42 := hR42.trans hJ46
          have hG := hG.mono hJ46
          refine andI (Hold.cons (Stab.of S 2 rfl hR42) Hold.nil) fun hO => ?_
          refine AQ.one 4 [1] [true] (by kernel_rfl) rfl (by kernel_rfl) ?_
          refine U rfl rfl (o_bsl tsl75 tz3 rfl rfl rfl rfl (.one rfl PC.nil) rfl S fun b47 w S => ?_)
          obtain ⟨J48, hJ50, S, h49⟩ := S.freeze (r := (tInt' .i64)) (l := [y43.1]) 0 rfl ⟨[.int .i64 y43.1], _, rfl, rfl, rfl⟩ rfl rfl
          have h13 := h13.mono hJ50
          have y43_1h2 := y43_1h2.mono hJ50
          have hI := hI.trans hJ50
          have hL21 := hL21.trans hJ50
          have hR42 := hR42.trans hJ50
          have hG := hG.mono hJ50
          refine andI (Hold.cons (Stab.of S 3 rfl hR42) Hold.nil) fun hO => ?_
          refine AQ.one 5 [1] [false] (by kernel_rfl) rfl (by kernel_rfl) ?_
          obtain ⟨l51, h53, H⟩ := obx H
          refine U rfl rfl (o_appD (r := (tInt' .i64)) tsl75 rfl tz3 rfl rfl S 4 rfl rfl h13 h49 h53 fun v52 w J55 hJ56 S h54 => ?_)
          have h13 := h13.mono hJ56
          have h49 := h49.mono hJ56
          have y43_1h2 := y43_1h2.mono hJ56
          have hI := hI.trans hJ56
          have hL21 := hL21.trans hJ56
          have hR42 := hR42.trans hJ56
          have hG := hG.mono hJ56
          refine andI Hold.nil fun hO => ?_
          refine AQ.pure 6 rfl (by kernel_rfl) (by kernel_rfl) (by kernel_rfl) rfl hO (fun w => x_fa tf77_1 rfl) ?_
          refine AQ.one 7 [] [] (by kernel_rfl) rfl (by kernel_rfl) ?_
          refine U rfl rfl (o_st tone75 S 3 rfl rfl rfl h54.one fun w S => ?_)
          refine andI Hold.nil fun hO => ?_
          refine AQ.done (by kernel_rfl) ?_
          exact ⟨q20, Nat.le_refl _, l51, y43.2.S, y43.2.At, y43.2.N, y43.2.Bad, v52, y43_1v2, J55, H, (Nat.le_of_succ_le hq35), ⟨rfl, rfl, trivial⟩, hL21, (S.sel 5 [3, 4, 1, 2] rfl), h54, y43_1h2⟩
        · rw [if_neg cc41] at H
          refine FW.condF rfl (eqF cc41) ?_
          refine FW.exit ?_
          exact ⟨l11, y37.2.S, y37.2.At, y37.2.N, y37.2.Bad, v12, y37_1v2, J39, (Option.some.inj H), ⟨rfl, rfl, trivial⟩, hL21, (S.sel 4 [2, 3, 0, 1] rfl), h13, y37_1h2⟩
  · rintro σ w ⟨l26, s29, n30, l31, b34, v27, v32, J25, ho, hσ, hL21, S, h28, h33⟩
    subst ho
    have H := HO23
    try dsimp only at H
    have hI := hI.trans hL21
    have hG := hG.mono hL21
    rw [hσ.eq]
    refine FW.seq ?_
    refine FW.region ?_
    refine U rfl rfl (V (x_movV (v := .pointer (some ⟨bx0, 0, none⟩)) rfl) ?_)
    refine U rfl rfl (V (x_ldA tag77 rfl (S.loadW 0 rfl) rfl) ?_)
    obtain ⟨y57, hy58, H⟩ := obx H
    refine U rfl rfl (cl fb33 (@speculumref11_P_put.ok k (T_speculumref11_P.mk s29 n30 l31 b34) (T_speculumref11_Node.mk 99 l26 [] [] false false) _ _ _ _ _ _ _ _ _ hG (S.sel 4 [2, 3, 0, 1] rfl) h33 h28 (SlR.nil _ _) (SlR.nil _ _) hy58) rfl ?_)
    rintro _ w ⟨y57_1v2, J59, hJ60, rfl, y57_1h2, S⟩
    have h28 := h28.mono hJ60
    have hI := hI.trans hJ60
    have hG := hG.mono hJ60
    refine U rfl rfl (V (x_asgV (v := .int .i64 y57.1) rfl) ?_)
    refine FW.ret ?_
    obtain rfl := Option.some.inj H
    exact ⟨_, ⟨_, rfl, rfl⟩, ⟨y57_1v2, J59, hI, rfl, y57_1h2, (S.sel 4 [0, 1] rfl)⟩⟩
theorem speculumref11_P_choices.zero : speculumref11_P_choices.C 0 := by
  intro _ _ _ _ _ _ _ _ _ _ H; cases H
theorem speculumref11_P_row.step (k : Nat) (ih_speculumref11_P_part : ∀ m, m ≤ k → speculumref11_P_part.C m) : speculumref11_P_row.C (k + 1) := by
  intro x0 x0v2 bx0 F I w r hG S x0h2 H
  have hI := IMem.le.refl I
  rw [speculumref11_P_row.f] at H
  refine Calls.ofFW (args := [.pointer (some ⟨bx0, 0, none⟩)]) Tryd.func32 rfl rfl ?_
  refine FW.seq ?_
  refine FW.region ?_
  refine U rfl rfl (V (x_asgV (v := .int .i64 0) rfl) ?_)
  refine FW.seq ?_
  refine FW.region ?_
  refine U rfl rfl (V (x_bld tz77 tpl77 rfl (.one rfl PC.nil) rfl) ?_)
  refine U rfl rfl (o_all tz77 S fun b1 w S => ?_)
  refine U rfl rfl (o_stA tag77 S 0 rfl rfl rfl rfl (c1 rfl (c1 rfl (c1 rfl (c1 rfl (c1 rfl (c1 rfl c0)))))) rfl fun w S => ?_)
  refine FW.seq ?_
  refine FW.region ?_
  refine U rfl rfl (V (x_movV (v := .pointer (some ⟨bx0, 0, none⟩)) rfl) ?_)
  obtain ⟨y2, hy3, H⟩ := obx H
  refine U rfl rfl (cl fb21 (@speculumref11_P_sign.ok k x0 _ _ _ _ _ _ hG (S.sel 3 [1, 2, 0] rfl) x0h2 hy3) rfl ?_)
  rintro _ w ⟨y2_1v2, J4, hJ5, rfl, y2_1h2, S⟩
  have hI := hI.trans hJ5
  have hG := hG.mono hJ5
  refine U rfl rfl (V (x_asgV (v := .int .u8 y2.1) rfl) ?_)
  refine FW.seq ?_
  refine FW.block ?_
  have S := S.nil_tv 3 1
  obtain ⟨o20, hl22, HO21⟩ := obx H
  refine FW.cutX 0 (fun σ w => ∃ (s24 : ByteArray) (n25 : Int) (l26 : (List T_speculumref11_Node)) (b29 : Bool) (l30 : (List Int)) (v27 : Value) (v31 : Value) (J23 : IMem), (s24, n25, l26, b29, l30) = o20 ∧ Has σ [(0, .pointer (some ⟨bx0, 0, none⟩)), (3, .pointer (some ⟨b1, 0, none⟩))] ∧ J4.le J23 ∧ Own J23 w (.tv v31 3 1 :: .bk bx0 62 [.string s24, .int .i64 n25, v27, .bool b29] :: .tv v27 77 6 :: .bk b1 77 [.int .u8 114, v31, (.slice none 0 0), (.slice none 0 0), .bool false, .bool false] :: F) ∧ SlR R_speculumref11_Node J23 v27 l26 ∧ SlR (tInt' .i64) J23 v31 l30) ?_ ?_
  ·
    refine FW.loop k (FL.ind (fun q σ w => ∃ (n8 : Int) (s9 : ByteArray) (n10 : Int) (l11 : (List T_speculumref11_Node)) (b14 : Bool) (l15 : (List Int)) (v12 : Value) (v16 : Value) (J7 : IMem), speculumref11_P_row.l0 q n8 s9 n10 l11 b14 l15 = some o20 ∧ q ≤ k ∧ Has σ [(0, .pointer (some ⟨bx0, 0, none⟩)), (3, .pointer (some ⟨b1, 0, none⟩)), (4, .int .u8 n8)] ∧ J4.le J7 ∧ Own J7 w (.tv v16 3 1 :: .bk bx0 62 [.string s9, .int .i64 n10, v12, .bool b14] :: .tv v12 77 6 :: .bk b1 77 [.int .u8 114, v16, (.slice none 0 0), (.slice none 0 0), .bool false, .bool false] :: F) ∧ SlR R_speculumref11_Node J7 v12 l11 ∧ SlR (tInt' .i64) J7 v16 l15) ?_ ?_ k k _ _ (Nat.le_refl _) ⟨y2.1, y2.2.S, y2.2.At, y2.2.N, y2.2.Bad, [], y2_1v2, (.slice none 0 0), J4, hl22, Nat.le_refl _, ⟨rfl, rfl, rfl, trivial⟩, (IMem.le.refl _), S, y2_1h2, (SlR.nil _ _)⟩)
    · rintro σ w ⟨n8, s9, n10, l11, b14, l15, v12, v16, J7, H, _⟩; cases H
    · rintro q18 σ w ⟨n8, s9, n10, l11, b14, l15, v12, v16, J7, H, hq33, hσ, hL19, S, h13, h17⟩
      have hI := hI.trans hL19
      have hG := hG.mono hL19
      rw [hσ.eq]
      rw [speculumref11_P_row.l0] at H
      refine FW.seq ?_
      refine FW.seq ?_
      refine FW.region ?_
      refine U rfl rfl (V (x_movV (v := .pointer (some ⟨bx0, 0, none⟩)) rfl) ?_)
      refine U rfl rfl (V (x_nk rfl) ?_)
      refine U rfl rfl (V (x_fa tf62_3 rfl) ?_)
      refine U rfl rfl (V (x_ld tsc4 rfl (S.load 1 rfl 3 rfl)) ?_)
      refine U rfl rfl (V (x_not' rfl) ?_)
      refine U rfl rfl (V (x_movV (v := .bool (!b14)) rfl) ?_)
      by_cases cc34 : b14 = true
      · rw [if_pos cc34] at H
        refine OK.gf rfl rfl rfl (noF cc34) ?_
        refine OK.gf rfl rfl rfl (noF cc34) ?_
        refine U rfl rfl (V (x_pickFV (v := .bool false) rfl (noF cc34) rfl) ?_)
        refine U rfl rfl (V (x_movV (v := .bool false) rfl) ?_)
        refine OK.gf rfl rfl rfl rfl ?_
        refine OK.gf rfl rfl rfl rfl ?_
        refine U rfl rfl (V (x_pickFV (v := .bool false) rfl rfl rfl) ?_)
        refine U rfl rfl (V (x_movV (v := .bool false) rfl) ?_)
        refine OK.gf rfl rfl rfl rfl ?_
        refine OK.gf rfl rfl rfl rfl ?_
        refine U rfl rfl (V (x_pickFV (v := .bool false) rfl rfl rfl) ?_)
        refine FW.condF rfl rfl ?_
        refine FW.exit ?_
        exact ⟨s9, n10, l11, b14, l15, v12, v16, J7, (Option.some.inj H), ⟨rfl, rfl, trivial⟩, hL19, S, h13, h17⟩
      · rw [if_neg cc34] at H
        refine OK.gt rfl rfl rfl (noT (vaF cc34)) (V (x_movV (v := .int .u8 n8) rfl) ?_)
        refine OK.gt rfl rfl rfl (noT (vaF cc34)) (V (x_bin rfl rfl rfl) ?_)
        refine U rfl rfl (V (x_pickTV (v := .bool (n8 != 0)) rfl (noT (vaF cc34)) rfl) ?_)
        refine U rfl rfl (V (x_movV (v := .bool (n8 != 0)) rfl) ?_)
        by_cases cc35 : n8 = 0
        · rw [if_pos cc35] at H
          refine OK.gf rfl rfl rfl (neF cc35) ?_
          refine OK.gf rfl rfl rfl (neF cc35) ?_
          refine U rfl rfl (V (x_pickFV (v := .bool false) rfl (neF cc35) rfl) ?_)
          refine U rfl rfl (V (x_movV (v := .bool false) rfl) ?_)
          refine OK.gf rfl rfl rfl rfl ?_
          refine OK.gf rfl rfl rfl rfl ?_
          refine U rfl rfl (V (x_pickFV (v := .bool false) rfl rfl rfl) ?_)
          refine FW.condF rfl rfl ?_
          refine FW.exit ?_
          exact ⟨s9, n10, l11, b14, l15, v12, v16, J7, (Option.some.inj H), ⟨rfl, rfl, trivial⟩, hL19, S, h13, h17⟩
        · rw [if_neg cc35] at H
          refine OK.gt rfl rfl rfl (neT cc35) (V (x_movV (v := .int .u8 n8) rfl) ?_)
          refine OK.gt rfl rfl rfl (neT cc35) (V (x_bin rfl rfl rfl) ?_)
          refine U rfl rfl (V (x_pickTV (v := .bool (n8 != 124)) rfl (neT cc35) rfl) ?_)
          refine U rfl rfl (V (x_movV (v := .bool (n8 != 124)) rfl) ?_)
          by_cases cc36 : n8 = 124
          · rw [if_pos cc36] at H
            refine OK.gf rfl rfl rfl (neF cc36) ?_
            refine OK.gf rfl rfl rfl (neF cc36) ?_
            refine U rfl rfl (V (x_pickFV (v := .bool false) rfl (neF cc36) rfl) ?_)
            refine FW.condF rfl rfl ?_
            refine FW.exit ?_
            exact ⟨s9, n10, l11, b14, l15, v12, v16, J7, (Option.some.inj H), ⟨rfl, rfl, trivial⟩, hL19, S, h13, h17⟩
          · rw [if_neg cc36] at H
            refine OK.gt rfl rfl rfl (neT cc36) (V (x_movV (v := .int .u8 n8) rfl) ?_)
            refine OK.gt rfl rfl rfl (neT cc36) (V (x_bin rfl rfl rfl) ?_)
            refine U rfl rfl (V (x_pickTV (v := .bool (n8 != 41)) rfl (neT cc36) rfl) ?_)
            by_cases cc37 : n8 = 41
            · rw [if_pos cc37] at H
              refine FW.condF rfl (neF cc37) ?_
              refine FW.exit ?_
              exact ⟨s9, n10, l11, b14, l15, v12, v16, J7, (Option.some.inj H), ⟨rfl, rfl, trivial⟩, hL19, S, h13, h17⟩
            · rw [if_neg cc37] at H
              refine FW.condT rfl (neT cc37) ?_
              refine FW.skip ?_
              refine FW.block ?_
              refine FW.seq ?_
              refine FW.anew [(0, .pointer (some ⟨bx0, 0, none⟩)), (3, .pointer (some ⟨b1, 0, none⟩))] ⟨rfl, rfl, trivial⟩ fun σ => ?_
              have S := S.drew
              refine FW.regionD mixed ?_
              have hO := Hold.nil (w := { w with drawn := w.drawn + 1 })
              refine AQ.pure 0 rfl (by kernel_rfl) (by kernel_rfl) (by kernel_rfl) rfl hO (fun w => x_fa tf77_1 rfl) ?_
              have hR38 := IMem.le.refl J7
              refine AQ.take (S := Stab J7 [.bk b1 77 [.int .u8 114, v16, (.slice none 0 0), (.slice none 0 0), .bool false, .bool false]]) 1 rfl (by kernel_rfl) (by kernel_rfl) (by kernel_rfl) rfl hO (Stab.of S 3 rfl hR38) (fun w hS => x_ld tsc75 rfl (hS.load 0 rfl 1 rfl)) fun hO => ?_
              refine AQ.pure 2 rfl (by kernel_rfl) (by kernel_rfl) (by kernel_rfl) rfl hO (fun w => x_movV (v := .pointer (some ⟨bx0, 0, none⟩)) rfl) ?_
              refine AQ.one 3 [1] [true] (by kernel_rfl) rfl (by kernel_rfl) ?_
              obtain ⟨y39, hy40, H⟩ := obx H
              refine U rfl rfl (cl fb45 (@ih_speculumref11_P_part q18 (by omega) (T_speculumref11_P.mk s9 n10 l11 b14) _ _ _ _ _ _ hG (S.sel 4 [1, 2, 0, 3] rfl) h13 hy40) rfl ?_)
              rintro _ w ⟨y39_1v2, J41, hJ42, rfl, y39_1h2, S⟩
              have h17 := h17.mono hJ42
              have hI := hI.trans hJ42
              have hL19 := hL19.trans hJ42
              have hR38 := hR38.trans hJ42
              have hG := hG.mono hJ42
              refine andI (Hold.cons (Stab.of S 3 rfl hR38) Hold.nil) fun hO => ?_
              refine AQ.one 4 [1] [true] (by kernel_rfl) rfl (by kernel_rfl) ?_
              refine U rfl rfl (o_bsl tsl75 tz3 rfl rfl rfl rfl (.one rfl PC.nil) rfl S fun b43 w S => ?_)
              obtain ⟨J44, hJ46, S, h45⟩ := S.freeze (r := (tInt' .i64)) (l := [y39.1]) 0 rfl ⟨[.int .i64 y39.1], _, rfl, rfl, rfl⟩ rfl rfl
              have h17 := h17.mono hJ46
              have y39_1h2 := y39_1h2.mono hJ46
              have hI := hI.trans hJ46
              have hL19 := hL19.trans hJ46
              have hR38 := hR38.trans hJ46
              have hG := hG.mono hJ46
              refine andI (Hold.cons (Stab.of S 4 rfl hR38) Hold.nil) fun hO => ?_
              refine AQ.one 5 [1] [false] (by kernel_rfl) rfl (by kernel_rfl) ?_
              obtain ⟨l47, h49, H⟩ := obx H
              refine U rfl rfl (o_appD (r := (tInt' .i64)) tsl75 rfl tz3 rfl rfl S 3 rfl rfl h17 h45 h49 fun v48 w J51 hJ52 S h50 => ?_)
              have h17 := h17.mono hJ52
              have h45 := h45.mono hJ52
              have y39_1h2 := y39_1h2.mono hJ52
              have hI := hI.trans hJ52
              have hL19 := hL19.trans hJ52
              have hR38 := hR38.trans hJ52
              have hG := hG.mono hJ52
              refine andI Hold.nil fun hO => ?_
              refine AQ.pure 6 rfl (by kernel_rfl) (by kernel_rfl) (by kernel_rfl) rfl hO (fun w => x_fa tf77_1 rfl) ?_
              refine AQ.one 7 [] [] (by kernel_rfl) rfl (by kernel_rfl) ?_
              refine U rfl rfl (o_st tone75 S 4 rfl rfl rfl h50.one fun w S => ?_)
              refine andI Hold.nil fun hO => ?_
              refine AQ.done (by kernel_rfl) ?_
              refine FW.anew [(0, .pointer (some ⟨bx0, 0, none⟩)), (3, .pointer (some ⟨b1, 0, none⟩))] ⟨rfl, rfl, trivial⟩ fun σ => ?_
              refine FW.region ?_
              refine U rfl rfl (V (x_movV (v := .pointer (some ⟨bx0, 0, none⟩)) rfl) ?_)
              obtain ⟨y53, hy54, H⟩ := obx H
              refine U rfl rfl (cl fb21 (@speculumref11_P_sign.ok q18 y39.2 _ _ _ _ _ _ hG (S.sel 5 [1, 2, 0, 3, 4] rfl) y39_1h2 hy54) rfl ?_)
              rintro _ w ⟨y53_1v2, J55, hJ56, rfl, y53_1h2, S⟩
              have h50 := h50.mono hJ56
              have hI := hI.trans hJ56
              have hL19 := hL19.trans hJ56
              have hG := hG.mono hJ56
              refine U rfl rfl (V (x_asgV (v := .int .u8 y53.1) rfl) ?_)
              exact ⟨q18, Nat.le_refl _, y53.1, y53.2.S, y53.2.At, y53.2.N, y53.2.Bad, l47, y53_1v2, v48, J55, H, (Nat.le_of_succ_le hq33), ⟨rfl, rfl, rfl, trivial⟩, hL19, (S.sel 5 [3, 0, 1, 4] rfl), y53_1h2, h50⟩
  · rintro σ w ⟨s24, n25, l26, b29, l30, v27, v31, J23, ho, hσ, hL19, S, h28, h32⟩
    subst ho
    have H := HO21
    try dsimp only at H
    have hI := hI.trans hL19
    have hG := hG.mono hL19
    rw [hσ.eq]
    refine FW.seq ?_
    refine FW.region ?_
    refine U rfl rfl (V (x_movV (v := .pointer (some ⟨bx0, 0, none⟩)) rfl) ?_)
    refine U rfl rfl (V (x_ldA tag77 rfl (S.loadW 3 rfl) rfl) ?_)
    obtain ⟨y57, hy58, H⟩ := obx H
    refine U rfl rfl (cl fb33 (@speculumref11_P_put.ok k (T_speculumref11_P.mk s24 n25 l26 b29) (T_speculumref11_Node.mk 114 l30 [] [] false false) _ _ _ _ _ _ _ _ _ hG (S.sel 4 [1, 2, 0, 3] rfl) h28 h32 (SlR.nil _ _) (SlR.nil _ _) hy58) rfl ?_)
    rintro _ w ⟨y57_1v2, J59, hJ60, rfl, y57_1h2, S⟩
    have h32 := h32.mono hJ60
    have hI := hI.trans hJ60
    have hG := hG.mono hJ60
    refine U rfl rfl (V (x_asgV (v := .int .i64 y57.1) rfl) ?_)
    refine FW.ret ?_
    obtain rfl := Option.some.inj H
    exact ⟨_, ⟨_, rfl, rfl⟩, ⟨y57_1v2, J59, hI, rfl, y57_1h2, (S.sel 4 [0, 1] rfl)⟩⟩
theorem speculumref11_P_row.zero : speculumref11_P_row.C 0 := by
  intro _ _ _ _ _ _ _ _ _ _ H; cases H
theorem speculumref11_P_part.step (k : Nat) (ih_speculumref11_P_choices : ∀ m, m ≤ k → speculumref11_P_choices.C m) : speculumref11_P_part.C (k + 1) := by
  intro x0 x0v2 bx0 F I w r hG S x0h2 H
  have hI := IMem.le.refl I
  rw [speculumref11_P_part.f] at H
  refine Calls.ofFW (args := [.pointer (some ⟨bx0, 0, none⟩)]) Tryd.func45 rfl rfl ?_
  refine FW.seq ?_
  refine FW.region ?_
  refine U rfl rfl (V (x_asgV (v := .int .i64 0) rfl) ?_)
  refine FW.seq ?_
  refine FW.region ?_
  refine U rfl rfl (V (x_movV (v := .pointer (some ⟨bx0, 0, none⟩)) rfl) ?_)
  obtain ⟨y1, hy2, H⟩ := obx H
  refine U rfl rfl (cl fb21 (@speculumref11_P_sign.ok k x0 _ _ _ _ _ _ hG S x0h2 hy2) rfl ?_)
  rintro _ w ⟨y1_1v2, J3, hJ4, rfl, y1_1h2, S⟩
  have hI := hI.trans hJ4
  have hG := hG.mono hJ4
  refine U rfl rfl (V (x_asgV (v := .int .u8 y1.1) rfl) ?_)
  refine FW.seq ?_
  refine FW.region ?_
  refine U rfl rfl (V (x_asgV (v := .int .i64 0) rfl) ?_)
  refine FW.seq ?_
  obtain ⟨o13, H, HO14⟩ := obx H
  have hL15 := IMem.le.refl J3
  refine FW.cutN (fun σ w => ∃ (n6 : Int) (s7 : ByteArray) (n8 : Int) (l9 : (List T_speculumref11_Node)) (b12 : Bool) (v10 : Value) (J5 : IMem), (.inr (n6, s7, n8, l9, b12)) = o13 ∧ Has σ [(0, .pointer (some ⟨bx0, 0, none⟩)), (4, .int .i64 n6)] ∧ J3.le J5 ∧ Own J5 w (.bk bx0 62 [.string s7, .int .i64 n8, v10, .bool b12] :: .tv v10 77 6 :: F) ∧ SlR R_speculumref11_Node J5 v10 l9) ?_ ?_
  ·
    refine FW.block ?_
    refine FW.seq ?_
    refine FW.region ?_
    refine U rfl rfl (V (x_movV (v := .int .u8 y1.1) rfl) ?_)
    obtain ⟨y16, hy17, H⟩ := obx H
    refine U rfl rfl (cl fb51 (@speculumref11_digit.ok k y1.1 _ _ _ _ hG S hy17) rfl ?_)
    rintro _ w ⟨rfl, S⟩
    refine U rfl rfl (V (x_asgV (v := .bool y16) rfl) ?_)
    by_cases cc18 : y16 = true
    · rw [if_pos cc18] at H
      refine FW.condT rfl cc18 ?_
      refine FW.seq ?_
      refine FW.anew [(0, .pointer (some ⟨bx0, 0, none⟩))] ⟨rfl, trivial⟩ fun σ => ?_
      refine FW.region ?_
      refine U rfl rfl (V (x_movV (v := .pointer (some ⟨bx0, 0, none⟩)) rfl) ?_)
      obtain ⟨y19, hy20, H⟩ := obx H
      refine U rfl rfl (cl fb52 (@speculumref11_P_num.ok k y1.2 _ _ _ _ _ _ hG S y1_1h2 hy20) rfl ?_)
      rintro _ w ⟨y19_1v2, J21, hJ22, rfl, y19_1h2, S⟩
      have hI := hI.trans hJ22
      have hL15 := hL15.trans hJ22
      have hG := hG.mono hJ22
      refine U rfl rfl (V (x_asgV (v := .int .i64 y19.1) rfl) ?_)
      refine FW.region ?_
      refine U rfl rfl (V (x_movV (v := .pointer (some ⟨bx0, 0, none⟩)) rfl) ?_)
      refine U rfl rfl (V (x_movV (v := .int .i64 y19.1) rfl) ?_)
      refine U rfl rfl (o_bsl tsl75 tz3 rfl rfl rfl rfl (.one rfl PC.nil) rfl S fun b23 w S => ?_)
      obtain ⟨J24, hJ26, S, h25⟩ := S.freeze (r := (tInt' .i64)) (l := [y19.1]) 0 rfl ⟨[.int .i64 y19.1], _, rfl, rfl, rfl⟩ rfl rfl
      have y19_1h2 := y19_1h2.mono hJ26
      have hI := hI.trans hJ26
      have hL15 := hL15.trans hJ26
      have hG := hG.mono hJ26
      refine U rfl rfl (V (x_movV (v := .int .i64 y19.1) rfl) ?_)
      refine U rfl rfl (o_bsl tsl75 tz3 rfl rfl rfl rfl (.one rfl PC.nil) rfl S fun b27 w S => ?_)
      obtain ⟨J28, hJ30, S, h29⟩ := S.freeze (r := (tInt' .i64)) (l := [y19.1]) 0 rfl ⟨[.int .i64 y19.1], _, rfl, rfl, rfl⟩ rfl rfl
      have h25 := h25.mono hJ30
      have y19_1h2 := y19_1h2.mono hJ30
      have hI := hI.trans hJ30
      have hL15 := hL15.trans hJ30
      have hG := hG.mono hJ30
      refine U rfl rfl (V (x_bld tz77 tpl77 rfl (.one rfl (.one h25.one (.one h29.one (.one rfl PC.nil)))) rfl) ?_)
      obtain ⟨y31, hy32, H⟩ := obx H
      refine U rfl rfl (cl fb33 (@speculumref11_P_put.ok k y19.2 (T_speculumref11_Node.mk 115 [] [y19.1] [y19.1] false true) _ _ _ _ _ _ _ _ _ hG (S.sel 4 [2, 3, 0, 1] rfl) y19_1h2 (SlR.nil _ _) h25 h29 hy32) rfl ?_)
      rintro _ w ⟨y31_1v2, J33, hJ34, rfl, y31_1h2, S⟩
      have h25 := h25.mono hJ34
      have h29 := h29.mono hJ34
      have hI := hI.trans hJ34
      have hL15 := hL15.trans hJ34
      have hG := hG.mono hJ34
      refine U rfl rfl (V (x_asgV (v := .int .i64 y31.1) rfl) ?_)
      exact ⟨y31.1, y31.2.S, y31.2.At, y31.2.N, y31.2.Bad, y31_1v2, J33, (Option.some.inj H), ⟨rfl, rfl, trivial⟩, hL15, (S.sel 4 [0, 1] rfl), y31_1h2⟩
    · rw [if_neg cc18] at H
      refine FW.condF rfl (vaF cc18) ?_
      refine FW.seq ?_
      refine FW.anew [(0, .pointer (some ⟨bx0, 0, none⟩)), (3, .int .u8 y1.1)] ⟨rfl, rfl, trivial⟩ fun σ => ?_
      refine FW.region ?_
      refine U rfl rfl (V (x_movV (v := .int .u8 y1.1) rfl) ?_)
      refine U rfl rfl (V (x_bin rfl rfl rfl) ?_)
      refine U rfl rfl (V (x_movV (v := .bool (y1.1 == 46)) rfl) ?_)
      by_cases cc35 : y1.1 = 46
      · rw [if_pos cc35] at H
        refine OK.gf rfl rfl rfl (eqT cc35) ?_
        refine OK.gf rfl rfl rfl (eqT cc35) ?_
        refine U rfl rfl (V (x_pickTV (v := .bool true) rfl (eqT cc35) rfl) ?_)
        refine U rfl rfl (V (x_movV (v := .bool true) rfl) ?_)
        refine OK.gf rfl rfl rfl rfl ?_
        refine OK.gf rfl rfl rfl rfl ?_
        refine U rfl rfl (V (x_pickTV (v := .bool true) rfl rfl rfl) ?_)
        refine U rfl rfl (V (x_asgV (v := .bool true) rfl) ?_)
        refine FW.condT rfl rfl ?_
        refine FW.seq ?_
        refine FW.anew [(0, .pointer (some ⟨bx0, 0, none⟩)), (3, .int .u8 y1.1)] ⟨rfl, rfl, trivial⟩ fun σ => ?_
        refine FW.region ?_
        refine U rfl rfl (V (x_movV (v := .pointer (some ⟨bx0, 0, none⟩)) rfl) ?_)
        refine U rfl rfl (V (x_movV (v := .pointer (some ⟨bx0, 0, none⟩)) rfl) ?_)
        refine U rfl rfl (V (x_nk rfl) ?_)
        refine U rfl rfl (V (x_fa tf62_1 rfl) ?_)
        refine U rfl rfl (V (x_ld tsc3 rfl (S.load 0 rfl 1 rfl)) ?_)
        refine U rfl rfl (V (x_bin rfl rfl rfl) ?_)
        refine U rfl rfl (V (x_nk rfl) ?_)
        refine U rfl rfl (V (x_fa tf62_1 rfl) ?_)
        refine U rfl rfl (o_st tone3 S 0 rfl rfl rfl rfl fun w S => ?_)
        refine FW.anew [(0, .pointer (some ⟨bx0, 0, none⟩)), (3, .int .u8 y1.1)] ⟨rfl, rfl, trivial⟩ fun σ => ?_
        refine FW.region ?_
        refine U rfl rfl (V (x_movV (v := .pointer (some ⟨bx0, 0, none⟩)) rfl) ?_)
        refine U rfl rfl (V (x_movV (v := .int .u8 y1.1) rfl) ?_)
        refine U rfl rfl (V (x_bld tz77 tpl77 rfl (.one rfl PC.nil) rfl) ?_)
        obtain ⟨y36, hy37, H⟩ := obx H
        refine U rfl rfl (cl fb33 (@speculumref11_P_put.ok k (T_speculumref11_P.mk y1.2.S (i64 (y1.2.At + 1)) y1.2.N y1.2.Bad) (T_speculumref11_Node.mk y1.1 [] [] [] false false) _ _ _ _ _ _ _ _ _ hG S y1_1h2 (SlR.nil _ _) (SlR.nil _ _) (SlR.nil _ _) hy37) rfl ?_)
        rintro _ w ⟨y36_1v2, J38, hJ39, rfl, y36_1h2, S⟩
        have hI := hI.trans hJ39
        have hL15 := hL15.trans hJ39
        have hG := hG.mono hJ39
        refine U rfl rfl (V (x_asgV (v := .int .i64 y36.1) rfl) ?_)
        exact ⟨y36.1, y36.2.S, y36.2.At, y36.2.N, y36.2.Bad, y36_1v2, J38, (Option.some.inj H), ⟨rfl, rfl, trivial⟩, hL15, S, y36_1h2⟩
      · rw [if_neg cc35] at H
        refine OK.gt rfl rfl rfl (eqF cc35) (V (x_movV (v := .int .u8 y1.1) rfl) ?_)
        refine OK.gt rfl rfl rfl (eqF cc35) (V (x_bin rfl rfl rfl) ?_)
        refine U rfl rfl (V (x_pickFV (v := .bool (y1.1 == 94)) rfl (eqF cc35) rfl) ?_)
        refine U rfl rfl (V (x_movV (v := .bool (y1.1 == 94)) rfl) ?_)
        by_cases cc40 : y1.1 = 94
        · rw [if_pos cc40] at H
          refine OK.gf rfl rfl rfl (eqT cc40) ?_
          refine OK.gf rfl rfl rfl (eqT cc40) ?_
          refine U rfl rfl (V (x_pickTV (v := .bool true) rfl (eqT cc40) rfl) ?_)
          refine U rfl rfl (V (x_asgV (v := .bool true) rfl) ?_)
          refine FW.condT rfl rfl ?_
          refine FW.seq ?_
          refine FW.anew [(0, .pointer (some ⟨bx0, 0, none⟩)), (3, .int .u8 y1.1)] ⟨rfl, rfl, trivial⟩ fun σ => ?_
          refine FW.region ?_
          refine U rfl rfl (V (x_movV (v := .pointer (some ⟨bx0, 0, none⟩)) rfl) ?_)
          refine U rfl rfl (V (x_movV (v := .pointer (some ⟨bx0, 0, none⟩)) rfl) ?_)
          refine U rfl rfl (V (x_nk rfl) ?_)
          refine U rfl rfl (V (x_fa tf62_1 rfl) ?_)
          refine U rfl rfl (V (x_ld tsc3 rfl (S.load 0 rfl 1 rfl)) ?_)
          refine U rfl rfl (V (x_bin rfl rfl rfl) ?_)
          refine U rfl rfl (V (x_nk rfl) ?_)
          refine U rfl rfl (V (x_fa tf62_1 rfl) ?_)
          refine U rfl rfl (o_st tone3 S 0 rfl rfl rfl rfl fun w S => ?_)
          refine FW.anew [(0, .pointer (some ⟨bx0, 0, none⟩)), (3, .int .u8 y1.1)] ⟨rfl, rfl, trivial⟩ fun σ => ?_
          refine FW.region ?_
          refine U rfl rfl (V (x_movV (v := .pointer (some ⟨bx0, 0, none⟩)) rfl) ?_)
          refine U rfl rfl (V (x_movV (v := .int .u8 y1.1) rfl) ?_)
          refine U rfl rfl (V (x_bld tz77 tpl77 rfl (.one rfl PC.nil) rfl) ?_)
          obtain ⟨y41, hy42, H⟩ := obx H
          refine U rfl rfl (cl fb33 (@speculumref11_P_put.ok k (T_speculumref11_P.mk y1.2.S (i64 (y1.2.At + 1)) y1.2.N y1.2.Bad) (T_speculumref11_Node.mk y1.1 [] [] [] false false) _ _ _ _ _ _ _ _ _ hG S y1_1h2 (SlR.nil _ _) (SlR.nil _ _) (SlR.nil _ _) hy42) rfl ?_)
          rintro _ w ⟨y41_1v2, J43, hJ44, rfl, y41_1h2, S⟩
          have hI := hI.trans hJ44
          have hL15 := hL15.trans hJ44
          have hG := hG.mono hJ44
          refine U rfl rfl (V (x_asgV (v := .int .i64 y41.1) rfl) ?_)
          exact ⟨y41.1, y41.2.S, y41.2.At, y41.2.N, y41.2.Bad, y41_1v2, J43, (Option.some.inj H), ⟨rfl, rfl, trivial⟩, hL15, S, y41_1h2⟩
        · rw [if_neg cc40] at H
          refine OK.gt rfl rfl rfl (eqF cc40) (V (x_movV (v := .int .u8 y1.1) rfl) ?_)
          refine OK.gt rfl rfl rfl (eqF cc40) (V (x_bin rfl rfl rfl) ?_)
          refine U rfl rfl (V (x_pickFV (v := .bool (y1.1 == 36)) rfl (eqF cc40) rfl) ?_)
          refine U rfl rfl (V (x_asgV (v := .bool (y1.1 == 36)) rfl) ?_)
          by_cases cc45 : y1.1 = 36
          · rw [if_pos cc45] at H
            refine FW.condT rfl (eqT cc45) ?_
            refine FW.seq ?_
            refine FW.anew [(0, .pointer (some ⟨bx0, 0, none⟩)), (3, .int .u8 y1.1)] ⟨rfl, rfl, trivial⟩ fun σ => ?_
            refine FW.region ?_
            refine U rfl rfl (V (x_movV (v := .pointer (some ⟨bx0, 0, none⟩)) rfl) ?_)
            refine U rfl rfl (V (x_movV (v := .pointer (some ⟨bx0, 0, none⟩)) rfl) ?_)
            refine U rfl rfl (V (x_nk rfl) ?_)
            refine U rfl rfl (V (x_fa tf62_1 rfl) ?_)
            refine U rfl rfl (V (x_ld tsc3 rfl (S.load 0 rfl 1 rfl)) ?_)
            refine U rfl rfl (V (x_bin rfl rfl rfl) ?_)
            refine U rfl rfl (V (x_nk rfl) ?_)
            refine U rfl rfl (V (x_fa tf62_1 rfl) ?_)
            refine U rfl rfl (o_st tone3 S 0 rfl rfl rfl rfl fun w S => ?_)
            refine FW.anew [(0, .pointer (some ⟨bx0, 0, none⟩)), (3, .int .u8 y1.1)] ⟨rfl, rfl, trivial⟩ fun σ => ?_
            refine FW.region ?_
            refine U rfl rfl (V (x_movV (v := .pointer (some ⟨bx0, 0, none⟩)) rfl) ?_)
            refine U rfl rfl (V (x_movV (v := .int .u8 y1.1) rfl) ?_)
            refine U rfl rfl (V (x_bld tz77 tpl77 rfl (.one rfl PC.nil) rfl) ?_)
            obtain ⟨y46, hy47, H⟩ := obx H
            refine U rfl rfl (cl fb33 (@speculumref11_P_put.ok k (T_speculumref11_P.mk y1.2.S (i64 (y1.2.At + 1)) y1.2.N y1.2.Bad) (T_speculumref11_Node.mk y1.1 [] [] [] false false) _ _ _ _ _ _ _ _ _ hG S y1_1h2 (SlR.nil _ _) (SlR.nil _ _) (SlR.nil _ _) hy47) rfl ?_)
            rintro _ w ⟨y46_1v2, J48, hJ49, rfl, y46_1h2, S⟩
            have hI := hI.trans hJ49
            have hL15 := hL15.trans hJ49
            have hG := hG.mono hJ49
            refine U rfl rfl (V (x_asgV (v := .int .i64 y46.1) rfl) ?_)
            exact ⟨y46.1, y46.2.S, y46.2.At, y46.2.N, y46.2.Bad, y46_1v2, J48, (Option.some.inj H), ⟨rfl, rfl, trivial⟩, hL15, S, y46_1h2⟩
          · rw [if_neg cc45] at H
            refine FW.condF rfl (eqF cc45) ?_
            refine FW.seq ?_
            refine FW.anew [(0, .pointer (some ⟨bx0, 0, none⟩)), (3, .int .u8 y1.1)] ⟨rfl, rfl, trivial⟩ fun σ => ?_
            refine FW.region ?_
            refine U rfl rfl (V (x_movV (v := .int .u8 y1.1) rfl) ?_)
            refine U rfl rfl (V (x_bin rfl rfl rfl) ?_)
            refine U rfl rfl (V (x_asgV (v := .bool (y1.1 == 91)) rfl) ?_)
            by_cases cc50 : y1.1 = 91
            · rw [if_pos cc50] at H
              refine FW.condT rfl (eqT cc50) ?_
              refine FW.seq ?_
              refine FW.region ?_
              refine U rfl rfl (V (x_movV (v := .pointer (some ⟨bx0, 0, none⟩)) rfl) ?_)
              refine U rfl rfl (V (x_movV (v := .pointer (some ⟨bx0, 0, none⟩)) rfl) ?_)
              refine U rfl rfl (V (x_nk rfl) ?_)
              refine U rfl rfl (V (x_fa tf62_1 rfl) ?_)
              refine U rfl rfl (V (x_ld tsc3 rfl (S.load 0 rfl 1 rfl)) ?_)
              refine U rfl rfl (V (x_bin rfl rfl rfl) ?_)
              refine U rfl rfl (V (x_nk rfl) ?_)
              refine U rfl rfl (V (x_fa tf62_1 rfl) ?_)
              refine U rfl rfl (o_st tone3 S 0 rfl rfl rfl rfl fun w S => ?_)
              refine FW.anew [(0, .pointer (some ⟨bx0, 0, none⟩))] ⟨rfl, trivial⟩ fun σ => ?_
              refine FW.region ?_
              refine U rfl rfl (V (x_movV (v := .pointer (some ⟨bx0, 0, none⟩)) rfl) ?_)
              obtain ⟨y51, hy52, H⟩ := obx H
              refine U rfl rfl (cl fb53 (@speculumref11_P_set.ok k (T_speculumref11_P.mk y1.2.S (i64 (y1.2.At + 1)) y1.2.N y1.2.Bad) _ _ _ _ _ _ hG S y1_1h2 hy52) rfl ?_)
              rintro _ w ⟨y51_1v2, J53, hJ54, rfl, y51_1h2, S⟩
              have hI := hI.trans hJ54
              have hL15 := hL15.trans hJ54
              have hG := hG.mono hJ54
              refine U rfl rfl (V (x_asgV (v := .int .i64 y51.1) rfl) ?_)
              exact ⟨y51.1, y51.2.S, y51.2.At, y51.2.N, y51.2.Bad, y51_1v2, J53, (Option.some.inj H), ⟨rfl, rfl, trivial⟩, hL15, S, y51_1h2⟩
            · rw [if_neg cc50] at H
              refine FW.condF rfl (eqF cc50) ?_
              refine FW.seq ?_
              refine FW.region ?_
              refine U rfl rfl (V (x_movV (v := .int .u8 y1.1) rfl) ?_)
              refine U rfl rfl (V (x_bin rfl rfl rfl) ?_)
              refine U rfl rfl (V (x_asgV (v := .bool (y1.1 == 40)) rfl) ?_)
              by_cases cc55 : y1.1 = 40
              · rw [if_pos cc55] at H
                refine FW.condT rfl (eqT cc55) ?_
                refine FW.seq ?_
                refine FW.region ?_
                refine U rfl rfl (V (x_movV (v := .pointer (some ⟨bx0, 0, none⟩)) rfl) ?_)
                refine U rfl rfl (V (x_movV (v := .pointer (some ⟨bx0, 0, none⟩)) rfl) ?_)
                refine U rfl rfl (V (x_nk rfl) ?_)
                refine U rfl rfl (V (x_fa tf62_1 rfl) ?_)
                refine U rfl rfl (V (x_ld tsc3 rfl (S.load 0 rfl 1 rfl)) ?_)
                refine U rfl rfl (V (x_bin rfl rfl rfl) ?_)
                refine U rfl rfl (V (x_nk rfl) ?_)
                refine U rfl rfl (V (x_fa tf62_1 rfl) ?_)
                refine U rfl rfl (o_st tone3 S 0 rfl rfl rfl rfl fun w S => ?_)
                refine FW.seq ?_
                refine FW.anew [(0, .pointer (some ⟨bx0, 0, none⟩))] ⟨rfl, trivial⟩ fun σ => ?_
                refine FW.region ?_
                refine U rfl rfl (V (x_movV (v := .pointer (some ⟨bx0, 0, none⟩)) rfl) ?_)
                obtain ⟨y56, hy57, H⟩ := obx H
                refine U rfl rfl (cl fb20 (@ih_speculumref11_P_choices k (by omega) (T_speculumref11_P.mk y1.2.S (i64 (y1.2.At + 1)) y1.2.N y1.2.Bad) _ _ _ _ _ _ hG S y1_1h2 hy57) rfl ?_)
                rintro _ w ⟨y56_1v2, J58, hJ59, rfl, y56_1h2, S⟩
                have hI := hI.trans hJ59
                have hL15 := hL15.trans hJ59
                have hG := hG.mono hJ59
                refine U rfl rfl (V (x_asgV (v := .int .i64 y56.1) rfl) ?_)
                refine FW.seq ?_
                refine FW.seq ?_
                refine FW.region ?_
                refine U rfl rfl (V (x_movV (v := .pointer (some ⟨bx0, 0, none⟩)) rfl) ?_)
                obtain ⟨y60, hy61, H⟩ := obx H
                refine U rfl rfl (cl fb21 (@speculumref11_P_sign.ok k y56.2 _ _ _ _ _ _ hG S y56_1h2 hy61) rfl ?_)
                rintro _ w ⟨y60_1v2, J62, hJ63, rfl, y60_1h2, S⟩
                have hI := hI.trans hJ63
                have hL15 := hL15.trans hJ63
                have hG := hG.mono hJ63
                refine U rfl rfl (V (x_bin rfl rfl rfl) ?_)
                by_cases cc64 : y60.1 = 41
                · rw [if_pos cc64] at H
                  refine FW.condF rfl (neF cc64) ?_
                  refine FW.skip ?_
                  refine FW.region ?_
                  refine U rfl rfl (V (x_movV (v := .pointer (some ⟨bx0, 0, none⟩)) rfl) ?_)
                  refine U rfl rfl (V (x_movV (v := .pointer (some ⟨bx0, 0, none⟩)) rfl) ?_)
                  refine U rfl rfl (V (x_nk rfl) ?_)
                  refine U rfl rfl (V (x_fa tf62_1 rfl) ?_)
                  refine U rfl rfl (V (x_ld tsc3 rfl (S.load 0 rfl 1 rfl)) ?_)
                  refine U rfl rfl (V (x_bin rfl rfl rfl) ?_)
                  refine U rfl rfl (V (x_nk rfl) ?_)
                  refine U rfl rfl (V (x_fa tf62_1 rfl) ?_)
                  refine U rfl rfl (o_st tone3 S 0 rfl rfl rfl rfl fun w S => ?_)
                  exact ⟨y56.1, y60.2.S, (i64 (y60.2.At + 1)), y60.2.N, y60.2.Bad, y60_1v2, J62, (Option.some.inj H), ⟨rfl, rfl, trivial⟩, hL15, S, y60_1h2⟩
                · rw [if_neg cc64] at H
                  refine FW.condT rfl (neT cc64) ?_
                  refine FW.seq ?_
                  refine FW.region ?_
                  refine U rfl rfl (V (x_movV (v := .pointer (some ⟨bx0, 0, none⟩)) rfl) ?_)
                  refine U rfl rfl (V (x_nk rfl) ?_)
                  refine U rfl rfl (V (x_fa tf62_3 rfl) ?_)
                  refine U rfl rfl (o_st tone4 S 0 rfl rfl rfl rfl fun w S => ?_)
                  refine FW.seq ?_
                  refine FW.anew [] trivial fun σ => ?_
                  refine FW.region ?_
                  refine U rfl rfl (V (x_asgV (v := .int .i64 0) rfl) ?_)
                  refine FW.ret ?_
                  obtain rfl := Option.some.inj H
                  obtain rfl := Option.some.inj HO14
                  exact ⟨_, ⟨_, rfl, rfl⟩, ⟨y60_1v2, J62, hI, rfl, y60_1h2, S⟩⟩
              · rw [if_neg cc55] at H
                refine FW.condF rfl (eqF cc55) ?_
                refine FW.seq ?_
                refine FW.region ?_
                refine U rfl rfl (V (x_movV (v := .pointer (some ⟨bx0, 0, none⟩)) rfl) ?_)
                refine U rfl rfl (V (x_nk rfl) ?_)
                refine U rfl rfl (V (x_fa tf62_3 rfl) ?_)
                refine U rfl rfl (o_st tone4 S 0 rfl rfl rfl rfl fun w S => ?_)
                refine FW.seq ?_
                refine FW.anew [] trivial fun σ => ?_
                refine FW.region ?_
                refine U rfl rfl (V (x_asgV (v := .int .i64 0) rfl) ?_)
                refine FW.ret ?_
                obtain rfl := Option.some.inj H
                obtain rfl := Option.some.inj HO14
                exact ⟨_, ⟨_, rfl, rfl⟩, ⟨y1_1v2, J3, hI, rfl, y1_1h2, S⟩⟩
  · rintro σ w ⟨n6, s7, n8, l9, b12, v10, J5, ho, hσ, hL15, S, h11⟩
    subst ho
    have H := HO14
    try dsimp only at H
    have hI := hI.trans hL15
    have hG := hG.mono hL15
    rw [hσ.eq]
    refine FW.seq ?_
    refine FW.region ?_
    refine U rfl rfl (V (x_movV (v := .pointer (some ⟨bx0, 0, none⟩)) rfl) ?_)
    obtain ⟨y65, hy66, H⟩ := obx H
    refine U rfl rfl (cl fb21 (@speculumref11_P_sign.ok k (T_speculumref11_P.mk s7 n8 l9 b12) _ _ _ _ _ _ hG S h11 hy66) rfl ?_)
    rintro _ w ⟨y65_1v2, J67, hJ68, rfl, y65_1h2, S⟩
    have hI := hI.trans hJ68
    have hG := hG.mono hJ68
    refine U rfl rfl (V (x_asgV (v := .int .u8 y65.1) rfl) ?_)
    refine FW.seq ?_
    refine FW.block ?_
    obtain ⟨o80, hl82, HO81⟩ := obx H
    refine FW.cutX 1 (fun σ w => ∃ (n84 : Int) (s85 : ByteArray) (n86 : Int) (l87 : (List T_speculumref11_Node)) (b90 : Bool) (v88 : Value) (J83 : IMem), (n84, s85, n86, l87, b90) = o80 ∧ Has σ [(4, .int .i64 n84)] ∧ J67.le J83 ∧ Own J83 w (.bk bx0 62 [.string s85, .int .i64 n86, v88, .bool b90] :: .tv v88 77 6 :: F) ∧ SlR R_speculumref11_Node J83 v88 l87) ?_ ?_
    ·
      refine FW.loop k (FL.ind (fun q σ w => ∃ (n70 : Int) (n71 : Int) (s72 : ByteArray) (n73 : Int) (l74 : (List T_speculumref11_Node)) (b77 : Bool) (v75 : Value) (J69 : IMem), speculumref11_P_part.l0 q n70 n71 s72 n73 l74 b77 = some o80 ∧ q ≤ k ∧ Has σ [(0, .pointer (some ⟨bx0, 0, none⟩)), (3, .int .u8 n70), (4, .int .i64 n71)] ∧ J67.le J69 ∧ Own J69 w (.bk bx0 62 [.string s72, .int .i64 n73, v75, .bool b77] :: .tv v75 77 6 :: F) ∧ SlR R_speculumref11_Node J69 v75 l74) ?_ ?_ k k _ _ (Nat.le_refl _) ⟨y65.1, n6, y65.2.S, y65.2.At, y65.2.N, y65.2.Bad, y65_1v2, J67, hl82, Nat.le_refl _, ⟨rfl, rfl, rfl, trivial⟩, (IMem.le.refl _), S, y65_1h2⟩)
      · rintro σ w ⟨n70, n71, s72, n73, l74, b77, v75, J69, H, _⟩; cases H
      · rintro q78 σ w ⟨n70, n71, s72, n73, l74, b77, v75, J69, H, hq91, hσ, hL79, S, h76⟩
        have hI := hI.trans hL79
        have hG := hG.mono hL79
        rw [hσ.eq]
        rw [speculumref11_P_part.l0] at H
        refine FW.seq ?_
        refine FW.seq ?_
        refine FW.region ?_
        refine U rfl rfl (V (x_movV (v := .pointer (some ⟨bx0, 0, none⟩)) rfl) ?_)
        refine U rfl rfl (V (x_nk rfl) ?_)
        refine U rfl rfl (V (x_fa tf62_3 rfl) ?_)
        refine U rfl rfl (V (x_ld tsc4 rfl (S.load 0 rfl 3 rfl)) ?_)
        refine U rfl rfl (V (x_not' rfl) ?_)
        refine U rfl rfl (V (x_movV (v := .bool (!b77)) rfl) ?_)
        by_cases cc92 : b77 = true
        · rw [if_pos cc92] at H
          refine OK.gf rfl rfl rfl (noF cc92) ?_
          refine OK.gf rfl rfl rfl (noF cc92) ?_
          refine OK.gf rfl rfl rfl (noF cc92) ?_
          refine OK.gu rfl rfl rfl ?_
          refine OK.gu rfl rfl rfl ?_
          refine OK.gf rfl rfl rfl (noF cc92) ?_
          refine OK.gf rfl rfl rfl (noF cc92) ?_
          refine OK.gu rfl rfl rfl ?_
          refine OK.gu rfl rfl rfl ?_
          refine OK.gf rfl rfl rfl (noF cc92) ?_
          refine U rfl rfl (V (x_pickFV (v := .bool false) rfl (noF cc92) rfl) ?_)
          refine FW.condF rfl rfl ?_
          refine FW.exit ?_
          exact ⟨n71, s72, n73, l74, b77, v75, J69, (Option.some.inj H), ⟨rfl, trivial⟩, hL79, S, h76⟩
        · rw [if_neg cc92] at H
          refine OK.gt rfl rfl rfl (noT (vaF cc92)) (V (x_movV (v := .int .u8 n70) rfl) ?_)
          refine OK.gt rfl rfl rfl (noT (vaF cc92)) (V (x_bin rfl rfl rfl) ?_)
          refine OK.gt rfl rfl rfl (noT (vaF cc92)) (V (x_movV (v := .bool (n70 == 42)) rfl) ?_)
          by_cases cc93 : n70 = 42
          · rw [if_pos cc93] at H
            refine OK.gf rfl rfl rfl (eqT cc93) ?_
            refine OK.gf rfl rfl rfl (eqT cc93) ?_
            refine OK.gt rfl rfl rfl (noT (vaF cc92)) (V (x_pickTV (v := .bool true) rfl (eqT cc93) rfl) ?_)
            refine OK.gt rfl rfl rfl (noT (vaF cc92)) (V (x_movV (v := .bool true) rfl) ?_)
            refine OK.gf rfl rfl rfl rfl ?_
            refine OK.gf rfl rfl rfl rfl ?_
            refine OK.gt rfl rfl rfl (noT (vaF cc92)) (V (x_pickTV (v := .bool true) rfl rfl rfl) ?_)
            refine U rfl rfl (V (x_pickTV (v := .bool true) rfl (noT (vaF cc92)) rfl) ?_)
            refine FW.condT rfl rfl ?_
            refine FW.skip ?_
            refine FW.block ?_
            refine FW.seq ?_
            refine FW.anew [(0, .pointer (some ⟨bx0, 0, none⟩)), (3, .int .u8 n70), (4, .int .i64 n71)] ⟨rfl, rfl, rfl, trivial⟩ fun σ => ?_
            refine FW.region ?_
            refine U rfl rfl (V (x_movV (v := .pointer (some ⟨bx0, 0, none⟩)) rfl) ?_)
            refine U rfl rfl (V (x_movV (v := .pointer (some ⟨bx0, 0, none⟩)) rfl) ?_)
            refine U rfl rfl (V (x_nk rfl) ?_)
            refine U rfl rfl (V (x_fa tf62_1 rfl) ?_)
            refine U rfl rfl (V (x_ld tsc3 rfl (S.load 0 rfl 1 rfl)) ?_)
            refine U rfl rfl (V (x_bin rfl rfl rfl) ?_)
            refine U rfl rfl (V (x_nk rfl) ?_)
            refine U rfl rfl (V (x_fa tf62_1 rfl) ?_)
            refine U rfl rfl (o_st tone3 S 0 rfl rfl rfl rfl fun w S => ?_)
            refine FW.seq ?_
            refine FW.anew [(0, .pointer (some ⟨bx0, 0, none⟩)), (3, .int .u8 n70), (4, .int .i64 n71)] ⟨rfl, rfl, rfl, trivial⟩ fun σ => ?_
            refine FW.region ?_
            refine U rfl rfl (V (x_movV (v := .pointer (some ⟨bx0, 0, none⟩)) rfl) ?_)
            refine U rfl rfl (V (x_movV (v := .int .u8 n70) rfl) ?_)
            refine U rfl rfl (V (x_movV (v := .int .i64 n71) rfl) ?_)
            refine U rfl rfl (o_bsl tsl75 tz3 rfl rfl rfl rfl (.one rfl PC.nil) rfl S fun b94 w S => ?_)
            obtain ⟨J95, hJ97, S, h96⟩ := S.freeze (r := (tInt' .i64)) (l := [n71]) 0 rfl ⟨[.int .i64 n71], _, rfl, rfl, rfl⟩ rfl rfl
            have h76 := h76.mono hJ97
            have hI := hI.trans hJ97
            have hL79 := hL79.trans hJ97
            have hG := hG.mono hJ97
            refine U rfl rfl (V (x_bld tz77 tpl77 rfl (.one rfl (.one h96.one PC.nil)) rfl) ?_)
            obtain ⟨y98, hy99, H⟩ := obx H
            refine U rfl rfl (cl fb33 (@speculumref11_P_put.ok q78 (T_speculumref11_P.mk s72 (i64 (n73 + 1)) l74 b77) (T_speculumref11_Node.mk n70 [n71] [] [] false false) _ _ _ _ _ _ _ _ _ hG (S.sel 3 [1, 2, 0] rfl) h76 h96 (SlR.nil _ _) (SlR.nil _ _) hy99) rfl ?_)
            rintro _ w ⟨y98_1v2, J100, hJ101, rfl, y98_1h2, S⟩
            have h96 := h96.mono hJ101
            have hI := hI.trans hJ101
            have hL79 := hL79.trans hJ101
            have hG := hG.mono hJ101
            refine U rfl rfl (V (x_asgV (v := .int .i64 y98.1) rfl) ?_)
            refine FW.anew [(0, .pointer (some ⟨bx0, 0, none⟩)), (4, .int .i64 y98.1)] ⟨rfl, rfl, trivial⟩ fun σ => ?_
            refine FW.region ?_
            refine U rfl rfl (V (x_movV (v := .pointer (some ⟨bx0, 0, none⟩)) rfl) ?_)
            obtain ⟨y102, hy103, H⟩ := obx H
            refine U rfl rfl (cl fb21 (@speculumref11_P_sign.ok q78 y98.2 _ _ _ _ _ _ hG S y98_1h2 hy103) rfl ?_)
            rintro _ w ⟨y102_1v2, J104, hJ105, rfl, y102_1h2, S⟩
            have hI := hI.trans hJ105
            have hL79 := hL79.trans hJ105
            have hG := hG.mono hJ105
            refine U rfl rfl (V (x_asgV (v := .int .u8 y102.1) rfl) ?_)
            exact ⟨q78, Nat.le_refl _, y102.1, y98.1, y102.2.S, y102.2.At, y102.2.N, y102.2.Bad, y102_1v2, J104, H, (Nat.le_of_succ_le hq91), ⟨rfl, rfl, rfl, trivial⟩, hL79, (S.sel 3 [0, 1] rfl), y102_1h2⟩
          · rw [if_neg cc93] at H
            refine OK.gt rfl rfl rfl (eqF cc93) (V (x_movV (v := .int .u8 n70) rfl) ?_)
            refine OK.gt rfl rfl rfl (eqF cc93) (V (x_bin rfl rfl rfl) ?_)
            refine OK.gt rfl rfl rfl (noT (vaF cc92)) (V (x_pickFV (v := .bool (n70 == 43)) rfl (eqF cc93) rfl) ?_)
            refine OK.gt rfl rfl rfl (noT (vaF cc92)) (V (x_movV (v := .bool (n70 == 43)) rfl) ?_)
            by_cases cc106 : n70 = 43
            · rw [if_pos cc106] at H
              refine OK.gf rfl rfl rfl (eqT cc106) ?_
              refine OK.gf rfl rfl rfl (eqT cc106) ?_
              refine OK.gt rfl rfl rfl (noT (vaF cc92)) (V (x_pickTV (v := .bool true) rfl (eqT cc106) rfl) ?_)
              refine U rfl rfl (V (x_pickTV (v := .bool true) rfl (noT (vaF cc92)) rfl) ?_)
              refine FW.condT rfl rfl ?_
              refine FW.skip ?_
              refine FW.block ?_
              refine FW.seq ?_
              refine FW.anew [(0, .pointer (some ⟨bx0, 0, none⟩)), (3, .int .u8 n70), (4, .int .i64 n71)] ⟨rfl, rfl, rfl, trivial⟩ fun σ => ?_
              refine FW.region ?_
              refine U rfl rfl (V (x_movV (v := .pointer (some ⟨bx0, 0, none⟩)) rfl) ?_)
              refine U rfl rfl (V (x_movV (v := .pointer (some ⟨bx0, 0, none⟩)) rfl) ?_)
              refine U rfl rfl (V (x_nk rfl) ?_)
              refine U rfl rfl (V (x_fa tf62_1 rfl) ?_)
              refine U rfl rfl (V (x_ld tsc3 rfl (S.load 0 rfl 1 rfl)) ?_)
              refine U rfl rfl (V (x_bin rfl rfl rfl) ?_)
              refine U rfl rfl (V (x_nk rfl) ?_)
              refine U rfl rfl (V (x_fa tf62_1 rfl) ?_)
              refine U rfl rfl (o_st tone3 S 0 rfl rfl rfl rfl fun w S => ?_)
              refine FW.seq ?_
              refine FW.anew [(0, .pointer (some ⟨bx0, 0, none⟩)), (3, .int .u8 n70), (4, .int .i64 n71)] ⟨rfl, rfl, rfl, trivial⟩ fun σ => ?_
              refine FW.region ?_
              refine U rfl rfl (V (x_movV (v := .pointer (some ⟨bx0, 0, none⟩)) rfl) ?_)
              refine U rfl rfl (V (x_movV (v := .int .u8 n70) rfl) ?_)
              refine U rfl rfl (V (x_movV (v := .int .i64 n71) rfl) ?_)
              refine U rfl rfl (o_bsl tsl75 tz3 rfl rfl rfl rfl (.one rfl PC.nil) rfl S fun b107 w S => ?_)
              obtain ⟨J108, hJ110, S, h109⟩ := S.freeze (r := (tInt' .i64)) (l := [n71]) 0 rfl ⟨[.int .i64 n71], _, rfl, rfl, rfl⟩ rfl rfl
              have h76 := h76.mono hJ110
              have hI := hI.trans hJ110
              have hL79 := hL79.trans hJ110
              have hG := hG.mono hJ110
              refine U rfl rfl (V (x_bld tz77 tpl77 rfl (.one rfl (.one h109.one PC.nil)) rfl) ?_)
              obtain ⟨y111, hy112, H⟩ := obx H
              refine U rfl rfl (cl fb33 (@speculumref11_P_put.ok q78 (T_speculumref11_P.mk s72 (i64 (n73 + 1)) l74 b77) (T_speculumref11_Node.mk n70 [n71] [] [] false false) _ _ _ _ _ _ _ _ _ hG (S.sel 3 [1, 2, 0] rfl) h76 h109 (SlR.nil _ _) (SlR.nil _ _) hy112) rfl ?_)
              rintro _ w ⟨y111_1v2, J113, hJ114, rfl, y111_1h2, S⟩
              have h109 := h109.mono hJ114
              have hI := hI.trans hJ114
              have hL79 := hL79.trans hJ114
              have hG := hG.mono hJ114
              refine U rfl rfl (V (x_asgV (v := .int .i64 y111.1) rfl) ?_)
              refine FW.anew [(0, .pointer (some ⟨bx0, 0, none⟩)), (4, .int .i64 y111.1)] ⟨rfl, rfl, trivial⟩ fun σ => ?_
              refine FW.region ?_
              refine U rfl rfl (V (x_movV (v := .pointer (some ⟨bx0, 0, none⟩)) rfl) ?_)
              obtain ⟨y115, hy116, H⟩ := obx H
              refine U rfl rfl (cl fb21 (@speculumref11_P_sign.ok q78 y111.2 _ _ _ _ _ _ hG S y111_1h2 hy116) rfl ?_)
              rintro _ w ⟨y115_1v2, J117, hJ118, rfl, y115_1h2, S⟩
              have hI := hI.trans hJ118
              have hL79 := hL79.trans hJ118
              have hG := hG.mono hJ118
              refine U rfl rfl (V (x_asgV (v := .int .u8 y115.1) rfl) ?_)
              exact ⟨q78, Nat.le_refl _, y115.1, y111.1, y115.2.S, y115.2.At, y115.2.N, y115.2.Bad, y115_1v2, J117, H, (Nat.le_of_succ_le hq91), ⟨rfl, rfl, rfl, trivial⟩, hL79, (S.sel 3 [0, 1] rfl), y115_1h2⟩
            · rw [if_neg cc106] at H
              refine OK.gt rfl rfl rfl (eqF cc106) (V (x_movV (v := .int .u8 n70) rfl) ?_)
              refine OK.gt rfl rfl rfl (eqF cc106) (V (x_bin rfl rfl rfl) ?_)
              refine OK.gt rfl rfl rfl (noT (vaF cc92)) (V (x_pickFV (v := .bool (n70 == 63)) rfl (eqF cc106) rfl) ?_)
              refine U rfl rfl (V (x_pickTV (v := .bool (n70 == 63)) rfl (noT (vaF cc92)) rfl) ?_)
              by_cases cc119 : n70 = 63
              · rw [if_pos cc119] at H
                refine FW.condT rfl (eqT cc119) ?_
                refine FW.skip ?_
                refine FW.block ?_
                refine FW.seq ?_
                refine FW.anew [(0, .pointer (some ⟨bx0, 0, none⟩)), (3, .int .u8 n70), (4, .int .i64 n71)] ⟨rfl, rfl, rfl, trivial⟩ fun σ => ?_
                refine FW.region ?_
                refine U rfl rfl (V (x_movV (v := .pointer (some ⟨bx0, 0, none⟩)) rfl) ?_)
                refine U rfl rfl (V (x_movV (v := .pointer (some ⟨bx0, 0, none⟩)) rfl) ?_)
                refine U rfl rfl (V (x_nk rfl) ?_)
                refine U rfl rfl (V (x_fa tf62_1 rfl) ?_)
                refine U rfl rfl (V (x_ld tsc3 rfl (S.load 0 rfl 1 rfl)) ?_)
                refine U rfl rfl (V (x_bin rfl rfl rfl) ?_)
                refine U rfl rfl (V (x_nk rfl) ?_)
                refine U rfl rfl (V (x_fa tf62_1 rfl) ?_)
                refine U rfl rfl (o_st tone3 S 0 rfl rfl rfl rfl fun w S => ?_)
                refine FW.seq ?_
                refine FW.anew [(0, .pointer (some ⟨bx0, 0, none⟩)), (3, .int .u8 n70), (4, .int .i64 n71)] ⟨rfl, rfl, rfl, trivial⟩ fun σ => ?_
                refine FW.region ?_
                refine U rfl rfl (V (x_movV (v := .pointer (some ⟨bx0, 0, none⟩)) rfl) ?_)
                refine U rfl rfl (V (x_movV (v := .int .u8 n70) rfl) ?_)
                refine U rfl rfl (V (x_movV (v := .int .i64 n71) rfl) ?_)
                refine U rfl rfl (o_bsl tsl75 tz3 rfl rfl rfl rfl (.one rfl PC.nil) rfl S fun b120 w S => ?_)
                obtain ⟨J121, hJ123, S, h122⟩ := S.freeze (r := (tInt' .i64)) (l := [n71]) 0 rfl ⟨[.int .i64 n71], _, rfl, rfl, rfl⟩ rfl rfl
                have h76 := h76.mono hJ123
                have hI := hI.trans hJ123
                have hL79 := hL79.trans hJ123
                have hG := hG.mono hJ123
                refine U rfl rfl (V (x_bld tz77 tpl77 rfl (.one rfl (.one h122.one PC.nil)) rfl) ?_)
                obtain ⟨y124, hy125, H⟩ := obx H
                refine U rfl rfl (cl fb33 (@speculumref11_P_put.ok q78 (T_speculumref11_P.mk s72 (i64 (n73 + 1)) l74 b77) (T_speculumref11_Node.mk n70 [n71] [] [] false false) _ _ _ _ _ _ _ _ _ hG (S.sel 3 [1, 2, 0] rfl) h76 h122 (SlR.nil _ _) (SlR.nil _ _) hy125) rfl ?_)
                rintro _ w ⟨y124_1v2, J126, hJ127, rfl, y124_1h2, S⟩
                have h122 := h122.mono hJ127
                have hI := hI.trans hJ127
                have hL79 := hL79.trans hJ127
                have hG := hG.mono hJ127
                refine U rfl rfl (V (x_asgV (v := .int .i64 y124.1) rfl) ?_)
                refine FW.anew [(0, .pointer (some ⟨bx0, 0, none⟩)), (4, .int .i64 y124.1)] ⟨rfl, rfl, trivial⟩ fun σ => ?_
                refine FW.region ?_
                refine U rfl rfl (V (x_movV (v := .pointer (some ⟨bx0, 0, none⟩)) rfl) ?_)
                obtain ⟨y128, hy129, H⟩ := obx H
                refine U rfl rfl (cl fb21 (@speculumref11_P_sign.ok q78 y124.2 _ _ _ _ _ _ hG S y124_1h2 hy129) rfl ?_)
                rintro _ w ⟨y128_1v2, J130, hJ131, rfl, y128_1h2, S⟩
                have hI := hI.trans hJ131
                have hL79 := hL79.trans hJ131
                have hG := hG.mono hJ131
                refine U rfl rfl (V (x_asgV (v := .int .u8 y128.1) rfl) ?_)
                exact ⟨q78, Nat.le_refl _, y128.1, y124.1, y128.2.S, y128.2.At, y128.2.N, y128.2.Bad, y128_1v2, J130, H, (Nat.le_of_succ_le hq91), ⟨rfl, rfl, rfl, trivial⟩, hL79, (S.sel 3 [0, 1] rfl), y128_1h2⟩
              · rw [if_neg cc119] at H
                refine FW.condF rfl (eqF cc119) ?_
                refine FW.exit ?_
                exact ⟨n71, s72, n73, l74, b77, v75, J69, (Option.some.inj H), ⟨rfl, trivial⟩, hL79, S, h76⟩
    · rintro σ w ⟨n84, s85, n86, l87, b90, v88, J83, ho, hσ, hL79, S, h89⟩
      subst ho
      have H := HO81
      try dsimp only at H
      have hI := hI.trans hL79
      have hG := hG.mono hL79
      rw [hσ.eq]
      refine FW.seq ?_
      refine FW.region ?_
      refine U rfl rfl (V (x_movV (v := .int .i64 n84) rfl) ?_)
      refine U rfl rfl (V (x_asgV (v := .int .i64 n84) rfl) ?_)
      refine FW.ret ?_
      obtain rfl := Option.some.inj H
      exact ⟨_, ⟨_, rfl, rfl⟩, ⟨v88, J83, hI, rfl, h89, S⟩⟩
theorem speculumref11_P_part.zero : speculumref11_P_part.C 0 := by
  intro _ _ _ _ _ _ _ _ _ _ H; cases H
theorem speculumref11_P_choices.grp : ∀ k m, m ≤ k → speculumref11_P_choices.C m ∧ speculumref11_P_row.C m ∧ speculumref11_P_part.C m
  | 0, m, h => by
    obtain rfl : m = 0 := by omega
    exact ⟨speculumref11_P_choices.zero, speculumref11_P_row.zero, speculumref11_P_part.zero⟩
  | k + 1, 0, _ => ⟨speculumref11_P_choices.zero, speculumref11_P_row.zero, speculumref11_P_part.zero⟩
  | k + 1, m + 1, h => ⟨speculumref11_P_choices.step m (fun i hi => (speculumref11_P_choices.grp k i (by omega)).2.1), speculumref11_P_row.step m (fun i hi => (speculumref11_P_choices.grp k i (by omega)).2.2), speculumref11_P_part.step m (fun i hi => (speculumref11_P_choices.grp k i (by omega)).1)⟩
theorem speculumref11_P_choices.ok (k : Nat) : speculumref11_P_choices.C k := (speculumref11_P_choices.grp k k (Nat.le_refl k)).1
def speculumref11_Parse.l0 : Nat → ByteArray → Int → Option (Sum ((Option T_speculumref11_P) × Int × Int) Unit)
  | 0, _, _ => none
  | k + 1, x0, n3 => (if n3 < (x0.size : Int) then ((sat x0 n3).bind fun y12 => (if y12 = 0 then (some (.inl (none, 0, 14))) else (speculumref11_Parse.l0 k x0 (i64 (n3 + 1))))) else (some (.inr ())))
def speculumref11_Parse.f (k : Nat) (x0 : ByteArray) : Option ((Option T_speculumref11_P) × Int × Int) := (if (x0.size : Int) > 100 then (some (none, 0, 4)) else (((speculumref11_Parse.l0 k x0 0) : Option (Sum ((Option T_speculumref11_P) × Int × Int) Unit)).bind fun o => match o with | .inl r => some r | .inr _ => ((speculumref11_P_choices.f k (T_speculumref11_P.mk x0 0 [] false)).bind fun y17 => ((speculumref11_P_sign.f k y17.2).bind fun y21 => ((if y21.1 = 0 then (some y21.2.Bad) else (some true)).bind fun b26 => (if b26 = true then (some (none, 0, 14)) else (some ((some (T_speculumref11_P.mk y21.2.S y21.2.At y21.2.N b26)), y17.1, 0))))))))
abbrev speculumref11_Parse.C (k : Nat) : Prop := ∀ {x0 : ByteArray} {F : List It} {I : IMem} {w : World} {r : (Option T_speculumref11_P) × Int × Int}, Glob I → Own I w (F) → speculumref11_Parse.f k x0 = some r →
    Calls Tryd.prog 9 #[.string x0] w fun e w' => ∃ v, e = .returned v ∧ ∃ (vy_0 : Value) (J : IMem), I.le J ∧ v = .tuple #[vy_0, .int .i64 r.2.1, .int .i64 r.2.2] ∧ PtR R_speculumref11_P J vy_0 r.1 ∧ Own J w' (F)
theorem speculumref11_Parse.ok (k : Nat) : speculumref11_Parse.C k := by
  intro x0 F I w r hG S H
  have hI := IMem.le.refl I
  rw [speculumref11_Parse.f] at H
  refine Calls.ofFW (args := [.string x0]) Tryd.func9 rfl rfl ?_
  refine FW.seq ?_
  refine FW.region ?_
  refine U rfl rfl (V (x_asgV (v := .pointer none) rfl) ?_)
  refine U rfl rfl (V (x_asgV (v := .int .i64 0) rfl) ?_)
  refine U rfl rfl (V (x_asgV (v := .int .i64 0) rfl) ?_)
  refine FW.seq ?_
  refine FW.seq ?_
  refine FW.region ?_
  refine U rfl rfl (V (x_movV (v := .string x0) rfl) ?_)
  refine U rfl rfl (V (x_lens tstr9 rfl) ?_)
  refine U rfl rfl (V (x_bin rfl rfl rfl) ?_)
  by_cases cc1 : (x0.size : Int) > 100
  · rw [if_pos cc1] at H
    refine FW.condT rfl (deT cc1) ?_
    refine FW.seq ?_
    refine FW.region ?_
    refine U rfl rfl (V (x_asgV (v := .pointer none) rfl) ?_)
    refine U rfl rfl (V (x_asgV (v := .int .i64 0) rfl) ?_)
    refine U rfl rfl (V (x_asgV (v := .int .i64 4) rfl) ?_)
    refine FW.ret ?_
    obtain rfl := Option.some.inj H
    exact ⟨_, ⟨_, rfl, ⟨_, rfl, ⟨_, rfl, rfl⟩⟩⟩, ⟨(.pointer none), I, hI, rfl, (PtR.nil _ _), S⟩⟩
  · rw [if_neg cc1] at H
    refine FW.condF rfl (deF cc1) ?_
    refine FW.skip ?_
    refine FW.seq ?_
    refine FW.seq ?_
    refine FW.region ?_
    refine U rfl rfl (V (x_asgV (v := .int .i64 0) rfl) ?_)
    refine FW.block ?_
    obtain ⟨o6, hl8, HO7⟩ := obx H
    refine FW.cutX 0 (fun σ w => ∃ (J9 : IMem), (.inr ()) = o6 ∧ Has σ [(0, .string x0)] ∧ I.le J9 ∧ Own J9 w (F)) ?_ ?_
    ·
      refine FW.loop k (FL.ind (fun q σ w => ∃ (n3 : Int) (J2 : IMem), speculumref11_Parse.l0 q x0 n3 = some o6 ∧ q ≤ k ∧ Has σ [(0, .string x0), (5, .int .i64 n3)] ∧ I.le J2 ∧ Own J2 w (F)) ?_ ?_ k k _ _ (Nat.le_refl _) ⟨0, I, hl8, Nat.le_refl _, ⟨rfl, rfl, trivial⟩, (IMem.le.refl _), S⟩)
      · rintro σ w ⟨n3, J2, H, _⟩; cases H
      · rintro q4 σ w ⟨n3, J2, H, hq10, hσ, hL5, S⟩
        have hI := hI.trans hL5
        have hG := hG.mono hL5
        rw [hσ.eq]
        rw [speculumref11_Parse.l0] at H
        refine FW.seq ?_
        refine FW.seq ?_
        refine FW.region ?_
        refine U rfl rfl (V (x_movV (v := .int .i64 n3) rfl) ?_)
        refine U rfl rfl (V (x_movV (v := .string x0) rfl) ?_)
        refine U rfl rfl (V (x_lens tstr9 rfl) ?_)
        refine U rfl rfl (V (x_bin rfl rfl rfl) ?_)
        by_cases cc11 : n3 < (x0.size : Int)
        · rw [if_pos cc11] at H
          refine FW.condT rfl (deT cc11) ?_
          refine FW.skip ?_
          refine FW.seq ?_
          refine FW.block ?_
          refine FW.seq ?_
          refine FW.region ?_
          refine U rfl rfl (V (x_movV (v := .string x0) rfl) ?_)
          refine U rfl rfl (V (x_movV (v := .int .i64 n3) rfl) ?_)
          obtain ⟨y12, h13, H⟩ := obx H
          refine U rfl rfl (V (x_sat tstr9 rfl rfl h13) ?_)
          refine U rfl rfl (V (x_bin rfl rfl rfl) ?_)
          by_cases cc14 : y12 = 0
          · rw [if_pos cc14] at H
            refine FW.condT rfl (eqT cc14) ?_
            refine FW.seq ?_
            refine FW.anew [] trivial fun σ => ?_
            refine FW.region ?_
            refine U rfl rfl (V (x_asgV (v := .pointer none) rfl) ?_)
            refine U rfl rfl (V (x_asgV (v := .int .i64 0) rfl) ?_)
            refine U rfl rfl (V (x_asgV (v := .int .i64 14) rfl) ?_)
            refine FW.ret ?_
            obtain rfl := Option.some.inj H
            obtain rfl := Option.some.inj HO7
            exact ⟨_, ⟨_, rfl, ⟨_, rfl, ⟨_, rfl, rfl⟩⟩⟩, ⟨(.pointer none), J2, hI, rfl, (PtR.nil _ _), S⟩⟩
          · rw [if_neg cc14] at H
            refine FW.condF rfl (eqF cc14) ?_
            refine FW.skip ?_
            refine FW.anew [(0, .string x0), (5, .int .i64 n3)] ⟨rfl, rfl, trivial⟩ fun σ => ?_
            refine FW.region ?_
            refine U rfl rfl (V (x_movV (v := .int .i64 n3) rfl) ?_)
            refine U rfl rfl (V (x_bin rfl rfl rfl) ?_)
            refine U rfl rfl (V (x_asgV (v := .int .i64 (i64 (n3 + 1))) rfl) ?_)
            exact ⟨q4, Nat.le_refl _, (i64 (n3 + 1)), J2, H, (Nat.le_of_succ_le hq10), ⟨rfl, rfl, trivial⟩, hL5, S⟩
        · rw [if_neg cc11] at H
          refine FW.condF rfl (deF cc11) ?_
          refine FW.exit ?_
          exact ⟨J2, (Option.some.inj H), ⟨rfl, trivial⟩, hL5, S⟩
    · rintro σ w ⟨J9, ho, hσ, hL5, S⟩
      subst ho
      have H := HO7
      try dsimp only at H
      have hI := hI.trans hL5
      have hG := hG.mono hL5
      rw [hσ.eq]
      refine FW.seq ?_
      refine FW.region ?_
      refine U rfl rfl (V (x_movV (v := .string x0) rfl) ?_)
      refine U rfl rfl (V (x_bld tz62 tpl62 rfl (.one rfl PC.nil) rfl) ?_)
      refine U rfl rfl (o_boxA rfl S fun b15 w S => ?_)
      refine U rfl rfl (V (x_asgV (v := .pointer (some ⟨b15, 0, none⟩)) rfl) ?_)
      refine FW.seq ?_
      refine FW.region ?_
      refine U rfl rfl (V (x_movV (v := .pointer (some ⟨b15, 0, none⟩)) rfl) ?_)
      have S := S.nil_tv 77 6
      obtain ⟨y17, hy18, H⟩ := obx H
      refine U rfl rfl (cl fb20 (@speculumref11_P_choices.ok k (T_speculumref11_P.mk x0 0 [] false) _ _ _ _ _ _ hG (S.sel 2 [1, 0] rfl) (SlR.nil _ _) hy18) rfl ?_)
      rintro _ w ⟨y17_1v2, J19, hJ20, rfl, y17_1h2, S⟩
      have hI := hI.trans hJ20
      have hG := hG.mono hJ20
      refine U rfl rfl (V (x_asgV (v := .int .i64 y17.1) rfl) ?_)
      refine FW.seq ?_
      refine FW.seq ?_
      refine FW.anew [(6, .pointer (some ⟨b15, 0, none⟩)), (7, .int .i64 y17.1)] ⟨rfl, rfl, trivial⟩ fun σ => ?_
      refine FW.region ?_
      refine U rfl rfl (V (x_movV (v := .pointer (some ⟨b15, 0, none⟩)) rfl) ?_)
      obtain ⟨y21, hy22, H⟩ := obx H
      refine U rfl rfl (cl fb21 (@speculumref11_P_sign.ok k y17.2 _ _ _ _ _ _ hG S y17_1h2 hy22) rfl ?_)
      rintro _ w ⟨y21_1v2, J23, hJ24, rfl, y21_1h2, S⟩
      have hI := hI.trans hJ24
      have hG := hG.mono hJ24
      refine U rfl rfl (V (x_bin rfl rfl rfl) ?_)
      obtain ⟨o27, H, HO28⟩ := obx H
      have hL29 := IMem.le.refl J23
      refine FW.cutN (fun σ w => ∃ (b26 : Bool) (J25 : IMem), b26 = o27 ∧ Has σ [(6, .pointer (some ⟨b15, 0, none⟩)), (7, .int .i64 y17.1)] ∧ J23.le J25 ∧ Own J25 w (.bk b15 62 [.string y21.2.S, .int .i64 y21.2.At, y21_1v2, .bool b26] :: .tv y21_1v2 77 6 :: F)) ?_ ?_
      ·
        by_cases cc30 : y21.1 = 0
        · rw [if_pos cc30] at H
          refine FW.condF rfl (neF cc30) ?_
          refine FW.skip ?_
          exact ⟨y21.2.Bad, J23, (Option.some.inj H), ⟨rfl, rfl, trivial⟩, hL29, S⟩
        · rw [if_neg cc30] at H
          refine FW.condT rfl (neT cc30) ?_
          refine FW.region ?_
          refine U rfl rfl (V (x_movV (v := .pointer (some ⟨b15, 0, none⟩)) rfl) ?_)
          refine U rfl rfl (V (x_nk rfl) ?_)
          refine U rfl rfl (V (x_fa tf62_3 rfl) ?_)
          refine U rfl rfl (o_st tone4 S 0 rfl rfl rfl rfl fun w S => ?_)
          exact ⟨true, J23, (Option.some.inj H), ⟨rfl, rfl, trivial⟩, hL29, S⟩
      · rintro σ w ⟨b26, J25, ho, hσ, hL29, S⟩
        subst ho
        have H := HO28
        have y21_1h2 := y21_1h2.mono hL29
        have hI := hI.trans hL29
        have hG := hG.mono hL29
        rw [hσ.eq]
        refine FW.seq ?_
        refine FW.seq ?_
        refine FW.region ?_
        refine U rfl rfl (V (x_movV (v := .pointer (some ⟨b15, 0, none⟩)) rfl) ?_)
        refine U rfl rfl (V (x_nk rfl) ?_)
        refine U rfl rfl (V (x_fa tf62_3 rfl) ?_)
        refine U rfl rfl (V (x_ld tsc4 rfl (S.load 0 rfl 3 rfl)) ?_)
        by_cases cc31 : b26 = true
        · rw [if_pos cc31] at H
          refine FW.condT rfl cc31 ?_
          refine FW.seq ?_
          refine FW.region ?_
          refine U rfl rfl (V (x_asgV (v := .pointer none) rfl) ?_)
          refine U rfl rfl (V (x_asgV (v := .int .i64 0) rfl) ?_)
          refine U rfl rfl (V (x_asgV (v := .int .i64 14) rfl) ?_)
          refine FW.ret ?_
          obtain rfl := Option.some.inj H
          exact ⟨_, ⟨_, rfl, ⟨_, rfl, ⟨_, rfl, rfl⟩⟩⟩, ⟨(.pointer none), J25, hI, rfl, (PtR.nil _ _), (S.sel 2 [] rfl)⟩⟩
        · rw [if_neg cc31] at H
          refine FW.condF rfl (vaF cc31) ?_
          refine FW.skip ?_
          refine FW.seq ?_
          refine FW.region ?_
          refine U rfl rfl (V (x_movV (v := .pointer (some ⟨b15, 0, none⟩)) rfl) ?_)
          refine U rfl rfl (V (x_movV (v := .int .i64 y17.1) rfl) ?_)
          refine U rfl rfl (V (x_asgV (v := .pointer (some ⟨b15, 0, none⟩)) rfl) ?_)
          refine U rfl rfl (V (x_asgV (v := .int .i64 y17.1) rfl) ?_)
          refine U rfl rfl (V (x_asgV (v := .int .i64 0) rfl) ?_)
          refine FW.ret ?_
          obtain ⟨J32, hJ34, S, h33⟩ := S.freezeB (r := R_speculumref11_P) (x := (T_speculumref11_P.mk y21.2.S y21.2.At y21.2.N b26)) 0 rfl ⟨y21_1v2, rfl, y21_1h2⟩
          have hI := hI.trans hJ34
          have hG := hG.mono hJ34
          obtain rfl := Option.some.inj H
          exact ⟨_, ⟨_, rfl, ⟨_, rfl, ⟨_, rfl, rfl⟩⟩⟩, ⟨(.pointer (some ⟨b15, 0, none⟩)), J32, hI, rfl, h33, (S.sel 1 [] rfl)⟩⟩
def speculumref11_still.l0 : Nat → Int → Bool → (List (List Bool)) → Int → Option (List (List Bool))
  | 0, _, _, _, _ => none
  | k + 1, x0, x1, l5, n13 => (if n13 ≤ x0 then ((made 1 false (i64 (x0 + 1))).bind fun l30 => ((lat l30 n13).bind fun y36 => ((app 24 l5 [(l30.set n13.toNat x1)]).bind fun l50 => (speculumref11_still.l0 k x0 x1 l50 (i64 (n13 + 1)))))) else (some l5))
def speculumref11_still.f (k : Nat) (x0 : Int) (x1 : Bool) : Option (List (List Bool)) := ((speculumref11_still.l0 k x0 x1 [] 0).bind fun l20 => (some l20))
abbrev speculumref11_still.C (k : Nat) : Prop := ∀ {x0 : Int} {x1 : Bool} {F : List It} {I : IMem} {w : World} {r : (List (List Bool))}, Glob I → Own I w (F) → speculumref11_still.f k x0 x1 = some r →
    Calls Tryd.prog 34 #[.int .i64 x0, .bool x1] w fun e w' => ∃ v, e = .returned v ∧ ∃ (vy_0 : Value) (cy_0 : List Value) (uy_0 : List Value) (py_0 : List (Value × List Value)) (J : IMem), I.le J ∧ v = vy_0 ∧ Flat tRaw J cy_0 uy_0 ∧ MxR tBool J uy_0 py_0 r ∧ Own J w' (.av vy_0 64 1 cy_0 :: .fam 4 1 py_0 :: F)
theorem speculumref11_still.ok (k : Nat) : speculumref11_still.C k := by
  intro x0 x1 F I w r hG S H
  have hI := IMem.le.refl I
  rw [speculumref11_still.f] at H
  refine Calls.ofFW (args := [.int .i64 x0, .bool x1]) Tryd.func34 rfl rfl ?_
  refine FW.seq ?_
  refine FW.region ?_
  refine U rfl rfl (V (x_asgV (v := (.slice none 0 0)) rfl) ?_)
  refine FW.seq ?_
  refine FW.region ?_
  refine U rfl rfl (V (x_asgV (v := (.slice none 0 0)) rfl) ?_)
  refine FW.seq ?_
  refine FW.seq ?_
  refine FW.region ?_
  refine U rfl rfl (V (x_asgV (v := .int .i64 0) rfl) ?_)
  refine FW.block ?_
  have S := (S.nil_fam 4 1).nil_av 64 1
  have h2 : Flat tRaw I [] [] := Flat.nil' _ _
  have h3 := MxR.nil tBool I
  obtain ⟨o16, hl18, HO17⟩ := obx H
  refine FW.cutX 0 (fun σ w => ∃ (l20 : (List (List Bool))) (v21 : Value) (a22 : List Value) (u23 : List Value) (p24 : List (Value × List Value)) (J19 : IMem), l20 = o16 ∧ Has σ [(5, v21)] ∧ I.le J19 ∧ Own J19 w (.av v21 64 1 a22 :: .fam 4 1 p24 :: F) ∧ Flat tRaw J19 a22 u23 ∧ MxR tBool J19 u23 p24 l20) ?_ ?_
  ·
    refine FW.loop k (FL.ind (fun q σ w => ∃ (l5 : (List (List Bool))) (n13 : Int) (v6 : Value) (a7 : List Value) (u8 : List Value) (p9 : List (Value × List Value)) (J4 : IMem), speculumref11_still.l0 q x0 x1 l5 n13 = some o16 ∧ q ≤ k ∧ Has σ [(0, .int .i64 x0), (1, .bool x1), (5, v6), (6, .int .i64 n13)] ∧ I.le J4 ∧ Own J4 w (.av v6 64 1 a7 :: .fam 4 1 p9 :: F) ∧ Flat tRaw J4 a7 u8 ∧ MxR tBool J4 u8 p9 l5) ?_ ?_ k k _ _ (Nat.le_refl _) ⟨[], 0, (.slice none 0 0), [], [], [], I, hl18, Nat.le_refl _, ⟨rfl, rfl, rfl, rfl, trivial⟩, (IMem.le.refl _), S, h2, h3⟩)
    · rintro σ w ⟨l5, n13, v6, a7, u8, p9, J4, H, _⟩; cases H
    · rintro q14 σ w ⟨l5, n13, v6, a7, u8, p9, J4, H, hq28, hσ, hL15, S, h10, h11⟩
      have hI := hI.trans hL15
      have hG := hG.mono hL15
      rw [hσ.eq]
      rw [speculumref11_still.l0] at H
      refine FW.seq ?_
      refine FW.seq ?_
      refine FW.region ?_
      refine U rfl rfl (V (x_movV (v := .int .i64 n13) rfl) ?_)
      refine U rfl rfl (V (x_movV (v := .int .i64 x0) rfl) ?_)
      refine U rfl rfl (V (x_bin rfl rfl rfl) ?_)
      by_cases cc29 : n13 ≤ x0
      · rw [if_pos cc29] at H
        refine FW.condT rfl (deT cc29) ?_
        refine FW.skip ?_
        refine FW.seq ?_
        refine FW.block ?_
        refine FW.seq ?_
        refine FW.region ?_
        refine U rfl rfl (V (x_movV (v := .int .i64 x0) rfl) ?_)
        refine U rfl rfl (V (x_bin rfl rfl rfl) ?_)
        obtain ⟨l30, h32, H⟩ := obx H
        refine U rfl rfl (o_mk (r := tBool) (x0 := false) tsl64 tz4 rfl rfl rfl rfl rfl h32 rfl S fun v31 w a34 S h33 => ?_)
        refine U rfl rfl (V (x_asgV (v := v31) rfl) ?_)
        refine FW.seq ?_
        refine FW.anew [(0, .int .i64 x0), (1, .bool x1), (5, v6), (6, .int .i64 n13), (7, v31)] ⟨rfl, rfl, rfl, rfl, rfl, trivial⟩ fun σ => ?_
        refine FW.region ?_
        refine U rfl rfl (V (x_movV (v := v31) rfl) ?_)
        refine U rfl rfl (V (x_movV (v := .int .i64 n13) rfl) ?_)
        refine U rfl rfl (V (x_movV (v := .bool x1) rfl) ?_)
        obtain ⟨y36, h37, H⟩ := obx H
        refine U rfl rfl (o_iaV (r := tBool) tsl64 rfl rfl S 0 rfl h33 rfl h37 fun b38 cs39 cc40 hv41 hr42 hc43 => ?_)
        obtain rfl := hr42
        refine U rfl rfl (o_stV (r := tBool) (f := 0) (y' := x1) tone4 rfl S 0 rfl hv41 h33 h37 rfl hc43 rfl rfl rfl rfl rfl fun w a44 S h45 => ?_)
        refine FW.region ?_
        refine U rfl rfl (V (x_movV (v := v6) rfl) ?_)
        refine U rfl rfl (V (x_movV (v := v31) rfl) ?_)
        refine U rfl rfl (o_bsl tsl67 tz64 rfl rfl rfl rfl (.one (av_one S 0 rfl) PC.nil) rfl S fun b46 w S => ?_)
        obtain ⟨J47, hJ49, S, h48⟩ := S.freeze (r := tRaw) (l := [v31]) 0 rfl ⟨[v31], _, rfl, ⟨rfl, av_one S 1 rfl⟩, rfl⟩ rfl rfl
        have h45 := h45.mono hJ49
        have h10 := h10.mono hJ49
        have h11 := h11.mono hJ49
        have hI := hI.trans hJ49
        have hL15 := hL15.trans hJ49
        have hG := hG.mono hJ49
        obtain ⟨l50, h52, H⟩ := obx H
        refine U rfl rfl (o_appV (r := tRaw) tsl67 rfl tz64 rfl rfl S 2 rfl rfl h10 h48 (app_raw h11 h52) fun v51 w a55 S h53 => ?_)
        have S : Own J47 _ (.av v31 4 1 a44 :: .fam 4 1 p9 :: .tv (.slice (some ⟨b46, 0, none⟩) 1 1) 64 1 :: .av v51 64 1 a55 :: F) := (S.sel 4 [1, 3, 0, 2] rfl)
        obtain ⟨S, h54⟩ := mx_push S h11 h45 h52
        refine U rfl rfl (V (x_asgV (v := v51) rfl) ?_)
        refine FW.anew [(0, .int .i64 x0), (1, .bool x1), (5, v51), (6, .int .i64 n13)] ⟨rfl, rfl, rfl, rfl, trivial⟩ fun σ => ?_
        refine FW.region ?_
        refine U rfl rfl (V (x_movV (v := .int .i64 n13) rfl) ?_)
        refine U rfl rfl (V (x_bin rfl rfl rfl) ?_)
        refine U rfl rfl (V (x_asgV (v := .int .i64 (i64 (n13 + 1))) rfl) ?_)
        exact ⟨q14, Nat.le_refl _, l50, (i64 (n13 + 1)), v51, a55, (u8 ++ [v31]), (p9 ++ [(v31, a44)]), J47, H, (Nat.le_of_succ_le hq28), ⟨rfl, rfl, rfl, rfl, trivial⟩, hL15, (S.sel 3 [2, 0] rfl), h53, h54⟩
      · rw [if_neg cc29] at H
        refine FW.condF rfl (deF cc29) ?_
        refine FW.exit ?_
        exact ⟨l5, v6, a7, u8, p9, J4, (Option.some.inj H), ⟨rfl, trivial⟩, hL15, S, h10, h11⟩
  · rintro σ w ⟨l20, v21, a22, u23, p24, J19, ho, hσ, hL15, S, h25, h26⟩
    subst ho
    have H := HO17
    have hI := hI.trans hL15
    have hG := hG.mono hL15
    rw [hσ.eq]
    refine FW.seq ?_
    refine FW.region ?_
    refine U rfl rfl (V (x_movV (v := v21) rfl) ?_)
    refine U rfl rfl (V (x_asgV (v := v21) rfl) ?_)
    refine FW.ret ?_
    obtain rfl := Option.some.inj H
    exact ⟨_, ⟨_, rfl, rfl⟩, ⟨v21, a22, u23, p24, J19, hI, rfl, h25, h26, S⟩⟩
def speculumref11_then.l2 : Nat → (List (List Bool)) → (List (List Bool)) → Int → Int → (List (List Bool)) → Int → Option (List (List Bool))
  | 0, _, _, _, _, _, _ => none
  | k + 1, x0, x1, n14, n40, l58, n66 => (if n66 < (x0.length : Int) then ((lat x0 n14).bind fun y83 => ((lat y83 n40).bind fun y90 => (if y90 = true then ((lat l58 n14).bind fun y98 => ((lat y98 n66).bind fun y118 => (if y118 = true then ((lat y98 n66).bind fun y127 => (speculumref11_then.l2 k x0 x1 n14 n40 (l58.set (n14 : Int).toNat (y98.set n66.toNat true)) (i64 (n66 + 1)))) else ((lat x1 n40).bind fun y138 => ((lat y138 n66).bind fun y145 => ((lat y98 n66).bind fun y152 => (speculumref11_then.l2 k x0 x1 n14 n40 (l58.set (n14 : Int).toNat (y98.set n66.toNat y145)) (i64 (n66 + 1))))))))) else (some l58)))) else (some l58))
def speculumref11_then.l1 : Nat → (List (List Bool)) → (List (List Bool)) → Int → (List (List Bool)) → Int → Option (List (List Bool))
  | 0, _, _, _, _, _ => none
  | k + 1, x0, x1, n14, l32, n40 => (if n40 < (x0.length : Int) then ((speculumref11_then.l2 k x0 x1 n14 n40 l32 n40).bind fun l73 => (speculumref11_then.l1 k x0 x1 n14 l73 (i64 (n40 + 1)))) else (some l32))
def speculumref11_then.l0 : Nat → (List (List Bool)) → (List (List Bool)) → (List (List Bool)) → Int → Option (List (List Bool))
  | 0, _, _, _, _ => none
  | k + 1, x0, x1, l6, n14 => (if n14 < (x0.length : Int) then ((speculumref11_then.l1 k x0 x1 n14 l6 n14).bind fun l47 => (speculumref11_then.l0 k x0 x1 l47 (i64 (n14 + 1)))) else (some l6))
def speculumref11_then.f (k : Nat) (x0 : (List (List Bool))) (x1 : (List (List Bool))) : Option (List (List Bool)) := ((speculumref11_still.f k (i64 ((x0.length : Int) - 1)) false).bind fun y1 => ((speculumref11_then.l0 k x0 x1 y1 0).bind fun l21 => (some l21)))
abbrev speculumref11_then.C (k : Nat) : Prop := ∀ {x0 : (List (List Bool))} {x1 : (List (List Bool))} {vx0 : Value} {vx1 : Value} {F : List It} {I : IMem} {w : World} {r : (List (List Bool))}, Glob I → Own I w (F) → SlR (tSlice tBool) I vx0 x0 → SlR (tSlice tBool) I vx1 x1 → speculumref11_then.f k x0 x1 = some r →
    Calls Tryd.prog 35 #[vx0, vx1] w fun e w' => ∃ v, e = .returned v ∧ ∃ (vy_0 : Value) (cy_0 : List Value) (uy_0 : List Value) (py_0 : List (Value × List Value)) (J : IMem), I.le J ∧ v = vy_0 ∧ Flat tRaw J cy_0 uy_0 ∧ MxR tBool J uy_0 py_0 r ∧ Own J w' (.av vy_0 64 1 cy_0 :: .fam 4 1 py_0 :: F)
theorem speculumref11_then.ok (k : Nat) : speculumref11_then.C k := by
  intro x0 x1 vx0 vx1 F I w r hG S hx0 hx1 H
  have hI := IMem.le.refl I
  rw [speculumref11_then.f] at H
  refine Calls.ofFW (args := [vx0, vx1]) Tryd.func35 rfl rfl ?_
  refine FW.seq ?_
  refine FW.region ?_
  refine U rfl rfl (V (x_asgV (v := (.slice none 0 0)) rfl) ?_)
  refine FW.seq ?_
  refine FW.region ?_
  refine U rfl rfl (V (x_movV (v := vx0) rfl) ?_)
  refine U rfl rfl (V (x_lenD (r := (tSlice tBool)) tsl67 hx0) ?_)
  refine U rfl rfl (V (x_bin rfl rfl rfl) ?_)
  obtain ⟨y1, hy2, H⟩ := obx H
  refine U rfl rfl (cl fb34 (@speculumref11_still.ok k (i64 ((x0.length : Int) - 1)) false _ _ _ _ hG S hy2) rfl ?_)
  rintro vy1_0 w ⟨vy1_0q, cy1_0, uy1_0, py1_0, J3, hJ4, rfl, hy1_0, my1_0, S⟩
  have hx0 := hx0.mono hJ4
  have hx1 := hx1.mono hJ4
  have hI := hI.trans hJ4
  have hG := hG.mono hJ4
  refine U rfl rfl (V (x_asgV (v := vy1_0) rfl) ?_)
  refine FW.seq ?_
  refine FW.seq ?_
  refine FW.region ?_
  refine U rfl rfl (V (x_asgV (v := .int .i64 0) rfl) ?_)
  refine FW.block ?_
  obtain ⟨o17, hl19, HO18⟩ := obx H
  refine FW.cutX 0 (fun σ w => ∃ (l21 : (List (List Bool))) (v22 : Value) (a23 : List Value) (u24 : List Value) (p25 : List (Value × List Value)) (J20 : IMem), l21 = o17 ∧ Has σ [(5, v22)] ∧ J3.le J20 ∧ Own J20 w (.av v22 64 1 a23 :: .fam 4 1 p25 :: F) ∧ Flat tRaw J20 a23 u24 ∧ MxR tBool J20 u24 p25 l21) ?_ ?_
  ·
    refine FW.loop k (FL.ind (fun q σ w => ∃ (l6 : (List (List Bool))) (n14 : Int) (v7 : Value) (a8 : List Value) (u9 : List Value) (p10 : List (Value × List Value)) (J5 : IMem), speculumref11_then.l0 q x0 x1 l6 n14 = some o17 ∧ q ≤ k ∧ Has σ [(0, vx0), (1, vx1), (5, v7), (6, .int .i64 n14)] ∧ J3.le J5 ∧ Own J5 w (.av v7 64 1 a8 :: .fam 4 1 p10 :: F) ∧ Flat tRaw J5 a8 u9 ∧ MxR tBool J5 u9 p10 l6) ?_ ?_ k k _ _ (Nat.le_refl _) ⟨y1, 0, vy1_0, cy1_0, uy1_0, py1_0, J3, hl19, Nat.le_refl _, ⟨rfl, rfl, rfl, rfl, trivial⟩, (IMem.le.refl _), S, hy1_0, my1_0⟩)
    · rintro σ w ⟨l6, n14, v7, a8, u9, p10, J5, H, _⟩; cases H
    · rintro q15 σ w ⟨l6, n14, v7, a8, u9, p10, J5, H, hq29, hσ, hL16, S, h11, h12⟩
      have hx0 := hx0.mono hL16
      have hx1 := hx1.mono hL16
      have hI := hI.trans hL16
      have hG := hG.mono hL16
      rw [hσ.eq]
      rw [speculumref11_then.l0] at H
      refine FW.seq ?_
      refine FW.seq ?_
      refine FW.region ?_
      refine U rfl rfl (V (x_movV (v := .int .i64 n14) rfl) ?_)
      refine U rfl rfl (V (x_movV (v := vx0) rfl) ?_)
      refine U rfl rfl (V (x_lenD (r := (tSlice tBool)) tsl67 hx0) ?_)
      refine U rfl rfl (V (x_bin rfl rfl rfl) ?_)
      by_cases cc30 : n14 < (x0.length : Int)
      · rw [if_pos cc30] at H
        refine FW.condT rfl (deT cc30) ?_
        refine FW.skip ?_
        refine FW.seq ?_
        refine FW.block ?_
        refine FW.seq ?_
        refine FW.region ?_
        refine U rfl rfl (V (x_movV (v := .int .i64 n14) rfl) ?_)
        refine U rfl rfl (V (x_asgV (v := .int .i64 n14) rfl) ?_)
        refine FW.block ?_
        obtain ⟨o43, hl45, HO44⟩ := obx H
        refine FW.cutX 2 (fun σ w => ∃ (l47 : (List (List Bool))) (v48 : Value) (a49 : List Value) (u50 : List Value) (p51 : List (Value × List Value)) (J46 : IMem), l47 = o43 ∧ Has σ [(0, vx0), (1, vx1), (5, v48), (6, .int .i64 n14)] ∧ J5.le J46 ∧ Own J46 w (.av v48 64 1 a49 :: .fam 4 1 p51 :: F) ∧ Flat tRaw J46 a49 u50 ∧ MxR tBool J46 u50 p51 l47) ?_ ?_
        ·
          refine FW.loop q15 (FL.ind (fun q σ w => ∃ (l32 : (List (List Bool))) (n40 : Int) (v33 : Value) (a34 : List Value) (u35 : List Value) (p36 : List (Value × List Value)) (J31 : IMem), speculumref11_then.l1 q x0 x1 n14 l32 n40 = some o43 ∧ q ≤ q15 ∧ Has σ [(0, vx0), (1, vx1), (5, v33), (6, .int .i64 n14), (7, .int .i64 n40)] ∧ J5.le J31 ∧ Own J31 w (.av v33 64 1 a34 :: .fam 4 1 p36 :: F) ∧ Flat tRaw J31 a34 u35 ∧ MxR tBool J31 u35 p36 l32) ?_ ?_ q15 q15 _ _ (Nat.le_refl _) ⟨l6, n14, v7, a8, u9, p10, J5, hl45, Nat.le_refl _, ⟨rfl, rfl, rfl, rfl, rfl, trivial⟩, (IMem.le.refl _), S, h11, h12⟩)
          · rintro σ w ⟨l32, n40, v33, a34, u35, p36, J31, H, _⟩; cases H
          · rintro q41 σ w ⟨l32, n40, v33, a34, u35, p36, J31, H, hq55, hσ, hL42, S, h37, h38⟩
            have hx0 := hx0.mono hL42
            have hx1 := hx1.mono hL42
            have hI := hI.trans hL42
            have hL16 := hL16.trans hL42
            have hG := hG.mono hL42
            rw [hσ.eq]
            rw [speculumref11_then.l1] at H
            refine FW.seq ?_
            refine FW.seq ?_
            refine FW.region ?_
            refine U rfl rfl (V (x_movV (v := .int .i64 n40) rfl) ?_)
            refine U rfl rfl (V (x_movV (v := vx0) rfl) ?_)
            refine U rfl rfl (V (x_lenD (r := (tSlice tBool)) tsl67 hx0) ?_)
            refine U rfl rfl (V (x_bin rfl rfl rfl) ?_)
            by_cases cc56 : n40 < (x0.length : Int)
            · rw [if_pos cc56] at H
              refine FW.condT rfl (deT cc56) ?_
              refine FW.skip ?_
              refine FW.seq ?_
              refine FW.block ?_
              refine FW.seq ?_
              refine FW.region ?_
              refine U rfl rfl (V (x_movV (v := .int .i64 n40) rfl) ?_)
              refine U rfl rfl (V (x_asgV (v := .int .i64 n40) rfl) ?_)
              refine FW.block ?_
              obtain ⟨o69, hl71, HO70⟩ := obx H
              refine FW.cutX 4 (fun σ w => ∃ (l73 : (List (List Bool))) (v74 : Value) (a75 : List Value) (u76 : List Value) (p77 : List (Value × List Value)) (J72 : IMem), l73 = o69 ∧ Has σ [(0, vx0), (1, vx1), (5, v74), (6, .int .i64 n14), (7, .int .i64 n40)] ∧ J31.le J72 ∧ Own J72 w (.av v74 64 1 a75 :: .fam 4 1 p77 :: F) ∧ Flat tRaw J72 a75 u76 ∧ MxR tBool J72 u76 p77 l73) ?_ ?_
              ·
                refine FW.loop q41 (FL.ind (fun q σ w => ∃ (l58 : (List (List Bool))) (n66 : Int) (v59 : Value) (a60 : List Value) (u61 : List Value) (p62 : List (Value × List Value)) (J57 : IMem), speculumref11_then.l2 q x0 x1 n14 n40 l58 n66 = some o69 ∧ q ≤ q41 ∧ Has σ [(0, vx0), (1, vx1), (5, v59), (6, .int .i64 n14), (7, .int .i64 n40), (8, .int .i64 n66)] ∧ J31.le J57 ∧ Own J57 w (.av v59 64 1 a60 :: .fam 4 1 p62 :: F) ∧ Flat tRaw J57 a60 u61 ∧ MxR tBool J57 u61 p62 l58) ?_ ?_ q41 q41 _ _ (Nat.le_refl _) ⟨l32, n40, v33, a34, u35, p36, J31, hl71, Nat.le_refl _, ⟨rfl, rfl, rfl, rfl, rfl, rfl, trivial⟩, (IMem.le.refl _), S, h37, h38⟩)
                · rintro σ w ⟨l58, n66, v59, a60, u61, p62, J57, H, _⟩; cases H
                · rintro q67 σ w ⟨l58, n66, v59, a60, u61, p62, J57, H, hq81, hσ, hL68, S, h63, h64⟩
                  have hx0 := hx0.mono hL68
                  have hx1 := hx1.mono hL68
                  have hI := hI.trans hL68
                  have hL16 := hL16.trans hL68
                  have hL42 := hL42.trans hL68
                  have hG := hG.mono hL68
                  rw [hσ.eq]
                  rw [speculumref11_then.l2] at H
                  refine FW.seq ?_
                  refine FW.seq ?_
                  refine FW.region ?_
                  refine U rfl rfl (V (x_movV (v := .int .i64 n66) rfl) ?_)
                  refine U rfl rfl (V (x_movV (v := vx0) rfl) ?_)
                  refine U rfl rfl (V (x_lenD (r := (tSlice tBool)) tsl67 hx0) ?_)
                  refine U rfl rfl (V (x_bin rfl rfl rfl) ?_)
                  refine U rfl rfl (V (x_movV (v := .bool (decide (n66 < (x0.length : Int)))) rfl) ?_)
                  by_cases cc82 : n66 < (x0.length : Int)
                  · rw [if_pos cc82] at H
                    refine OK.gt rfl rfl rfl (deT cc82) (V (x_movV (v := vx0) rfl) ?_)
                    refine OK.gt rfl rfl rfl (deT cc82) (V (x_movV (v := .int .i64 n14) rfl) ?_)
                    obtain ⟨y83, h84, H⟩ := obx H
                    refine OK.gt rfl rfl rfl (deT cc82) (o_ia (r := (tSlice tBool)) tsl67 rfl rfl hx0 rfl h84 fun b85 o86 cs87 hr88 hc89 => ?_)
                    obtain ⟨y83v, rfl, y83h⟩ := hr88
                    refine OK.gt rfl rfl rfl (deT cc82) (V (x_ld tsc64 rfl (S.cell _ _ _ (hc89 0 _ rfl))) ?_)
                    refine OK.gt rfl rfl rfl (deT cc82) (V (x_movV (v := .int .i64 n40) rfl) ?_)
                    obtain ⟨y90, h91, H⟩ := obx H
                    refine OK.gt rfl rfl rfl (deT cc82) (o_ia (r := tBool) tsl64 rfl rfl y83h rfl h91 fun b92 o93 cs94 hr95 hc96 => ?_)
                    obtain rfl := hr95
                    refine OK.gt rfl rfl rfl (deT cc82) (V (x_ld tsc4 rfl (S.cell _ _ _ (hc96 0 _ rfl))) ?_)
                    refine U rfl rfl (V (x_pickTV (v := .bool y90) rfl (deT cc82) rfl) ?_)
                    by_cases cc97 : y90 = true
                    · rw [if_pos cc97] at H
                      refine FW.condT rfl cc97 ?_
                      refine FW.skip ?_
                      refine FW.seq ?_
                      refine FW.block ?_
                      refine FW.anew [(0, vx0), (1, vx1), (5, v59), (6, .int .i64 n14), (7, .int .i64 n40), (8, .int .i64 n66)] ⟨rfl, rfl, rfl, rfl, rfl, rfl, trivial⟩ fun σ => ?_
                      have S := S.drew
                      refine FW.regionD mixed ?_
                      have hO := Hold.nil (w := { w with drawn := w.drawn + 1 })
                      refine AQ.pure 0 rfl (by kernel_rfl) (by kernel_rfl) (by kernel_rfl) rfl hO (fun w => x_movV (v := v59) rfl) ?_
                      refine AQ.pure 1 rfl (by kernel_rfl) (by kernel_rfl) (by kernel_rfl) rfl hO (fun w => x_movV (v := .int .i64 n14) rfl) ?_
                      obtain ⟨y98, h99, H⟩ := obx H
                      have S : Own J57 _ (.fam 4 1 p62 :: .av v59 64 1 a60 :: F) := (S.sel 2 [1, 0] rfl)
                      obtain ⟨v100, a101, hl102, hp103, h104, S⟩ := mx_at S h64 h99
                      refine AQ.pureE 2 rfl (by kernel_rfl) (by kernel_rfl) (by kernel_rfl) rfl hO (e_iaVD (r := tRaw) tsl67 rfl rfl S 2 rfl h63 rfl hl102) ?_
                      rintro _ ⟨b105, cs106, cc107, rfl, hv108, hr109, hc110⟩
                      obtain ⟨rfl, _⟩ := hr109
                      have hR111 := IMem.le.refl J57
                      refine AQ.take (S := Stab J57 [.av v59 64 1 a60]) 3 rfl (by kernel_rfl) (by kernel_rfl) (by kernel_rfl) rfl hO (Stab.of S 2 rfl hR111) (fun w hS => x_ld tsc64 rfl (hS.loadV 0 rfl hv108 (hc110 0 _ rfl))) fun hO => ?_
                      refine AQ.pure 4 rfl (by kernel_rfl) (by kernel_rfl) (by kernel_rfl) rfl hO (fun w => x_movV (v := .int .i64 n66) rfl) ?_
                      refine AQ.pure 5 rfl (by kernel_rfl) (by kernel_rfl) (by kernel_rfl) rfl hO (fun w => x_movV (v := v59) rfl) ?_
                      refine AQ.pure 6 rfl (by kernel_rfl) (by kernel_rfl) (by kernel_rfl) rfl hO (fun w => x_movV (v := .int .i64 n14) rfl) ?_
                      refine AQ.pureE 7 rfl (by kernel_rfl) (by kernel_rfl) (by kernel_rfl) rfl hO (e_iaVD (r := tRaw) tsl67 rfl rfl S 2 rfl h63 rfl hl102) ?_
                      rintro _ ⟨b112, cs113, cc114, rfl, hv115, hr116, hc117⟩
                      obtain ⟨rfl, _⟩ := hr116
                      refine AQ.take (S := Stab J57 [.av v59 64 1 a60]) 8 rfl (by kernel_rfl) (by kernel_rfl) (by kernel_rfl) rfl hO (Stab.of S 2 rfl hR111) (fun w hS => x_ld tsc64 rfl (hS.loadV 0 rfl hv115 (hc117 0 _ rfl))) fun hO => ?_
                      refine AQ.pure 9 rfl (by kernel_rfl) (by kernel_rfl) (by kernel_rfl) rfl hO (fun w => x_movV (v := .int .i64 n66) rfl) ?_
                      obtain ⟨y118, h119, H⟩ := obx H
                      refine AQ.pureE 10 rfl (by kernel_rfl) (by kernel_rfl) (by kernel_rfl) rfl hO (e_iaVD (r := tBool) tsl64 rfl rfl S 0 rfl h104 rfl h119) ?_
                      rintro _ ⟨b120, cs121, cc122, rfl, hv123, hr124, hc125⟩
                      obtain rfl := hr124
                      refine AQ.take (S := Stab J57 [.av v100 4 1 a101]) 11 rfl (by kernel_rfl) (by kernel_rfl) (by kernel_rfl) rfl hO (Stab.of S 0 rfl hR111) (fun w hS => x_ld tsc4 rfl (hS.loadV 0 rfl hv123 (hc125 0 _ rfl))) fun hO => ?_
                      refine AQ.pure 12 rfl (by kernel_rfl) (by kernel_rfl) (by kernel_rfl) rfl hO (fun w => x_movV (v := .bool y118) rfl) ?_
                      by_cases cc126 : y118 = true
                      · rw [if_pos cc126] at H
                        refine AQ.skip 13 rfl (by kernel_rfl) (by kernel_rfl) (by kernel_rfl) rfl rfl cc126 hO ?_
                        refine AQ.skip 14 rfl (by kernel_rfl) (by kernel_rfl) (by kernel_rfl) rfl rfl cc126 hO ?_
                        refine AQ.skip 15 rfl (by kernel_rfl) (by kernel_rfl) (by kernel_rfl) rfl rfl cc126 hO ?_
                        refine AQ.skip 16 rfl (by kernel_rfl) (by kernel_rfl) (by kernel_rfl) rfl rfl cc126 hO ?_
                        refine AQ.skip 17 rfl (by kernel_rfl) (by kernel_rfl) (by kernel_rfl) rfl rfl cc126 hO ?_
                        refine AQ.skip 18 rfl (by kernel_rfl) (by kernel_rfl) (by kernel_rfl) rfl rfl cc126 hO ?_
                        refine AQ.skip 19 rfl (by kernel_rfl) (by kernel_rfl) (by kernel_rfl) rfl rfl cc126 hO ?_
                        refine AQ.pure 20 rfl (by kernel_rfl) (by kernel_rfl) (by kernel_rfl) rfl hO (fun w => x_pickTV (v := .bool true) rfl cc126 rfl) ?_
                        obtain ⟨y127, h128, H⟩ := obx H
                        refine AQ.pureE 21 rfl (by kernel_rfl) (by kernel_rfl) (by kernel_rfl) rfl hO (e_iaVD (r := tBool) tsl64 rfl rfl S 0 rfl h104 rfl h128) ?_
                        rintro _ ⟨b129, cs130, cc131, rfl, hv132, hr133, hc134⟩
                        obtain rfl := hr133
                        refine AQ.one 22 [11, 8, 3] [false, false, false] (by kernel_rfl) rfl (by kernel_rfl) ?_
                        refine U rfl rfl (o_stV (r := tBool) (f := 0) (y' := true) tone4 rfl S 0 rfl hv132 h104 h128 rfl hc134 rfl rfl rfl rfl rfl fun w a135 S h136 => ?_)
                        refine andI Hold.nil fun hO => ?_
                        refine AQ.done (by kernel_rfl) ?_
                        obtain ⟨S, h137⟩ := mx_back S hp103 h64 h136
                        refine FW.anew [(0, vx0), (1, vx1), (5, v59), (6, .int .i64 n14), (7, .int .i64 n40), (8, .int .i64 n66)] ⟨rfl, rfl, rfl, rfl, rfl, rfl, trivial⟩ fun σ => ?_
                        refine FW.region ?_
                        refine U rfl rfl (V (x_movV (v := .int .i64 n66) rfl) ?_)
                        refine U rfl rfl (V (x_bin rfl rfl rfl) ?_)
                        refine U rfl rfl (V (x_asgV (v := .int .i64 (i64 (n66 + 1))) rfl) ?_)
                        exact ⟨q67, Nat.le_refl _, (l58.set (n14 : Int).toNat (y98.set n66.toNat true)), (i64 (n66 + 1)), v59, a60, u61, (p62.set (n14 : Int).toNat (v100, a135)), J57, H, (Nat.le_of_succ_le hq81), ⟨rfl, rfl, rfl, rfl, rfl, rfl, trivial⟩, hL68, (S.sel 2 [1, 0] rfl), h63, h137⟩
                      · rw [if_neg cc126] at H
                        refine AQ.pure 13 rfl (by kernel_rfl) (by kernel_rfl) (by kernel_rfl) (gT rfl rfl (vaF cc126)) hO (fun w => x_movV (v := vx1) rfl) ?_
                        refine AQ.pure 14 rfl (by kernel_rfl) (by kernel_rfl) (by kernel_rfl) (gT rfl rfl (vaF cc126)) hO (fun w => x_movV (v := .int .i64 n40) rfl) ?_
                        obtain ⟨y138, h139, H⟩ := obx H
                        refine AQ.pureE 15 rfl (by kernel_rfl) (by kernel_rfl) (by kernel_rfl) (gT rfl rfl (vaF cc126)) hO (e_ia (r := (tSlice tBool)) tsl67 rfl rfl hx1 rfl h139) ?_
                        rintro _ ⟨b140, o141, cs142, rfl, hr143, hc144⟩
                        obtain ⟨y138v, rfl, y138h⟩ := hr143
                        refine AQ.take (S := Stab J57 []) 16 rfl (by kernel_rfl) (by kernel_rfl) (by kernel_rfl) (gT rfl rfl (vaF cc126)) hO (Stab.nil S hR111) (fun w hS => x_ld tsc64 rfl (hS.cell _ _ _ (hc144 0 _ rfl))) fun hO => ?_
                        refine AQ.pure 17 rfl (by kernel_rfl) (by kernel_rfl) (by kernel_rfl) (gT rfl rfl (vaF cc126)) hO (fun w => x_movV (v := .int .i64 n66) rfl) ?_
                        obtain ⟨y145, h146, H⟩ := obx H
                        refine AQ.pureE 18 rfl (by kernel_rfl) (by kernel_rfl) (by kernel_rfl) (gT rfl rfl (vaF cc126)) hO (e_ia (r := tBool) tsl64 rfl rfl y138h rfl h146) ?_
                        rintro _ ⟨b147, o148, cs149, rfl, hr150, hc151⟩
                        obtain rfl := hr150
                        refine AQ.take (S := Stab J57 []) 19 rfl (by kernel_rfl) (by kernel_rfl) (by kernel_rfl) (gT rfl rfl (vaF cc126)) hO (Stab.nil S hR111) (fun w hS => x_ld tsc4 rfl (hS.cell _ _ _ (hc151 0 _ rfl))) fun hO => ?_
                        refine AQ.pure 20 rfl (by kernel_rfl) (by kernel_rfl) (by kernel_rfl) rfl hO (fun w => x_pickFV (v := .bool y145) rfl (vaF cc126) rfl) ?_
                        obtain ⟨y152, h153, H⟩ := obx H
                        refine AQ.pureE 21 rfl (by kernel_rfl) (by kernel_rfl) (by kernel_rfl) rfl hO (e_iaVD (r := tBool) tsl64 rfl rfl S 0 rfl h104 rfl h153) ?_
                        rintro _ ⟨b154, cs155, cc156, rfl, hv157, hr158, hc159⟩
                        obtain rfl := hr158
                        refine AQ.one 22 [19, 16, 11, 8, 3] [false, false, false, false, false] (by kernel_rfl) rfl (by kernel_rfl) ?_
                        refine U rfl rfl (o_stV (r := tBool) (f := 0) (y' := y145) tone4 rfl S 0 rfl hv157 h104 h153 rfl hc159 rfl rfl rfl rfl rfl fun w a160 S h161 => ?_)
                        refine andI Hold.nil fun hO => ?_
                        refine AQ.done (by kernel_rfl) ?_
                        obtain ⟨S, h162⟩ := mx_back S hp103 h64 h161
                        refine FW.anew [(0, vx0), (1, vx1), (5, v59), (6, .int .i64 n14), (7, .int .i64 n40), (8, .int .i64 n66)] ⟨rfl, rfl, rfl, rfl, rfl, rfl, trivial⟩ fun σ => ?_
                        refine FW.region ?_
                        refine U rfl rfl (V (x_movV (v := .int .i64 n66) rfl) ?_)
                        refine U rfl rfl (V (x_bin rfl rfl rfl) ?_)
                        refine U rfl rfl (V (x_asgV (v := .int .i64 (i64 (n66 + 1))) rfl) ?_)
                        exact ⟨q67, Nat.le_refl _, (l58.set (n14 : Int).toNat (y98.set n66.toNat y145)), (i64 (n66 + 1)), v59, a60, u61, (p62.set (n14 : Int).toNat (v100, a160)), J57, H, (Nat.le_of_succ_le hq81), ⟨rfl, rfl, rfl, rfl, rfl, rfl, trivial⟩, hL68, (S.sel 2 [1, 0] rfl), h63, h162⟩
                    · rw [if_neg cc97] at H
                      refine FW.condF rfl (vaF cc97) ?_
                      refine FW.exit ?_
                      exact ⟨l58, v59, a60, u61, p62, J57, (Option.some.inj H), ⟨rfl, rfl, rfl, rfl, rfl, trivial⟩, hL68, S, h63, h64⟩
                  · rw [if_neg cc82] at H
                    refine OK.gf rfl rfl rfl (deF cc82) ?_
                    refine OK.gf rfl rfl rfl (deF cc82) ?_
                    refine OK.gf rfl rfl rfl (deF cc82) ?_
                    refine OK.gf rfl rfl rfl (deF cc82) ?_
                    refine OK.gf rfl rfl rfl (deF cc82) ?_
                    refine OK.gf rfl rfl rfl (deF cc82) ?_
                    refine OK.gf rfl rfl rfl (deF cc82) ?_
                    refine U rfl rfl (V (x_pickFV (v := .bool false) rfl (deF cc82) rfl) ?_)
                    refine FW.condF rfl rfl ?_
                    refine FW.exit ?_
                    exact ⟨l58, v59, a60, u61, p62, J57, (Option.some.inj H), ⟨rfl, rfl, rfl, rfl, rfl, trivial⟩, hL68, S, h63, h64⟩
              · rintro σ w ⟨l73, v74, a75, u76, p77, J72, ho, hσ, hL68, S, h78, h79⟩
                subst ho
                have H := HO70
                have hx0 := hx0.mono hL68
                have hx1 := hx1.mono hL68
                have hI := hI.trans hL68
                have hL16 := hL16.trans hL68
                have hL42 := hL42.trans hL68
                have hG := hG.mono hL68
                rw [hσ.eq]
                refine FW.region ?_
                refine U rfl rfl (V (x_movV (v := .int .i64 n40) rfl) ?_)
                refine U rfl rfl (V (x_bin rfl rfl rfl) ?_)
                refine U rfl rfl (V (x_asgV (v := .int .i64 (i64 (n40 + 1))) rfl) ?_)
                exact ⟨q41, Nat.le_refl _, l73, (i64 (n40 + 1)), v74, a75, u76, p77, J72, H, (Nat.le_of_succ_le hq55), ⟨rfl, rfl, rfl, rfl, rfl, trivial⟩, hL42, S, h78, h79⟩
            · rw [if_neg cc56] at H
              refine FW.condF rfl (deF cc56) ?_
              refine FW.exit ?_
              exact ⟨l32, v33, a34, u35, p36, J31, (Option.some.inj H), ⟨rfl, rfl, rfl, rfl, trivial⟩, hL42, S, h37, h38⟩
        · rintro σ w ⟨l47, v48, a49, u50, p51, J46, ho, hσ, hL42, S, h52, h53⟩
          subst ho
          have H := HO44
          have hx0 := hx0.mono hL42
          have hx1 := hx1.mono hL42
          have hI := hI.trans hL42
          have hL16 := hL16.trans hL42
          have hG := hG.mono hL42
          rw [hσ.eq]
          refine FW.region ?_
          refine U rfl rfl (V (x_movV (v := .int .i64 n14) rfl) ?_)
          refine U rfl rfl (V (x_bin rfl rfl rfl) ?_)
          refine U rfl rfl (V (x_asgV (v := .int .i64 (i64 (n14 + 1))) rfl) ?_)
          exact ⟨q15, Nat.le_refl _, l47, (i64 (n14 + 1)), v48, a49, u50, p51, J46, H, (Nat.le_of_succ_le hq29), ⟨rfl, rfl, rfl, rfl, trivial⟩, hL16, S, h52, h53⟩
      · rw [if_neg cc30] at H
        refine FW.condF rfl (deF cc30) ?_
        refine FW.exit ?_
        exact ⟨l6, v7, a8, u9, p10, J5, (Option.some.inj H), ⟨rfl, trivial⟩, hL16, S, h11, h12⟩
  · rintro σ w ⟨l21, v22, a23, u24, p25, J20, ho, hσ, hL16, S, h26, h27⟩
    subst ho
    have H := HO18
    have hI := hI.trans hL16
    have hG := hG.mono hL16
    rw [hσ.eq]
    refine FW.seq ?_
    refine FW.region ?_
    refine U rfl rfl (V (x_movV (v := v22) rfl) ?_)
    refine U rfl rfl (V (x_asgV (v := v22) rfl) ?_)
    refine FW.ret ?_
    obtain rfl := Option.some.inj H
    exact ⟨_, ⟨_, rfl, rfl⟩, ⟨v22, a23, u24, p25, J20, hI, rfl, h26, h27, S⟩⟩
def speculumref11_either.l1 : Nat → (List (List Bool)) → (List (List Bool)) → Int → (List (List Bool)) → Int → Option (List (List Bool))
  | 0, _, _, _, _, _ => none
  | k + 1, x0, x1, n14, l32, n40 => (if n40 < (x0.length : Int) then ((lat l32 n14).bind fun y57 => ((lat x0 n14).bind fun y71 => ((lat y71 n40).bind fun y78 => (if y78 = true then ((lat y57 n40).bind fun y86 => (speculumref11_either.l1 k x0 x1 n14 (l32.set (n14 : Int).toNat (y57.set n40.toNat true)) (i64 (n40 + 1)))) else ((lat x1 n14).bind fun y97 => ((lat y97 n40).bind fun y104 => ((lat y57 n40).bind fun y111 => (speculumref11_either.l1 k x0 x1 n14 (l32.set (n14 : Int).toNat (y57.set n40.toNat y104)) (i64 (n40 + 1)))))))))) else (some l32))
def speculumref11_either.l0 : Nat → (List (List Bool)) → (List (List Bool)) → (List (List Bool)) → Int → Option (List (List Bool))
  | 0, _, _, _, _ => none
  | k + 1, x0, x1, l6, n14 => (if n14 < (x0.length : Int) then ((speculumref11_either.l1 k x0 x1 n14 l6 0).bind fun l47 => (speculumref11_either.l0 k x0 x1 l47 (i64 (n14 + 1)))) else (some l6))
def speculumref11_either.f (k : Nat) (x0 : (List (List Bool))) (x1 : (List (List Bool))) : Option (List (List Bool)) := ((speculumref11_still.f k (i64 ((x0.length : Int) - 1)) false).bind fun y1 => ((speculumref11_either.l0 k x0 x1 y1 0).bind fun l21 => (some l21)))
abbrev speculumref11_either.C (k : Nat) : Prop := ∀ {x0 : (List (List Bool))} {x1 : (List (List Bool))} {vx0 : Value} {vx1 : Value} {F : List It} {I : IMem} {w : World} {r : (List (List Bool))}, Glob I → Own I w (F) → SlR (tSlice tBool) I vx0 x0 → SlR (tSlice tBool) I vx1 x1 → speculumref11_either.f k x0 x1 = some r →
    Calls Tryd.prog 36 #[vx0, vx1] w fun e w' => ∃ v, e = .returned v ∧ ∃ (vy_0 : Value) (cy_0 : List Value) (uy_0 : List Value) (py_0 : List (Value × List Value)) (J : IMem), I.le J ∧ v = vy_0 ∧ Flat tRaw J cy_0 uy_0 ∧ MxR tBool J uy_0 py_0 r ∧ Own J w' (.av vy_0 64 1 cy_0 :: .fam 4 1 py_0 :: F)
theorem speculumref11_either.ok (k : Nat) : speculumref11_either.C k := by
  intro x0 x1 vx0 vx1 F I w r hG S hx0 hx1 H
  have hI := IMem.le.refl I
  rw [speculumref11_either.f] at H
  refine Calls.ofFW (args := [vx0, vx1]) Tryd.func36 rfl rfl ?_
  refine FW.seq ?_
  refine FW.region ?_
  refine U rfl rfl (V (x_asgV (v := (.slice none 0 0)) rfl) ?_)
  refine FW.seq ?_
  refine FW.region ?_
  refine U rfl rfl (V (x_movV (v := vx0) rfl) ?_)
  refine U rfl rfl (V (x_lenD (r := (tSlice tBool)) tsl67 hx0) ?_)
  refine U rfl rfl (V (x_bin rfl rfl rfl) ?_)
  obtain ⟨y1, hy2, H⟩ := obx H
  refine U rfl rfl (cl fb34 (@speculumref11_still.ok k (i64 ((x0.length : Int) - 1)) false _ _ _ _ hG S hy2) rfl ?_)
  rintro vy1_0 w ⟨vy1_0q, cy1_0, uy1_0, py1_0, J3, hJ4, rfl, hy1_0, my1_0, S⟩
  have hx0 := hx0.mono hJ4
  have hx1 := hx1.mono hJ4
  have hI := hI.trans hJ4
  have hG := hG.mono hJ4
  refine U rfl rfl (V (x_asgV (v := vy1_0) rfl) ?_)
  refine FW.seq ?_
  refine FW.seq ?_
  refine FW.region ?_
  refine U rfl rfl (V (x_asgV (v := .int .i64 0) rfl) ?_)
  refine FW.block ?_
  obtain ⟨o17, hl19, HO18⟩ := obx H
  refine FW.cutX 0 (fun σ w => ∃ (l21 : (List (List Bool))) (v22 : Value) (a23 : List Value) (u24 : List Value) (p25 : List (Value × List Value)) (J20 : IMem), l21 = o17 ∧ Has σ [(5, v22)] ∧ J3.le J20 ∧ Own J20 w (.av v22 64 1 a23 :: .fam 4 1 p25 :: F) ∧ Flat tRaw J20 a23 u24 ∧ MxR tBool J20 u24 p25 l21) ?_ ?_
  ·
    refine FW.loop k (FL.ind (fun q σ w => ∃ (l6 : (List (List Bool))) (n14 : Int) (v7 : Value) (a8 : List Value) (u9 : List Value) (p10 : List (Value × List Value)) (J5 : IMem), speculumref11_either.l0 q x0 x1 l6 n14 = some o17 ∧ q ≤ k ∧ Has σ [(0, vx0), (1, vx1), (5, v7), (6, .int .i64 n14)] ∧ J3.le J5 ∧ Own J5 w (.av v7 64 1 a8 :: .fam 4 1 p10 :: F) ∧ Flat tRaw J5 a8 u9 ∧ MxR tBool J5 u9 p10 l6) ?_ ?_ k k _ _ (Nat.le_refl _) ⟨y1, 0, vy1_0, cy1_0, uy1_0, py1_0, J3, hl19, Nat.le_refl _, ⟨rfl, rfl, rfl, rfl, trivial⟩, (IMem.le.refl _), S, hy1_0, my1_0⟩)
    · rintro σ w ⟨l6, n14, v7, a8, u9, p10, J5, H, _⟩; cases H
    · rintro q15 σ w ⟨l6, n14, v7, a8, u9, p10, J5, H, hq29, hσ, hL16, S, h11, h12⟩
      have hx0 := hx0.mono hL16
      have hx1 := hx1.mono hL16
      have hI := hI.trans hL16
      have hG := hG.mono hL16
      rw [hσ.eq]
      rw [speculumref11_either.l0] at H
      refine FW.seq ?_
      refine FW.seq ?_
      refine FW.region ?_
      refine U rfl rfl (V (x_movV (v := .int .i64 n14) rfl) ?_)
      refine U rfl rfl (V (x_movV (v := vx0) rfl) ?_)
      refine U rfl rfl (V (x_lenD (r := (tSlice tBool)) tsl67 hx0) ?_)
      refine U rfl rfl (V (x_bin rfl rfl rfl) ?_)
      by_cases cc30 : n14 < (x0.length : Int)
      · rw [if_pos cc30] at H
        refine FW.condT rfl (deT cc30) ?_
        refine FW.skip ?_
        refine FW.seq ?_
        refine FW.block ?_
        refine FW.seq ?_
        refine FW.region ?_
        refine U rfl rfl (V (x_asgV (v := .int .i64 0) rfl) ?_)
        refine FW.block ?_
        obtain ⟨o43, hl45, HO44⟩ := obx H
        refine FW.cutX 2 (fun σ w => ∃ (l47 : (List (List Bool))) (v48 : Value) (a49 : List Value) (u50 : List Value) (p51 : List (Value × List Value)) (J46 : IMem), l47 = o43 ∧ Has σ [(0, vx0), (1, vx1), (5, v48), (6, .int .i64 n14)] ∧ J5.le J46 ∧ Own J46 w (.av v48 64 1 a49 :: .fam 4 1 p51 :: F) ∧ Flat tRaw J46 a49 u50 ∧ MxR tBool J46 u50 p51 l47) ?_ ?_
        ·
          refine FW.loop q15 (FL.ind (fun q σ w => ∃ (l32 : (List (List Bool))) (n40 : Int) (v33 : Value) (a34 : List Value) (u35 : List Value) (p36 : List (Value × List Value)) (J31 : IMem), speculumref11_either.l1 q x0 x1 n14 l32 n40 = some o43 ∧ q ≤ q15 ∧ Has σ [(0, vx0), (1, vx1), (5, v33), (6, .int .i64 n14), (7, .int .i64 n40)] ∧ J5.le J31 ∧ Own J31 w (.av v33 64 1 a34 :: .fam 4 1 p36 :: F) ∧ Flat tRaw J31 a34 u35 ∧ MxR tBool J31 u35 p36 l32) ?_ ?_ q15 q15 _ _ (Nat.le_refl _) ⟨l6, 0, v7, a8, u9, p10, J5, hl45, Nat.le_refl _, ⟨rfl, rfl, rfl, rfl, rfl, trivial⟩, (IMem.le.refl _), S, h11, h12⟩)
          · rintro σ w ⟨l32, n40, v33, a34, u35, p36, J31, H, _⟩; cases H
          · rintro q41 σ w ⟨l32, n40, v33, a34, u35, p36, J31, H, hq55, hσ, hL42, S, h37, h38⟩
            have hx0 := hx0.mono hL42
            have hx1 := hx1.mono hL42
            have hI := hI.trans hL42
            have hL16 := hL16.trans hL42
            have hG := hG.mono hL42
            rw [hσ.eq]
            rw [speculumref11_either.l1] at H
            refine FW.seq ?_
            refine FW.seq ?_
            refine FW.region ?_
            refine U rfl rfl (V (x_movV (v := .int .i64 n40) rfl) ?_)
            refine U rfl rfl (V (x_movV (v := vx0) rfl) ?_)
            refine U rfl rfl (V (x_lenD (r := (tSlice tBool)) tsl67 hx0) ?_)
            refine U rfl rfl (V (x_bin rfl rfl rfl) ?_)
            by_cases cc56 : n40 < (x0.length : Int)
            · rw [if_pos cc56] at H
              refine FW.condT rfl (deT cc56) ?_
              refine FW.skip ?_
              refine FW.seq ?_
              refine FW.block ?_
              have S := S.drew
              refine FW.regionD mixed ?_
              have hO := Hold.nil (w := { w with drawn := w.drawn + 1 })
              refine AQ.pure 0 rfl (by kernel_rfl) (by kernel_rfl) (by kernel_rfl) rfl hO (fun w => x_movV (v := v33) rfl) ?_
              refine AQ.pure 1 rfl (by kernel_rfl) (by kernel_rfl) (by kernel_rfl) rfl hO (fun w => x_movV (v := .int .i64 n14) rfl) ?_
              obtain ⟨y57, h58, H⟩ := obx H
              have S : Own J31 _ (.fam 4 1 p36 :: .av v33 64 1 a34 :: F) := (S.sel 2 [1, 0] rfl)
              obtain ⟨v59, a60, hl61, hp62, h63, S⟩ := mx_at S h38 h58
              refine AQ.pureE 2 rfl (by kernel_rfl) (by kernel_rfl) (by kernel_rfl) rfl hO (e_iaVD (r := tRaw) tsl67 rfl rfl S 2 rfl h37 rfl hl61) ?_
              rintro _ ⟨b64, cs65, cc66, rfl, hv67, hr68, hc69⟩
              obtain ⟨rfl, _⟩ := hr68
              have hR70 := IMem.le.refl J31
              refine AQ.take (S := Stab J31 [.av v33 64 1 a34]) 3 rfl (by kernel_rfl) (by kernel_rfl) (by kernel_rfl) rfl hO (Stab.of S 2 rfl hR70) (fun w hS => x_ld tsc64 rfl (hS.loadV 0 rfl hv67 (hc69 0 _ rfl))) fun hO => ?_
              refine AQ.pure 4 rfl (by kernel_rfl) (by kernel_rfl) (by kernel_rfl) rfl hO (fun w => x_movV (v := .int .i64 n40) rfl) ?_
              refine AQ.pure 5 rfl (by kernel_rfl) (by kernel_rfl) (by kernel_rfl) rfl hO (fun w => x_movV (v := vx0) rfl) ?_
              refine AQ.pure 6 rfl (by kernel_rfl) (by kernel_rfl) (by kernel_rfl) rfl hO (fun w => x_movV (v := .int .i64 n14) rfl) ?_
              obtain ⟨y71, h72, H⟩ := obx H
              refine AQ.pureE 7 rfl (by kernel_rfl) (by kernel_rfl) (by kernel_rfl) rfl hO (e_ia (r := (tSlice tBool)) tsl67 rfl rfl hx0 rfl h72) ?_
              rintro _ ⟨b73, o74, cs75, rfl, hr76, hc77⟩
              obtain ⟨y71v, rfl, y71h⟩ := hr76
              refine AQ.take (S := Stab J31 []) 8 rfl (by kernel_rfl) (by kernel_rfl) (by kernel_rfl) rfl hO (Stab.nil S hR70) (fun w hS => x_ld tsc64 rfl (hS.cell _ _ _ (hc77 0 _ rfl))) fun hO => ?_
              refine AQ.pure 9 rfl (by kernel_rfl) (by kernel_rfl) (by kernel_rfl) rfl hO (fun w => x_movV (v := .int .i64 n40) rfl) ?_
              obtain ⟨y78, h79, H⟩ := obx H
              refine AQ.pureE 10 rfl (by kernel_rfl) (by kernel_rfl) (by kernel_rfl) rfl hO (e_ia (r := tBool) tsl64 rfl rfl y71h rfl h79) ?_
              rintro _ ⟨b80, o81, cs82, rfl, hr83, hc84⟩
              obtain rfl := hr83
              refine AQ.take (S := Stab J31 []) 11 rfl (by kernel_rfl) (by kernel_rfl) (by kernel_rfl) rfl hO (Stab.nil S hR70) (fun w hS => x_ld tsc4 rfl (hS.cell _ _ _ (hc84 0 _ rfl))) fun hO => ?_
              refine AQ.pure 12 rfl (by kernel_rfl) (by kernel_rfl) (by kernel_rfl) rfl hO (fun w => x_movV (v := .bool y78) rfl) ?_
              by_cases cc85 : y78 = true
              · rw [if_pos cc85] at H
                refine AQ.skip 13 rfl (by kernel_rfl) (by kernel_rfl) (by kernel_rfl) rfl rfl cc85 hO ?_
                refine AQ.skip 14 rfl (by kernel_rfl) (by kernel_rfl) (by kernel_rfl) rfl rfl cc85 hO ?_
                refine AQ.skip 15 rfl (by kernel_rfl) (by kernel_rfl) (by kernel_rfl) rfl rfl cc85 hO ?_
                refine AQ.skip 16 rfl (by kernel_rfl) (by kernel_rfl) (by kernel_rfl) rfl rfl cc85 hO ?_
                refine AQ.skip 17 rfl (by kernel_rfl) (by kernel_rfl) (by kernel_rfl) rfl rfl cc85 hO ?_
                refine AQ.skip 18 rfl (by kernel_rfl) (by kernel_rfl) (by kernel_rfl) rfl rfl cc85 hO ?_
                refine AQ.skip 19 rfl (by kernel_rfl) (by kernel_rfl) (by kernel_rfl) rfl rfl cc85 hO ?_
                refine AQ.pure 20 rfl (by kernel_rfl) (by kernel_rfl) (by kernel_rfl) rfl hO (fun w => x_pickTV (v := .bool true) rfl cc85 rfl) ?_
                obtain ⟨y86, h87, H⟩ := obx H
                refine AQ.pureE 21 rfl (by kernel_rfl) (by kernel_rfl) (by kernel_rfl) rfl hO (e_iaVD (r := tBool) tsl64 rfl rfl S 0 rfl h63 rfl h87) ?_
                rintro _ ⟨b88, cs89, cc90, rfl, hv91, hr92, hc93⟩
                obtain rfl := hr92
                refine AQ.one 22 [11, 8, 3] [false, false, false] (by kernel_rfl) rfl (by kernel_rfl) ?_
                refine U rfl rfl (o_stV (r := tBool) (f := 0) (y' := true) tone4 rfl S 0 rfl hv91 h63 h87 rfl hc93 rfl rfl rfl rfl rfl fun w a94 S h95 => ?_)
                refine andI Hold.nil fun hO => ?_
                refine AQ.done (by kernel_rfl) ?_
                obtain ⟨S, h96⟩ := mx_back S hp62 h38 h95
                refine FW.anew [(0, vx0), (1, vx1), (5, v33), (6, .int .i64 n14), (7, .int .i64 n40)] ⟨rfl, rfl, rfl, rfl, rfl, trivial⟩ fun σ => ?_
                refine FW.region ?_
                refine U rfl rfl (V (x_movV (v := .int .i64 n40) rfl) ?_)
                refine U rfl rfl (V (x_bin rfl rfl rfl) ?_)
                refine U rfl rfl (V (x_asgV (v := .int .i64 (i64 (n40 + 1))) rfl) ?_)
                exact ⟨q41, Nat.le_refl _, (l32.set (n14 : Int).toNat (y57.set n40.toNat true)), (i64 (n40 + 1)), v33, a34, u35, (p36.set (n14 : Int).toNat (v59, a94)), J31, H, (Nat.le_of_succ_le hq55), ⟨rfl, rfl, rfl, rfl, rfl, trivial⟩, hL42, (S.sel 2 [1, 0] rfl), h37, h96⟩
              · rw [if_neg cc85] at H
                refine AQ.pure 13 rfl (by kernel_rfl) (by kernel_rfl) (by kernel_rfl) (gT rfl rfl (vaF cc85)) hO (fun w => x_movV (v := vx1) rfl) ?_
                refine AQ.pure 14 rfl (by kernel_rfl) (by kernel_rfl) (by kernel_rfl) (gT rfl rfl (vaF cc85)) hO (fun w => x_movV (v := .int .i64 n14) rfl) ?_
                obtain ⟨y97, h98, H⟩ := obx H
                refine AQ.pureE 15 rfl (by kernel_rfl) (by kernel_rfl) (by kernel_rfl) (gT rfl rfl (vaF cc85)) hO (e_ia (r := (tSlice tBool)) tsl67 rfl rfl hx1 rfl h98) ?_
                rintro _ ⟨b99, o100, cs101, rfl, hr102, hc103⟩
                obtain ⟨y97v, rfl, y97h⟩ := hr102
                refine AQ.take (S := Stab J31 []) 16 rfl (by kernel_rfl) (by kernel_rfl) (by kernel_rfl) (gT rfl rfl (vaF cc85)) hO (Stab.nil S hR70) (fun w hS => x_ld tsc64 rfl (hS.cell _ _ _ (hc103 0 _ rfl))) fun hO => ?_
                refine AQ.pure 17 rfl (by kernel_rfl) (by kernel_rfl) (by kernel_rfl) (gT rfl rfl (vaF cc85)) hO (fun w => x_movV (v := .int .i64 n40) rfl) ?_
                obtain ⟨y104, h105, H⟩ := obx H
                refine AQ.pureE 18 rfl (by kernel_rfl) (by kernel_rfl) (by kernel_rfl) (gT rfl rfl (vaF cc85)) hO (e_ia (r := tBool) tsl64 rfl rfl y97h rfl h105) ?_
                rintro _ ⟨b106, o107, cs108, rfl, hr109, hc110⟩
                obtain rfl := hr109
                refine AQ.take (S := Stab J31 []) 19 rfl (by kernel_rfl) (by kernel_rfl) (by kernel_rfl) (gT rfl rfl (vaF cc85)) hO (Stab.nil S hR70) (fun w hS => x_ld tsc4 rfl (hS.cell _ _ _ (hc110 0 _ rfl))) fun hO => ?_
                refine AQ.pure 20 rfl (by kernel_rfl) (by kernel_rfl) (by kernel_rfl) rfl hO (fun w => x_pickFV (v := .bool y104) rfl (vaF cc85) rfl) ?_
                obtain ⟨y111, h112, H⟩ := obx H
                refine AQ.pureE 21 rfl (by kernel_rfl) (by kernel_rfl) (by kernel_rfl) rfl hO (e_iaVD (r := tBool) tsl64 rfl rfl S 0 rfl h63 rfl h112) ?_
                rintro _ ⟨b113, cs114, cc115, rfl, hv116, hr117, hc118⟩
                obtain rfl := hr117
                refine AQ.one 22 [19, 16, 11, 8, 3] [false, false, false, false, false] (by kernel_rfl) rfl (by kernel_rfl) ?_
                refine U rfl rfl (o_stV (r := tBool) (f := 0) (y' := y104) tone4 rfl S 0 rfl hv116 h63 h112 rfl hc118 rfl rfl rfl rfl rfl fun w a119 S h120 => ?_)
                refine andI Hold.nil fun hO => ?_
                refine AQ.done (by kernel_rfl) ?_
                obtain ⟨S, h121⟩ := mx_back S hp62 h38 h120
                refine FW.anew [(0, vx0), (1, vx1), (5, v33), (6, .int .i64 n14), (7, .int .i64 n40)] ⟨rfl, rfl, rfl, rfl, rfl, trivial⟩ fun σ => ?_
                refine FW.region ?_
                refine U rfl rfl (V (x_movV (v := .int .i64 n40) rfl) ?_)
                refine U rfl rfl (V (x_bin rfl rfl rfl) ?_)
                refine U rfl rfl (V (x_asgV (v := .int .i64 (i64 (n40 + 1))) rfl) ?_)
                exact ⟨q41, Nat.le_refl _, (l32.set (n14 : Int).toNat (y57.set n40.toNat y104)), (i64 (n40 + 1)), v33, a34, u35, (p36.set (n14 : Int).toNat (v59, a119)), J31, H, (Nat.le_of_succ_le hq55), ⟨rfl, rfl, rfl, rfl, rfl, trivial⟩, hL42, (S.sel 2 [1, 0] rfl), h37, h121⟩
            · rw [if_neg cc56] at H
              refine FW.condF rfl (deF cc56) ?_
              refine FW.exit ?_
              exact ⟨l32, v33, a34, u35, p36, J31, (Option.some.inj H), ⟨rfl, rfl, rfl, rfl, trivial⟩, hL42, S, h37, h38⟩
        · rintro σ w ⟨l47, v48, a49, u50, p51, J46, ho, hσ, hL42, S, h52, h53⟩
          subst ho
          have H := HO44
          have hx0 := hx0.mono hL42
          have hx1 := hx1.mono hL42
          have hI := hI.trans hL42
          have hL16 := hL16.trans hL42
          have hG := hG.mono hL42
          rw [hσ.eq]
          refine FW.region ?_
          refine U rfl rfl (V (x_movV (v := .int .i64 n14) rfl) ?_)
          refine U rfl rfl (V (x_bin rfl rfl rfl) ?_)
          refine U rfl rfl (V (x_asgV (v := .int .i64 (i64 (n14 + 1))) rfl) ?_)
          exact ⟨q15, Nat.le_refl _, l47, (i64 (n14 + 1)), v48, a49, u50, p51, J46, H, (Nat.le_of_succ_le hq29), ⟨rfl, rfl, rfl, rfl, trivial⟩, hL16, S, h52, h53⟩
      · rw [if_neg cc30] at H
        refine FW.condF rfl (deF cc30) ?_
        refine FW.exit ?_
        exact ⟨l6, v7, a8, u9, p10, J5, (Option.some.inj H), ⟨rfl, trivial⟩, hL16, S, h11, h12⟩
  · rintro σ w ⟨l21, v22, a23, u24, p25, J20, ho, hσ, hL16, S, h26, h27⟩
    subst ho
    have H := HO18
    have hI := hI.trans hL16
    have hG := hG.mono hL16
    rw [hσ.eq]
    refine FW.seq ?_
    refine FW.region ?_
    refine U rfl rfl (V (x_movV (v := v22) rfl) ?_)
    refine U rfl rfl (V (x_asgV (v := v22) rfl) ?_)
    refine FW.ret ?_
    obtain rfl := Option.some.inj H
    exact ⟨_, ⟨_, rfl, rfl⟩, ⟨v22, a23, u24, p25, J20, hI, rfl, h26, h27, S⟩⟩
def speculumref11_Node_in.l0 : Nat → T_speculumref11_Node → Int → Int → Option (Sum Bool Unit)
  | 0, _, _, _ => none
  | k + 1, x0, x1, n3 => (if n3 < (x0.From.length : Int) then ((lat x0.From n3).bind fun y12 => (if x1 ≥ y12 then ((lat x0.To n3).bind fun y20 => (if x1 ≤ y20 then (some (.inl (!x0.Not))) else (speculumref11_Node_in.l0 k x0 x1 (i64 (n3 + 1))))) else (speculumref11_Node_in.l0 k x0 x1 (i64 (n3 + 1))))) else (some (.inr ())))
def speculumref11_Node_in.f (k : Nat) (x0 : T_speculumref11_Node) (x1 : Int) : Option Bool := (((speculumref11_Node_in.l0 k x0 x1 0) : Option (Sum Bool Unit)).bind fun o => match o with | .inl r => some r | .inr _ => (some x0.Not))
abbrev speculumref11_Node_in.C (k : Nat) : Prop := ∀ {x0 : T_speculumref11_Node} {x1 : Int} {x0v1 : Value} {x0v2 : Value} {x0v3 : Value} {F : List It} {I : IMem} {w : World} {r : Bool}, Glob I → Own I w (F) → SlR (tInt' .i64) I x0v1 x0.Kids → SlR (tInt' .i64) I x0v2 x0.From → SlR (tInt' .i64) I x0v3 x0.To → speculumref11_Node_in.f k x0 x1 = some r →
    Calls Tryd.prog 37 #[.agg #[.int .u8 x0.Kind, x0v1, x0v2, x0v3, .bool x0.Not, .bool x0.Num], .int .i64 x1] w fun e w' => ∃ v, e = .returned v ∧ v = .bool r ∧ Own I w' (F)
theorem speculumref11_Node_in.ok (k : Nat) : speculumref11_Node_in.C k := by
  intro x0 x1 x0v1 x0v2 x0v3 F I w r hG S x0h1 x0h2 x0h3 H
  have hI := IMem.le.refl I
  rw [speculumref11_Node_in.f] at H
  refine Calls.ofFW (args := [.agg #[.int .u8 x0.Kind, x0v1, x0v2, x0v3, .bool x0.Not, .bool x0.Num], .int .i64 x1]) Tryd.func37 rfl rfl ?_
  refine FW.seq ?_
  refine FW.region ?_
  refine U rfl rfl (o_boxA rfl S fun b1 w S => ?_)
  refine U rfl rfl (V (x_asgV (v := .bool false) rfl) ?_)
  refine FW.seq ?_
  refine FW.seq ?_
  refine FW.region ?_
  refine U rfl rfl (V (x_asgV (v := .int .i64 0) rfl) ?_)
  refine FW.block ?_
  obtain ⟨o6, hl8, HO7⟩ := obx H
  refine FW.cutX 0 (fun σ w => ∃ (J9 : IMem), (.inr ()) = o6 ∧ Has σ [(2, .pointer (some ⟨b1, 0, none⟩))] ∧ I.le J9 ∧ Own J9 w (.bk b1 77 [.int .u8 x0.Kind, x0v1, x0v2, x0v3, .bool x0.Not, .bool x0.Num] :: F)) ?_ ?_
  ·
    refine FW.loop k (FL.ind (fun q σ w => ∃ (n3 : Int) (J2 : IMem), speculumref11_Node_in.l0 q x0 x1 n3 = some o6 ∧ q ≤ k ∧ Has σ [(1, .int .i64 x1), (2, .pointer (some ⟨b1, 0, none⟩)), (5, .int .i64 n3)] ∧ I.le J2 ∧ Own J2 w (.bk b1 77 [.int .u8 x0.Kind, x0v1, x0v2, x0v3, .bool x0.Not, .bool x0.Num] :: F)) ?_ ?_ k k _ _ (Nat.le_refl _) ⟨0, I, hl8, Nat.le_refl _, ⟨rfl, rfl, rfl, trivial⟩, (IMem.le.refl _), S⟩)
    · rintro σ w ⟨n3, J2, H, _⟩; cases H
    · rintro q4 σ w ⟨n3, J2, H, hq10, hσ, hL5, S⟩
      have x0h1 := x0h1.mono hL5
      have x0h2 := x0h2.mono hL5
      have x0h3 := x0h3.mono hL5
      have hI := hI.trans hL5
      have hG := hG.mono hL5
      rw [hσ.eq]
      rw [speculumref11_Node_in.l0] at H
      refine FW.seq ?_
      refine FW.seq ?_
      refine FW.region ?_
      refine U rfl rfl (V (x_movV (v := .int .i64 n3) rfl) ?_)
      refine U rfl rfl (V (x_fa tf77_2 rfl) ?_)
      refine U rfl rfl (V (x_ld tsc75 rfl (S.load 0 rfl 2 rfl)) ?_)
      refine U rfl rfl (V (x_lenD (r := (tInt' .i64)) tsl75 x0h2) ?_)
      refine U rfl rfl (V (x_bin rfl rfl rfl) ?_)
      by_cases cc11 : n3 < (x0.From.length : Int)
      · rw [if_pos cc11] at H
        refine FW.condT rfl (deT cc11) ?_
        refine FW.skip ?_
        refine FW.seq ?_
        refine FW.block ?_
        refine FW.seq ?_
        refine FW.region ?_
        refine U rfl rfl (V (x_movV (v := .int .i64 x1) rfl) ?_)
        refine U rfl rfl (V (x_fa tf77_2 rfl) ?_)
        refine U rfl rfl (V (x_ld tsc75 rfl (S.load 0 rfl 2 rfl)) ?_)
        refine U rfl rfl (V (x_movV (v := .int .i64 n3) rfl) ?_)
        obtain ⟨y12, h13, H⟩ := obx H
        refine U rfl rfl (o_ia (r := (tInt' .i64)) tsl75 rfl rfl x0h2 rfl h13 fun b14 o15 cs16 hr17 hc18 => ?_)
        obtain rfl := hr17
        refine U rfl rfl (V (x_ld tsc3 rfl (S.cell _ _ _ (hc18 0 _ rfl))) ?_)
        refine U rfl rfl (V (x_bin rfl rfl rfl) ?_)
        refine U rfl rfl (V (x_movV (v := .bool (decide (x1 ≥ y12))) rfl) ?_)
        by_cases cc19 : x1 ≥ y12
        · rw [if_pos cc19] at H
          refine OK.gt rfl rfl rfl (deT cc19) (V (x_movV (v := .int .i64 x1) rfl) ?_)
          refine OK.gt rfl rfl rfl (deT cc19) (V (x_fa tf77_3 rfl) ?_)
          refine OK.gt rfl rfl rfl (deT cc19) (V (x_ld tsc75 rfl (S.load 0 rfl 3 rfl)) ?_)
          refine OK.gt rfl rfl rfl (deT cc19) (V (x_movV (v := .int .i64 n3) rfl) ?_)
          obtain ⟨y20, h21, H⟩ := obx H
          refine OK.gt rfl rfl rfl (deT cc19) (o_ia (r := (tInt' .i64)) tsl75 rfl rfl x0h3 rfl h21 fun b22 o23 cs24 hr25 hc26 => ?_)
          obtain rfl := hr25
          refine OK.gt rfl rfl rfl (deT cc19) (V (x_ld tsc3 rfl (S.cell _ _ _ (hc26 0 _ rfl))) ?_)
          refine OK.gt rfl rfl rfl (deT cc19) (V (x_bin rfl rfl rfl) ?_)
          refine U rfl rfl (V (x_pickTV (v := .bool (decide (x1 ≤ y20))) rfl (deT cc19) rfl) ?_)
          by_cases cc27 : x1 ≤ y20
          · rw [if_pos cc27] at H
            refine FW.condT rfl (deT cc27) ?_
            refine FW.seq ?_
            refine FW.anew [(2, .pointer (some ⟨b1, 0, none⟩))] ⟨rfl, trivial⟩ fun σ => ?_
            refine FW.region ?_
            refine U rfl rfl (V (x_fa tf77_4 rfl) ?_)
            refine U rfl rfl (V (x_ld tsc4 rfl (S.load 0 rfl 4 rfl)) ?_)
            refine U rfl rfl (V (x_not' rfl) ?_)
            refine U rfl rfl (V (x_asgV (v := .bool (!x0.Not)) rfl) ?_)
            refine FW.ret ?_
            obtain rfl := Option.some.inj H
            obtain rfl := Option.some.inj HO7
            exact ⟨_, ⟨_, rfl, rfl⟩, ⟨rfl, ((S.sel 1 [] rfl).weaken hI)⟩⟩
          · rw [if_neg cc27] at H
            refine FW.condF rfl (deF cc27) ?_
            refine FW.skip ?_
            refine FW.anew [(1, .int .i64 x1), (2, .pointer (some ⟨b1, 0, none⟩)), (5, .int .i64 n3)] ⟨rfl, rfl, rfl, trivial⟩ fun σ => ?_
            refine FW.region ?_
            refine U rfl rfl (V (x_movV (v := .int .i64 n3) rfl) ?_)
            refine U rfl rfl (V (x_bin rfl rfl rfl) ?_)
            refine U rfl rfl (V (x_asgV (v := .int .i64 (i64 (n3 + 1))) rfl) ?_)
            exact ⟨q4, Nat.le_refl _, (i64 (n3 + 1)), J2, H, (Nat.le_of_succ_le hq10), ⟨rfl, rfl, rfl, trivial⟩, hL5, S⟩
        · rw [if_neg cc19] at H
          refine OK.gf rfl rfl rfl (deF cc19) ?_
          refine OK.gf rfl rfl rfl (deF cc19) ?_
          refine OK.gf rfl rfl rfl (deF cc19) ?_
          refine OK.gf rfl rfl rfl (deF cc19) ?_
          refine OK.gf rfl rfl rfl (deF cc19) ?_
          refine OK.gf rfl rfl rfl (deF cc19) ?_
          refine OK.gf rfl rfl rfl (deF cc19) ?_
          refine U rfl rfl (V (x_pickFV (v := .bool false) rfl (deF cc19) rfl) ?_)
          refine FW.condF rfl rfl ?_
          refine FW.skip ?_
          refine FW.anew [(1, .int .i64 x1), (2, .pointer (some ⟨b1, 0, none⟩)), (5, .int .i64 n3)] ⟨rfl, rfl, rfl, trivial⟩ fun σ => ?_
          refine FW.region ?_
          refine U rfl rfl (V (x_movV (v := .int .i64 n3) rfl) ?_)
          refine U rfl rfl (V (x_bin rfl rfl rfl) ?_)
          refine U rfl rfl (V (x_asgV (v := .int .i64 (i64 (n3 + 1))) rfl) ?_)
          exact ⟨q4, Nat.le_refl _, (i64 (n3 + 1)), J2, H, (Nat.le_of_succ_le hq10), ⟨rfl, rfl, rfl, trivial⟩, hL5, S⟩
      · rw [if_neg cc11] at H
        refine FW.condF rfl (deF cc11) ?_
        refine FW.exit ?_
        exact ⟨J2, (Option.some.inj H), ⟨rfl, trivial⟩, hL5, S⟩
  · rintro σ w ⟨J9, ho, hσ, hL5, S⟩
    subst ho
    have H := HO7
    try dsimp only at H
    have x0h1 := x0h1.mono hL5
    have x0h2 := x0h2.mono hL5
    have x0h3 := x0h3.mono hL5
    have hI := hI.trans hL5
    have hG := hG.mono hL5
    rw [hσ.eq]
    refine FW.seq ?_
    refine FW.region ?_
    refine U rfl rfl (V (x_fa tf77_4 rfl) ?_)
    refine U rfl rfl (V (x_ld tsc4 rfl (S.load 0 rfl 4 rfl)) ?_)
    refine U rfl rfl (V (x_asgV (v := .bool x0.Not) rfl) ?_)
    refine FW.ret ?_
    obtain rfl := Option.some.inj H
    exact ⟨_, ⟨_, rfl, rfl⟩, ⟨rfl, ((S.sel 1 [] rfl).weaken hI)⟩⟩
end Go.Proofs.YtkkflfmonidepaaDoor
