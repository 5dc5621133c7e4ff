/-
  PRINTED FUNCTIONS 2: regex_signs, regex_reader_peek, regex_reader_next, regex_reader_repeats.
-/
import Derived.Test.YtkkflfmonidepaaDoorF1
namespace Go.Proofs.YtkkflfmonidepaaDoor
open Sp
set_option maxRecDepth 100000
set_option maxHeartbeats 4000000
def regex_signs.l0 : Nat → ByteArray → Nat → Int → (List T_regex_sign) → Option (Sum ((List T_regex_sign) × Bool) (Nat × Int × (List T_regex_sign)))
  | 0, _, _, _, _ => none
  | k + 1, x0, p7, n8, l9 => (if p7 < x0.size then (if (runeAt x0 p7) ≥ 48 then (if (runeAt x0 p7) ≤ 57 then ((if n8 < 0 then (some ((p7 : Nat) : Int)) else (some n8)).bind fun n28 => (regex_signs.l0 k x0 (p7 + runeW x0 p7) n28 l9)) else ((regex_signs_1.f k ((p7 : Nat) : Int) n8 x0 l9).bind fun y33 => (if y33.1 = true then ((if (runeAt x0 p7) = 32 then (some ((runeAt x0 p7) == 32)) else (some ((runeAt x0 p7) == 95))).bind fun b39 => (if b39 = true then ((app 12 y33.2.2 [(T_regex_sign.mk 32 0 false)]).bind fun l49 => (regex_signs.l0 k x0 (p7 + runeW x0 p7) y33.2.1 l49)) else (if (runeAt x0 p7) = 124 then ((app 12 y33.2.2 [(T_regex_sign.mk (runeAt x0 p7) 0 false)]).bind fun l60 => (regex_signs.l0 k x0 (p7 + runeW x0 p7) y33.2.1 l60)) else (if (runeAt x0 p7) = 40 then ((app 12 y33.2.2 [(T_regex_sign.mk (runeAt x0 p7) 0 false)]).bind fun l71 => (regex_signs.l0 k x0 (p7 + runeW x0 p7) y33.2.1 l71)) else (if (runeAt x0 p7) = 41 then ((app 12 y33.2.2 [(T_regex_sign.mk (runeAt x0 p7) 0 false)]).bind fun l82 => (regex_signs.l0 k x0 (p7 + runeW x0 p7) y33.2.1 l82)) else (if (runeAt x0 p7) = 91 then ((app 12 y33.2.2 [(T_regex_sign.mk (runeAt x0 p7) 0 false)]).bind fun l93 => (regex_signs.l0 k x0 (p7 + runeW x0 p7) y33.2.1 l93)) else (if (runeAt x0 p7) = 93 then ((app 12 y33.2.2 [(T_regex_sign.mk (runeAt x0 p7) 0 false)]).bind fun l104 => (regex_signs.l0 k x0 (p7 + runeW x0 p7) y33.2.1 l104)) else (if (runeAt x0 p7) = 94 then ((app 12 y33.2.2 [(T_regex_sign.mk (runeAt x0 p7) 0 false)]).bind fun l115 => (regex_signs.l0 k x0 (p7 + runeW x0 p7) y33.2.1 l115)) else (if (runeAt x0 p7) = 36 then ((app 12 y33.2.2 [(T_regex_sign.mk (runeAt x0 p7) 0 false)]).bind fun l126 => (regex_signs.l0 k x0 (p7 + runeW x0 p7) y33.2.1 l126)) else (if (runeAt x0 p7) = 46 then ((app 12 y33.2.2 [(T_regex_sign.mk (runeAt x0 p7) 0 false)]).bind fun l137 => (regex_signs.l0 k x0 (p7 + runeW x0 p7) y33.2.1 l137)) else (if (runeAt x0 p7) = 42 then ((app 12 y33.2.2 [(T_regex_sign.mk (runeAt x0 p7) 0 false)]).bind fun l148 => (regex_signs.l0 k x0 (p7 + runeW x0 p7) y33.2.1 l148)) else (if (runeAt x0 p7) = 43 then ((app 12 y33.2.2 [(T_regex_sign.mk (runeAt x0 p7) 0 false)]).bind fun l159 => (regex_signs.l0 k x0 (p7 + runeW x0 p7) y33.2.1 l159)) else (if (runeAt x0 p7) = 63 then ((app 12 y33.2.2 [(T_regex_sign.mk (runeAt x0 p7) 0 false)]).bind fun l170 => (regex_signs.l0 k x0 (p7 + runeW x0 p7) y33.2.1 l170)) else (if (runeAt x0 p7) = 45 then ((app 12 y33.2.2 [(T_regex_sign.mk (runeAt x0 p7) 0 false)]).bind fun l181 => (regex_signs.l0 k x0 (p7 + runeW x0 p7) y33.2.1 l181)) else (if (runeAt x0 p7) = 44 then ((app 12 y33.2.2 [(T_regex_sign.mk (runeAt x0 p7) 0 false)]).bind fun l192 => (regex_signs.l0 k x0 (p7 + runeW x0 p7) y33.2.1 l192)) else (some (.inl ([], false)))))))))))))))))) else (some (.inl ([], false)))))) else ((regex_signs_1.f k ((p7 : Nat) : Int) n8 x0 l9).bind fun y200 => (if y200.1 = true then ((if (runeAt x0 p7) = 32 then (some ((runeAt x0 p7) == 32)) else (some ((runeAt x0 p7) == 95))).bind fun b206 => (if b206 = true then ((app 12 y200.2.2 [(T_regex_sign.mk 32 0 false)]).bind fun l216 => (regex_signs.l0 k x0 (p7 + runeW x0 p7) y200.2.1 l216)) else (if (runeAt x0 p7) = 124 then ((app 12 y200.2.2 [(T_regex_sign.mk (runeAt x0 p7) 0 false)]).bind fun l227 => (regex_signs.l0 k x0 (p7 + runeW x0 p7) y200.2.1 l227)) else (if (runeAt x0 p7) = 40 then ((app 12 y200.2.2 [(T_regex_sign.mk (runeAt x0 p7) 0 false)]).bind fun l238 => (regex_signs.l0 k x0 (p7 + runeW x0 p7) y200.2.1 l238)) else (if (runeAt x0 p7) = 41 then ((app 12 y200.2.2 [(T_regex_sign.mk (runeAt x0 p7) 0 false)]).bind fun l249 => (regex_signs.l0 k x0 (p7 + runeW x0 p7) y200.2.1 l249)) else (if (runeAt x0 p7) = 91 then ((app 12 y200.2.2 [(T_regex_sign.mk (runeAt x0 p7) 0 false)]).bind fun l260 => (regex_signs.l0 k x0 (p7 + runeW x0 p7) y200.2.1 l260)) else (if (runeAt x0 p7) = 93 then ((app 12 y200.2.2 [(T_regex_sign.mk (runeAt x0 p7) 0 false)]).bind fun l271 => (regex_signs.l0 k x0 (p7 + runeW x0 p7) y200.2.1 l271)) else (if (runeAt x0 p7) = 94 then ((app 12 y200.2.2 [(T_regex_sign.mk (runeAt x0 p7) 0 false)]).bind fun l282 => (regex_signs.l0 k x0 (p7 + runeW x0 p7) y200.2.1 l282)) else (if (runeAt x0 p7) = 36 then ((app 12 y200.2.2 [(T_regex_sign.mk (runeAt x0 p7) 0 false)]).bind fun l293 => (regex_signs.l0 k x0 (p7 + runeW x0 p7) y200.2.1 l293)) else (if (runeAt x0 p7) = 46 then ((app 12 y200.2.2 [(T_regex_sign.mk (runeAt x0 p7) 0 false)]).bind fun l304 => (regex_signs.l0 k x0 (p7 + runeW x0 p7) y200.2.1 l304)) else (if (runeAt x0 p7) = 42 then ((app 12 y200.2.2 [(T_regex_sign.mk (runeAt x0 p7) 0 false)]).bind fun l315 => (regex_signs.l0 k x0 (p7 + runeW x0 p7) y200.2.1 l315)) else (if (runeAt x0 p7) = 43 then ((app 12 y200.2.2 [(T_regex_sign.mk (runeAt x0 p7) 0 false)]).bind fun l326 => (regex_signs.l0 k x0 (p7 + runeW x0 p7) y200.2.1 l326)) else (if (runeAt x0 p7) = 63 then ((app 12 y200.2.2 [(T_regex_sign.mk (runeAt x0 p7) 0 false)]).bind fun l337 => (regex_signs.l0 k x0 (p7 + runeW x0 p7) y200.2.1 l337)) else (if (runeAt x0 p7) = 45 then ((app 12 y200.2.2 [(T_regex_sign.mk (runeAt x0 p7) 0 false)]).bind fun l348 => (regex_signs.l0 k x0 (p7 + runeW x0 p7) y200.2.1 l348)) else (if (runeAt x0 p7) = 44 then ((app 12 y200.2.2 [(T_regex_sign.mk (runeAt x0 p7) 0 false)]).bind fun l359 => (regex_signs.l0 k x0 (p7 + runeW x0 p7) y200.2.1 l359)) else (some (.inl ([], false)))))))))))))))))) else (some (.inl ([], false)))))) else (some (.inr (p7, n8, l9))))
def regex_signs.f (k : Nat) (x0 : ByteArray) : Option ((List T_regex_sign) × Bool) := (((regex_signs.l0 k x0 0 (-1) []) : Option (Sum ((List T_regex_sign) × Bool) (Nat × Int × (List T_regex_sign)))).bind fun o => match o with | .inl r => some r | .inr (p18, n19, l20) => ((regex_signs_1.f k (x0.size : Int) n19 x0 l20).bind fun y367 => (some (y367.2.2, y367.1))))
abbrev regex_signs.C (k : Nat) : Prop := ∀ {x0 : ByteArray} {F : List It} {I : IMem} {w : World} {r : (List T_regex_sign) × Bool}, Glob I → Own I w (F) → regex_signs.f k x0 = some r →
    Calls Tryd.prog 16 #[.string x0] w fun e w' => ∃ v, e = .returned v ∧ ∃ (vy_0 : Value) (J : IMem), I.le J ∧ v = .tuple #[vy_0, .bool r.2] ∧ SlR R_regex_sign J vy_0 r.1 ∧ Own J w' (.tv vy_0 51 3 :: F)
theorem regex_signs.ok (k : Nat) : regex_signs.C k := by
  intro x0 F I w r hG S H
  have hI := IMem.le.refl I
  rw [regex_signs.f] at H
  refine Calls.ofFW (args := [.string x0]) Tryd.func16 rfl rfl ?_
  refine FW.seq ?_
  refine FW.region ?_
  refine U rfl rfl (o_box rfl S fun b1 w S => ?_)
  refine U rfl rfl (V (x_asgV (v := (.slice none 0 0)) rfl) ?_)
  refine U rfl rfl (V (x_asgV (v := .bool false) rfl) ?_)
  refine FW.seq ?_
  refine FW.region ?_
  refine U rfl rfl (o_all tz39 S fun b2 w S => ?_)
  refine FW.seq ?_
  refine FW.region ?_
  refine U rfl rfl (o_all tz3 S fun b3 w S => ?_)
  refine U rfl rfl (o_st tone3 S 0 rfl rfl rfl rfl fun w S => ?_)
  refine FW.seq ?_
  refine FW.region ?_
  refine U rfl rfl (V (x_mkfL (l := [.pointer (some ⟨b3, 0, none⟩), .pointer (some ⟨b1, 0, none⟩), .pointer (some ⟨b2, 0, none⟩)]) rfl) ?_)
  refine U rfl rfl (V (x_asgV (v := .func (.func 26) #[] #[.pointer (some ⟨b3, 0, none⟩), .pointer (some ⟨b1, 0, none⟩), .pointer (some ⟨b2, 0, none⟩)]) rfl) ?_)
  refine FW.seq ?_
  refine FW.seq ?_
  refine FW.anew [(1, .pointer (some ⟨b1, 0, none⟩)), (4, .pointer (some ⟨b2, 0, none⟩)), (5, .pointer (some ⟨b3, 0, none⟩)), (6, .func (.func 26) #[] #[.pointer (some ⟨b3, 0, none⟩), .pointer (some ⟨b1, 0, none⟩), .pointer (some ⟨b2, 0, none⟩)])] ⟨rfl, rfl, rfl, rfl, trivial⟩ fun σ => ?_
  refine FW.region ?_
  refine U rfl rfl (V (x_ld tsc9 rfl (S.load 2 rfl 0 rfl)) ?_)
  refine U rfl rfl (o_rng tstr9 rfl S fun b4 w S => ?_)
  refine FW.block ?_
  have S := S.nil_tv 51 3
  obtain ⟨o14, hl16, HO15⟩ := obx H
  refine FW.cutX 0 (fun σ w => ∃ (p18 : Nat) (n19 : Int) (l20 : (List T_regex_sign)) (v21 : Value) (J17 : IMem), (.inr (p18, n19, l20)) = o14 ∧ Has σ [(1, .pointer (some ⟨b1, 0, none⟩)), (4, .pointer (some ⟨b2, 0, none⟩)), (6, .func (.func 26) #[] #[.pointer (some ⟨b3, 0, none⟩), .pointer (some ⟨b1, 0, none⟩), .pointer (some ⟨b2, 0, none⟩)])] ∧ I.le J17 ∧ Own J17 w (.tv v21 51 3 :: .ob b4 (.stringIter x0 p18) :: .bk b3 3 [.int .i64 n19] :: .bk b2 39 [v21] :: .bk b1 9 [.string x0] :: F) ∧ SlR R_regex_sign J17 v21 l20) ?_ ?_
  ·
    refine FW.loop k (FL.ind (fun q σ w => ∃ (p7 : Nat) (n8 : Int) (l9 : (List T_regex_sign)) (v10 : Value) (J6 : IMem), regex_signs.l0 q x0 p7 n8 l9 = some o14 ∧ q ≤ k ∧ Has σ [(1, .pointer (some ⟨b1, 0, none⟩)), (4, .pointer (some ⟨b2, 0, none⟩)), (5, .pointer (some ⟨b3, 0, none⟩)), (6, .func (.func 26) #[] #[.pointer (some ⟨b3, 0, none⟩), .pointer (some ⟨b1, 0, none⟩), .pointer (some ⟨b2, 0, none⟩)]), (13, .pointer (some ⟨b4, 0, none⟩))] ∧ I.le J6 ∧ Own J6 w (.tv v10 51 3 :: .ob b4 (.stringIter x0 p7) :: .bk b3 3 [.int .i64 n8] :: .bk b2 39 [v10] :: .bk b1 9 [.string x0] :: F) ∧ SlR R_regex_sign J6 v10 l9) ?_ ?_ k k _ _ (Nat.le_refl _) ⟨0, (-1), [], (.slice none 0 0), I, hl16, Nat.le_refl _, ⟨rfl, rfl, rfl, rfl, rfl, trivial⟩, (IMem.le.refl _), S, (SlR.nil _ _)⟩)
    · rintro σ w ⟨p7, n8, l9, v10, J6, H, _⟩; cases H
    · rintro q12 σ w ⟨p7, n8, l9, v10, J6, H, hq23, hσ, hL13, S, h11⟩
      have hI := hI.trans hL13
      have hG := hG.mono hL13
      rw [hσ.eq]
      rw [regex_signs.l0] at H
      refine FW.seq ?_
      refine FW.region ?_
      by_cases cc24 : p7 < x0.size
      · rw [if_pos cc24] at H
        refine U rfl rfl (o_nxtT S 1 rfl rfl cc24 fun w S => ?_)
        refine U rfl rfl (V (x_ext rfl rfl) ?_)
        refine FW.seq ?_
        refine FW.condT rfl rfl ?_
        refine FW.skip ?_
        refine FW.block ?_
        refine FW.seq ?_
        refine FW.region ?_
        refine U rfl rfl (V (x_ext rfl rfl) ?_)
        refine U rfl rfl (V (x_ext rfl rfl) ?_)
        refine U rfl rfl (V (x_asgV (v := .int .i64 ((p7 : Nat) : Int)) rfl) ?_)
        refine U rfl rfl (V (x_asgV (v := .int .i32 (runeAt x0 p7)) rfl) ?_)
        refine FW.seq ?_
        refine FW.seq ?_
        refine FW.region ?_
        refine U rfl rfl (V (x_movV (v := .int .i32 (runeAt x0 p7)) rfl) ?_)
        refine U rfl rfl (V (x_bin rfl rfl rfl) ?_)
        refine U rfl rfl (V (x_movV (v := .bool (decide ((runeAt x0 p7) ≥ 48))) rfl) ?_)
        by_cases cc25 : (runeAt x0 p7) ≥ 48
        · rw [if_pos cc25] at H
          refine OK.gt rfl rfl rfl (deT cc25) (V (x_movV (v := .int .i32 (runeAt x0 p7)) rfl) ?_)
          refine OK.gt rfl rfl rfl (deT cc25) (V (x_bin rfl rfl rfl) ?_)
          refine U rfl rfl (V (x_pickTV (v := .bool (decide ((runeAt x0 p7) ≤ 57))) rfl (deT cc25) rfl) ?_)
          by_cases cc26 : (runeAt x0 p7) ≤ 57
          · rw [if_pos cc26] at H
            refine FW.condT rfl (deT cc26) ?_
            refine FW.seq ?_
            refine FW.seq ?_
            refine FW.anew [(1, .pointer (some ⟨b1, 0, none⟩)), (4, .pointer (some ⟨b2, 0, none⟩)), (5, .pointer (some ⟨b3, 0, none⟩)), (6, .func (.func 26) #[] #[.pointer (some ⟨b3, 0, none⟩), .pointer (some ⟨b1, 0, none⟩), .pointer (some ⟨b2, 0, none⟩)]), (7, .int .i64 ((p7 : Nat) : Int)), (13, .pointer (some ⟨b4, 0, none⟩))] ⟨rfl, rfl, rfl, rfl, rfl, rfl, trivial⟩ fun σ => ?_
            refine FW.region ?_
            refine U rfl rfl (V (x_ld tsc3 rfl (S.load 2 rfl 0 rfl)) ?_)
            refine U rfl rfl (V (x_bin rfl rfl rfl) ?_)
            obtain ⟨o29, H, HO30⟩ := obx H
            have hL31 := IMem.le.refl J6
            refine FW.cutN (fun σ w => ∃ (n28 : Int) (J27 : IMem), n28 = o29 ∧ Has σ [(1, .pointer (some ⟨b1, 0, none⟩)), (4, .pointer (some ⟨b2, 0, none⟩)), (5, .pointer (some ⟨b3, 0, none⟩)), (6, .func (.func 26) #[] #[.pointer (some ⟨b3, 0, none⟩), .pointer (some ⟨b1, 0, none⟩), .pointer (some ⟨b2, 0, none⟩)]), (13, .pointer (some ⟨b4, 0, none⟩))] ∧ J6.le J27 ∧ Own J27 w (.tv v10 51 3 :: .ob b4 (.stringIter x0 (p7 + runeW x0 p7)) :: .bk b3 3 [.int .i64 n28] :: .bk b2 39 [v10] :: .bk b1 9 [.string x0] :: F)) ?_ ?_
            ·
              by_cases cc32 : n8 < 0
              · rw [if_pos cc32] at H
                refine FW.condT rfl (deT cc32) ?_
                refine FW.region ?_
                refine U rfl rfl (V (x_movV (v := .int .i64 ((p7 : Nat) : Int)) rfl) ?_)
                refine U rfl rfl (o_st tone3 S 2 rfl rfl rfl rfl fun w S => ?_)
                exact ⟨((p7 : Nat) : Int), J6, (Option.some.inj H), ⟨rfl, rfl, rfl, rfl, rfl, trivial⟩, hL31, S⟩
              · rw [if_neg cc32] at H
                refine FW.condF rfl (deF cc32) ?_
                refine FW.skip ?_
                exact ⟨n8, J6, (Option.some.inj H), ⟨rfl, rfl, rfl, rfl, rfl, trivial⟩, hL31, S⟩
            · rintro σ w ⟨n28, J27, ho, hσ, hL31, S⟩
              subst ho
              have H := HO30
              have h11 := h11.mono hL31
              have hI := hI.trans hL31
              have hL13 := hL13.trans hL31
              have hG := hG.mono hL31
              rw [hσ.eq]
              refine FW.exit ?_
              exact ⟨q12, Nat.le_refl _, (p7 + runeW x0 p7), n28, l9, v10, J27, H, (Nat.le_of_succ_le hq23), ⟨rfl, rfl, rfl, rfl, rfl, trivial⟩, hL13, S, h11⟩
          · rw [if_neg cc26] at H
            refine FW.condF rfl (deF cc26) ?_
            refine FW.skip ?_
            refine FW.seq ?_
            refine FW.seq ?_
            refine FW.anew [(1, .pointer (some ⟨b1, 0, none⟩)), (4, .pointer (some ⟨b2, 0, none⟩)), (5, .pointer (some ⟨b3, 0, none⟩)), (6, .func (.func 26) #[] #[.pointer (some ⟨b3, 0, none⟩), .pointer (some ⟨b1, 0, none⟩), .pointer (some ⟨b2, 0, none⟩)]), (7, .int .i64 ((p7 : Nat) : Int)), (8, .int .i32 (runeAt x0 p7)), (13, .pointer (some ⟨b4, 0, none⟩))] ⟨rfl, rfl, rfl, rfl, rfl, rfl, rfl, trivial⟩ fun σ => ?_
            refine FW.region ?_
            refine U rfl rfl (V (x_movV (v := .func (.func 26) #[] #[.pointer (some ⟨b3, 0, none⟩), .pointer (some ⟨b1, 0, none⟩), .pointer (some ⟨b2, 0, none⟩)]) rfl) ?_)
            refine U rfl rfl (V (x_movV (v := .int .i64 ((p7 : Nat) : Int)) rfl) ?_)
            obtain ⟨y33, hy34, H⟩ := obx H
            refine U rfl rfl (clv rfl fb26 (@regex_signs_1.ok q12 ((p7 : Nat) : Int) n8 x0 l9 _ _ _ _ _ _ _ _ hG (S.sel 5 [2, 4, 3, 0, 1] rfl) h11 hy34) rfl ?_)
            rintro _ w ⟨vy33_2, J35, hJ36, rfl, hy33_2, S⟩
            have hI := hI.trans hJ36
            have hL13 := hL13.trans hJ36
            have hG := hG.mono hJ36
            refine U rfl rfl (V (x_not' rfl) ?_)
            by_cases cc37 : y33.1 = true
            · rw [if_pos cc37] at H
              refine FW.condF rfl (noF cc37) ?_
              refine FW.skip ?_
              refine FW.seq ?_
              refine FW.region ?_
              refine U rfl rfl (V (x_movV (v := .int .i32 (runeAt x0 p7)) rfl) ?_)
              refine FW.block ?_
              refine FW.seq ?_
              refine FW.seq ?_
              refine FW.region ?_
              refine U rfl rfl (V (x_bin rfl rfl rfl) ?_)
              refine U rfl rfl (V (x_asgV (v := .bool ((runeAt x0 p7) == 32)) rfl) ?_)
              obtain ⟨o40, H, HO41⟩ := obx H
              have hL42 := IMem.le.refl J35
              refine FW.cutN (fun σ w => ∃ (b39 : Bool) (J38 : IMem), b39 = o40 ∧ Has σ [(1, .pointer (some ⟨b1, 0, none⟩)), (4, .pointer (some ⟨b2, 0, none⟩)), (5, .pointer (some ⟨b3, 0, none⟩)), (6, .func (.func 26) #[] #[.pointer (some ⟨b3, 0, none⟩), .pointer (some ⟨b1, 0, none⟩), .pointer (some ⟨b2, 0, none⟩)]), (8, .int .i32 (runeAt x0 p7)), (13, .pointer (some ⟨b4, 0, none⟩)), (31, .int .i32 (runeAt x0 p7)), (32, .bool b39)] ∧ J35.le J38 ∧ Own J38 w (.bk b3 3 [.int .i64 y33.2.1] :: .bk b1 9 [.string x0] :: .bk b2 39 [vy33_2] :: .tv vy33_2 51 3 :: .ob b4 (.stringIter x0 (p7 + runeW x0 p7)) :: F)) ?_ ?_
              ·
                by_cases cc43 : (runeAt x0 p7) = 32
                · rw [if_pos cc43] at H
                  refine FW.condT rfl (eqT cc43) ?_
                  refine FW.skip ?_
                  exact ⟨((runeAt x0 p7) == 32), J35, (Option.some.inj H), ⟨rfl, rfl, rfl, rfl, rfl, rfl, rfl, rfl, trivial⟩, hL42, S⟩
                · rw [if_neg cc43] at H
                  refine FW.condF rfl (eqF cc43) ?_
                  refine FW.anew [(1, .pointer (some ⟨b1, 0, none⟩)), (4, .pointer (some ⟨b2, 0, none⟩)), (5, .pointer (some ⟨b3, 0, none⟩)), (6, .func (.func 26) #[] #[.pointer (some ⟨b3, 0, none⟩), .pointer (some ⟨b1, 0, none⟩), .pointer (some ⟨b2, 0, none⟩)]), (8, .int .i32 (runeAt x0 p7)), (13, .pointer (some ⟨b4, 0, none⟩)), (31, .int .i32 (runeAt x0 p7))] ⟨rfl, rfl, rfl, rfl, rfl, rfl, rfl, trivial⟩ fun σ => ?_
                  refine FW.region ?_
                  refine U rfl rfl (V (x_bin rfl rfl rfl) ?_)
                  refine U rfl rfl (V (x_asgV (v := .bool ((runeAt x0 p7) == 95)) rfl) ?_)
                  exact ⟨((runeAt x0 p7) == 95), J35, (Option.some.inj H), ⟨rfl, rfl, rfl, rfl, rfl, rfl, rfl, rfl, trivial⟩, hL42, S⟩
              · rintro σ w ⟨b39, J38, ho, hσ, hL42, S⟩
                subst ho
                have H := HO41
                have hy33_2 := hy33_2.mono hL42
                have hI := hI.trans hL42
                have hL13 := hL13.trans hL42
                have hG := hG.mono hL42
                rw [hσ.eq]
                by_cases cc44 : b39 = true
                · rw [if_pos cc44] at H
                  refine FW.condT rfl cc44 ?_
                  refine FW.region ?_
                  refine U rfl rfl (V (x_ld tsc39 rfl (S.load 2 rfl 0 rfl)) ?_)
                  refine U rfl rfl (V (x_bld tz51 tpl51 rfl (.one rfl PC.nil) rfl) ?_)
                  refine U rfl rfl (o_bsl tsl39 tz51 rfl rfl rfl rfl (.agg PC.nil) rfl S fun b45 w S => ?_)
                  obtain ⟨J46, hJ48, S, h47⟩ := S.freeze (r := R_regex_sign) (l := [(T_regex_sign.mk 32 0 false)]) 0 rfl ⟨[.int .i32 32, .int .u32 0, .bool false], _, rfl, rfl, rfl⟩ rfl rfl
                  have hy33_2 := hy33_2.mono hJ48
                  have hI := hI.trans hJ48
                  have hL13 := hL13.trans hJ48
                  have hG := hG.mono hJ48
                  obtain ⟨l49, h51, H⟩ := obx H
                  refine U rfl rfl (o_appD (r := R_regex_sign) tsl39 rfl tz51 rfl rfl S 4 rfl rfl hy33_2 h47 h51 fun v50 w J53 hJ54 S h52 => ?_)
                  have hy33_2 := hy33_2.mono hJ54
                  have h47 := h47.mono hJ54
                  have hI := hI.trans hJ54
                  have hL13 := hL13.trans hJ54
                  have hG := hG.mono hJ54
                  refine U rfl rfl (o_st tone39 S 3 rfl rfl rfl h52.one fun w S => ?_)
                  exact ⟨q12, Nat.le_refl _, (p7 + runeW x0 p7), y33.2.1, l49, v50, J53, H, (Nat.le_of_succ_le hq23), ⟨rfl, rfl, rfl, rfl, rfl, trivial⟩, hL13, (S.sel 6 [4, 5, 1, 3, 2] rfl), h52⟩
                · rw [if_neg cc44] at H
                  refine FW.condF rfl (vaF cc44) ?_
                  refine FW.seq ?_
                  refine FW.seq ?_
                  refine FW.region ?_
                  refine U rfl rfl (V (x_bin rfl rfl rfl) ?_)
                  refine U rfl rfl (V (x_asgV (v := .bool ((runeAt x0 p7) == 124)) rfl) ?_)
                  by_cases cc55 : (runeAt x0 p7) = 124
                  · rw [if_pos cc55] at H
                    refine FW.condT rfl (eqT cc55) ?_
                    refine FW.skip ?_
                    refine FW.condT rfl (eqT cc55) ?_
                    refine FW.region ?_
                    refine U rfl rfl (V (x_ld tsc39 rfl (S.load 2 rfl 0 rfl)) ?_)
                    refine U rfl rfl (V (x_movV (v := .int .i32 (runeAt x0 p7)) rfl) ?_)
                    refine U rfl rfl (V (x_bld tz51 tpl51 rfl (.one rfl PC.nil) rfl) ?_)
                    refine U rfl rfl (o_bsl tsl39 tz51 rfl rfl rfl rfl (.agg PC.nil) rfl S fun b56 w S => ?_)
                    obtain ⟨J57, hJ59, S, h58⟩ := S.freeze (r := R_regex_sign) (l := [(T_regex_sign.mk (runeAt x0 p7) 0 false)]) 0 rfl ⟨[.int .i32 (runeAt x0 p7), .int .u32 0, .bool false], _, rfl, rfl, rfl⟩ rfl rfl
                    have hy33_2 := hy33_2.mono hJ59
                    have hI := hI.trans hJ59
                    have hL13 := hL13.trans hJ59
                    have hG := hG.mono hJ59
                    obtain ⟨l60, h62, H⟩ := obx H
                    refine U rfl rfl (o_appD (r := R_regex_sign) tsl39 rfl tz51 rfl rfl S 4 rfl rfl hy33_2 h58 h62 fun v61 w J64 hJ65 S h63 => ?_)
                    have hy33_2 := hy33_2.mono hJ65
                    have h58 := h58.mono hJ65
                    have hI := hI.trans hJ65
                    have hL13 := hL13.trans hJ65
                    have hG := hG.mono hJ65
                    refine U rfl rfl (o_st tone39 S 3 rfl rfl rfl h63.one fun w S => ?_)
                    exact ⟨q12, Nat.le_refl _, (p7 + runeW x0 p7), y33.2.1, l60, v61, J64, H, (Nat.le_of_succ_le hq23), ⟨rfl, rfl, rfl, rfl, rfl, trivial⟩, hL13, (S.sel 6 [4, 5, 1, 3, 2] rfl), h63⟩
                  · rw [if_neg cc55] at H
                    refine FW.condF rfl (eqF cc55) ?_
                    refine FW.seq ?_
                    refine FW.region ?_
                    refine U rfl rfl (V (x_bin rfl rfl rfl) ?_)
                    refine U rfl rfl (V (x_asgV (v := .bool ((runeAt x0 p7) == 40)) rfl) ?_)
                    by_cases cc66 : (runeAt x0 p7) = 40
                    · rw [if_pos cc66] at H
                      refine FW.condT rfl (eqT cc66) ?_
                      refine FW.skip ?_
                      refine FW.condT rfl (eqT cc66) ?_
                      refine FW.region ?_
                      refine U rfl rfl (V (x_ld tsc39 rfl (S.load 2 rfl 0 rfl)) ?_)
                      refine U rfl rfl (V (x_movV (v := .int .i32 (runeAt x0 p7)) rfl) ?_)
                      refine U rfl rfl (V (x_bld tz51 tpl51 rfl (.one rfl PC.nil) rfl) ?_)
                      refine U rfl rfl (o_bsl tsl39 tz51 rfl rfl rfl rfl (.agg PC.nil) rfl S fun b67 w S => ?_)
                      obtain ⟨J68, hJ70, S, h69⟩ := S.freeze (r := R_regex_sign) (l := [(T_regex_sign.mk (runeAt x0 p7) 0 false)]) 0 rfl ⟨[.int .i32 (runeAt x0 p7), .int .u32 0, .bool false], _, rfl, rfl, rfl⟩ rfl rfl
                      have hy33_2 := hy33_2.mono hJ70
                      have hI := hI.trans hJ70
                      have hL13 := hL13.trans hJ70
                      have hG := hG.mono hJ70
                      obtain ⟨l71, h73, H⟩ := obx H
                      refine U rfl rfl (o_appD (r := R_regex_sign) tsl39 rfl tz51 rfl rfl S 4 rfl rfl hy33_2 h69 h73 fun v72 w J75 hJ76 S h74 => ?_)
                      have hy33_2 := hy33_2.mono hJ76
                      have h69 := h69.mono hJ76
                      have hI := hI.trans hJ76
                      have hL13 := hL13.trans hJ76
                      have hG := hG.mono hJ76
                      refine U rfl rfl (o_st tone39 S 3 rfl rfl rfl h74.one fun w S => ?_)
                      exact ⟨q12, Nat.le_refl _, (p7 + runeW x0 p7), y33.2.1, l71, v72, J75, H, (Nat.le_of_succ_le hq23), ⟨rfl, rfl, rfl, rfl, rfl, trivial⟩, hL13, (S.sel 6 [4, 5, 1, 3, 2] rfl), h74⟩
                    · rw [if_neg cc66] at H
                      refine FW.condF rfl (eqF cc66) ?_
                      refine FW.seq ?_
                      refine FW.region ?_
                      refine U rfl rfl (V (x_bin rfl rfl rfl) ?_)
                      refine U rfl rfl (V (x_asgV (v := .bool ((runeAt x0 p7) == 41)) rfl) ?_)
                      by_cases cc77 : (runeAt x0 p7) = 41
                      · rw [if_pos cc77] at H
                        refine FW.condT rfl (eqT cc77) ?_
                        refine FW.skip ?_
                        refine FW.condT rfl (eqT cc77) ?_
                        refine FW.region ?_
                        refine U rfl rfl (V (x_ld tsc39 rfl (S.load 2 rfl 0 rfl)) ?_)
                        refine U rfl rfl (V (x_movV (v := .int .i32 (runeAt x0 p7)) rfl) ?_)
                        refine U rfl rfl (V (x_bld tz51 tpl51 rfl (.one rfl PC.nil) rfl) ?_)
                        refine U rfl rfl (o_bsl tsl39 tz51 rfl rfl rfl rfl (.agg PC.nil) rfl S fun b78 w S => ?_)
                        obtain ⟨J79, hJ81, S, h80⟩ := S.freeze (r := R_regex_sign) (l := [(T_regex_sign.mk (runeAt x0 p7) 0 false)]) 0 rfl ⟨[.int .i32 (runeAt x0 p7), .int .u32 0, .bool false], _, rfl, rfl, rfl⟩ rfl rfl
                        have hy33_2 := hy33_2.mono hJ81
                        have hI := hI.trans hJ81
                        have hL13 := hL13.trans hJ81
                        have hG := hG.mono hJ81
                        obtain ⟨l82, h84, H⟩ := obx H
                        refine U rfl rfl (o_appD (r := R_regex_sign) tsl39 rfl tz51 rfl rfl S 4 rfl rfl hy33_2 h80 h84 fun v83 w J86 hJ87 S h85 => ?_)
                        have hy33_2 := hy33_2.mono hJ87
                        have h80 := h80.mono hJ87
                        have hI := hI.trans hJ87
                        have hL13 := hL13.trans hJ87
                        have hG := hG.mono hJ87
                        refine U rfl rfl (o_st tone39 S 3 rfl rfl rfl h85.one fun w S => ?_)
                        exact ⟨q12, Nat.le_refl _, (p7 + runeW x0 p7), y33.2.1, l82, v83, J86, H, (Nat.le_of_succ_le hq23), ⟨rfl, rfl, rfl, rfl, rfl, trivial⟩, hL13, (S.sel 6 [4, 5, 1, 3, 2] rfl), h85⟩
                      · rw [if_neg cc77] at H
                        refine FW.condF rfl (eqF cc77) ?_
                        refine FW.seq ?_
                        refine FW.region ?_
                        refine U rfl rfl (V (x_bin rfl rfl rfl) ?_)
                        refine U rfl rfl (V (x_asgV (v := .bool ((runeAt x0 p7) == 91)) rfl) ?_)
                        by_cases cc88 : (runeAt x0 p7) = 91
                        · rw [if_pos cc88] at H
                          refine FW.condT rfl (eqT cc88) ?_
                          refine FW.skip ?_
                          refine FW.condT rfl (eqT cc88) ?_
                          refine FW.anew [(1, .pointer (some ⟨b1, 0, none⟩)), (4, .pointer (some ⟨b2, 0, none⟩)), (5, .pointer (some ⟨b3, 0, none⟩)), (6, .func (.func 26) #[] #[.pointer (some ⟨b3, 0, none⟩), .pointer (some ⟨b1, 0, none⟩), .pointer (some ⟨b2, 0, none⟩)]), (8, .int .i32 (runeAt x0 p7)), (13, .pointer (some ⟨b4, 0, none⟩))] ⟨rfl, rfl, rfl, rfl, rfl, rfl, trivial⟩ fun σ => ?_
                          refine FW.region ?_
                          refine U rfl rfl (V (x_ld tsc39 rfl (S.load 2 rfl 0 rfl)) ?_)
                          refine U rfl rfl (V (x_movV (v := .int .i32 (runeAt x0 p7)) rfl) ?_)
                          refine U rfl rfl (V (x_bld tz51 tpl51 rfl (.one rfl PC.nil) rfl) ?_)
                          refine U rfl rfl (o_bsl tsl39 tz51 rfl rfl rfl rfl (.agg PC.nil) rfl S fun b89 w S => ?_)
                          obtain ⟨J90, hJ92, S, h91⟩ := S.freeze (r := R_regex_sign) (l := [(T_regex_sign.mk (runeAt x0 p7) 0 false)]) 0 rfl ⟨[.int .i32 (runeAt x0 p7), .int .u32 0, .bool false], _, rfl, rfl, rfl⟩ rfl rfl
                          have hy33_2 := hy33_2.mono hJ92
                          have hI := hI.trans hJ92
                          have hL13 := hL13.trans hJ92
                          have hG := hG.mono hJ92
                          obtain ⟨l93, h95, H⟩ := obx H
                          refine U rfl rfl (o_appD (r := R_regex_sign) tsl39 rfl tz51 rfl rfl S 4 rfl rfl hy33_2 h91 h95 fun v94 w J97 hJ98 S h96 => ?_)
                          have hy33_2 := hy33_2.mono hJ98
                          have h91 := h91.mono hJ98
                          have hI := hI.trans hJ98
                          have hL13 := hL13.trans hJ98
                          have hG := hG.mono hJ98
                          refine U rfl rfl (o_st tone39 S 3 rfl rfl rfl h96.one fun w S => ?_)
                          exact ⟨q12, Nat.le_refl _, (p7 + runeW x0 p7), y33.2.1, l93, v94, J97, H, (Nat.le_of_succ_le hq23), ⟨rfl, rfl, rfl, rfl, rfl, trivial⟩, hL13, (S.sel 6 [4, 5, 1, 3, 2] rfl), h96⟩
                        · rw [if_neg cc88] at H
                          refine FW.condF rfl (eqF cc88) ?_
                          refine FW.seq ?_
                          refine FW.anew [(1, .pointer (some ⟨b1, 0, none⟩)), (4, .pointer (some ⟨b2, 0, none⟩)), (5, .pointer (some ⟨b3, 0, none⟩)), (6, .func (.func 26) #[] #[.pointer (some ⟨b3, 0, none⟩), .pointer (some ⟨b1, 0, none⟩), .pointer (some ⟨b2, 0, none⟩)]), (8, .int .i32 (runeAt x0 p7)), (13, .pointer (some ⟨b4, 0, none⟩)), (31, .int .i32 (runeAt x0 p7))] ⟨rfl, rfl, rfl, rfl, rfl, rfl, rfl, trivial⟩ fun σ => ?_
                          refine FW.region ?_
                          refine U rfl rfl (V (x_bin rfl rfl rfl) ?_)
                          refine U rfl rfl (V (x_asgV (v := .bool ((runeAt x0 p7) == 93)) rfl) ?_)
                          by_cases cc99 : (runeAt x0 p7) = 93
                          · rw [if_pos cc99] at H
                            refine FW.condT rfl (eqT cc99) ?_
                            refine FW.skip ?_
                            refine FW.condT rfl (eqT cc99) ?_
                            refine FW.region ?_
                            refine U rfl rfl (V (x_ld tsc39 rfl (S.load 2 rfl 0 rfl)) ?_)
                            refine U rfl rfl (V (x_movV (v := .int .i32 (runeAt x0 p7)) rfl) ?_)
                            refine U rfl rfl (V (x_bld tz51 tpl51 rfl (.one rfl PC.nil) rfl) ?_)
                            refine U rfl rfl (o_bsl tsl39 tz51 rfl rfl rfl rfl (.agg PC.nil) rfl S fun b100 w S => ?_)
                            obtain ⟨J101, hJ103, S, h102⟩ := S.freeze (r := R_regex_sign) (l := [(T_regex_sign.mk (runeAt x0 p7) 0 false)]) 0 rfl ⟨[.int .i32 (runeAt x0 p7), .int .u32 0, .bool false], _, rfl, rfl, rfl⟩ rfl rfl
                            have hy33_2 := hy33_2.mono hJ103
                            have hI := hI.trans hJ103
                            have hL13 := hL13.trans hJ103
                            have hG := hG.mono hJ103
                            obtain ⟨l104, h106, H⟩ := obx H
                            refine U rfl rfl (o_appD (r := R_regex_sign) tsl39 rfl tz51 rfl rfl S 4 rfl rfl hy33_2 h102 h106 fun v105 w J108 hJ109 S h107 => ?_)
                            have hy33_2 := hy33_2.mono hJ109
                            have h102 := h102.mono hJ109
                            have hI := hI.trans hJ109
                            have hL13 := hL13.trans hJ109
                            have hG := hG.mono hJ109
                            refine U rfl rfl (o_st tone39 S 3 rfl rfl rfl h107.one fun w S => ?_)
                            exact ⟨q12, Nat.le_refl _, (p7 + runeW x0 p7), y33.2.1, l104, v105, J108, H, (Nat.le_of_succ_le hq23), ⟨rfl, rfl, rfl, rfl, rfl, trivial⟩, hL13, (S.sel 6 [4, 5, 1, 3, 2] rfl), h107⟩
                          · rw [if_neg cc99] at H
                            refine FW.condF rfl (eqF cc99) ?_
                            refine FW.seq ?_
                            refine FW.region ?_
                            refine U rfl rfl (V (x_bin rfl rfl rfl) ?_)
                            refine U rfl rfl (V (x_asgV (v := .bool ((runeAt x0 p7) == 94)) rfl) ?_)
                            by_cases cc110 : (runeAt x0 p7) = 94
                            · rw [if_pos cc110] at H
                              refine FW.condT rfl (eqT cc110) ?_
                              refine FW.skip ?_
                              refine FW.condT rfl (eqT cc110) ?_
                              refine FW.region ?_
                              refine U rfl rfl (V (x_ld tsc39 rfl (S.load 2 rfl 0 rfl)) ?_)
                              refine U rfl rfl (V (x_movV (v := .int .i32 (runeAt x0 p7)) rfl) ?_)
                              refine U rfl rfl (V (x_bld tz51 tpl51 rfl (.one rfl PC.nil) rfl) ?_)
                              refine U rfl rfl (o_bsl tsl39 tz51 rfl rfl rfl rfl (.agg PC.nil) rfl S fun b111 w S => ?_)
                              obtain ⟨J112, hJ114, S, h113⟩ := S.freeze (r := R_regex_sign) (l := [(T_regex_sign.mk (runeAt x0 p7) 0 false)]) 0 rfl ⟨[.int .i32 (runeAt x0 p7), .int .u32 0, .bool false], _, rfl, rfl, rfl⟩ rfl rfl
                              have hy33_2 := hy33_2.mono hJ114
                              have hI := hI.trans hJ114
                              have hL13 := hL13.trans hJ114
                              have hG := hG.mono hJ114
                              obtain ⟨l115, h117, H⟩ := obx H
                              refine U rfl rfl (o_appD (r := R_regex_sign) tsl39 rfl tz51 rfl rfl S 4 rfl rfl hy33_2 h113 h117 fun v116 w J119 hJ120 S h118 => ?_)
                              have hy33_2 := hy33_2.mono hJ120
                              have h113 := h113.mono hJ120
                              have hI := hI.trans hJ120
                              have hL13 := hL13.trans hJ120
                              have hG := hG.mono hJ120
                              refine U rfl rfl (o_st tone39 S 3 rfl rfl rfl h118.one fun w S => ?_)
                              exact ⟨q12, Nat.le_refl _, (p7 + runeW x0 p7), y33.2.1, l115, v116, J119, H, (Nat.le_of_succ_le hq23), ⟨rfl, rfl, rfl, rfl, rfl, trivial⟩, hL13, (S.sel 6 [4, 5, 1, 3, 2] rfl), h118⟩
                            · rw [if_neg cc110] at H
                              refine FW.condF rfl (eqF cc110) ?_
                              refine FW.seq ?_
                              refine FW.region ?_
                              refine U rfl rfl (V (x_bin rfl rfl rfl) ?_)
                              refine U rfl rfl (V (x_asgV (v := .bool ((runeAt x0 p7) == 36)) rfl) ?_)
                              by_cases cc121 : (runeAt x0 p7) = 36
                              · rw [if_pos cc121] at H
                                refine FW.condT rfl (eqT cc121) ?_
                                refine FW.skip ?_
                                refine FW.condT rfl (eqT cc121) ?_
                                refine FW.region ?_
                                refine U rfl rfl (V (x_ld tsc39 rfl (S.load 2 rfl 0 rfl)) ?_)
                                refine U rfl rfl (V (x_movV (v := .int .i32 (runeAt x0 p7)) rfl) ?_)
                                refine U rfl rfl (V (x_bld tz51 tpl51 rfl (.one rfl PC.nil) rfl) ?_)
                                refine U rfl rfl (o_bsl tsl39 tz51 rfl rfl rfl rfl (.agg PC.nil) rfl S fun b122 w S => ?_)
                                obtain ⟨J123, hJ125, S, h124⟩ := S.freeze (r := R_regex_sign) (l := [(T_regex_sign.mk (runeAt x0 p7) 0 false)]) 0 rfl ⟨[.int .i32 (runeAt x0 p7), .int .u32 0, .bool false], _, rfl, rfl, rfl⟩ rfl rfl
                                have hy33_2 := hy33_2.mono hJ125
                                have hI := hI.trans hJ125
                                have hL13 := hL13.trans hJ125
                                have hG := hG.mono hJ125
                                obtain ⟨l126, h128, H⟩ := obx H
                                refine U rfl rfl (o_appD (r := R_regex_sign) tsl39 rfl tz51 rfl rfl S 4 rfl rfl hy33_2 h124 h128 fun v127 w J130 hJ131 S h129 => ?_)
                                have hy33_2 := hy33_2.mono hJ131
                                have h124 := h124.mono hJ131
                                have hI := hI.trans hJ131
                                have hL13 := hL13.trans hJ131
                                have hG := hG.mono hJ131
                                refine U rfl rfl (o_st tone39 S 3 rfl rfl rfl h129.one fun w S => ?_)
                                exact ⟨q12, Nat.le_refl _, (p7 + runeW x0 p7), y33.2.1, l126, v127, J130, H, (Nat.le_of_succ_le hq23), ⟨rfl, rfl, rfl, rfl, rfl, trivial⟩, hL13, (S.sel 6 [4, 5, 1, 3, 2] rfl), h129⟩
                              · rw [if_neg cc121] at H
                                refine FW.condF rfl (eqF cc121) ?_
                                refine FW.seq ?_
                                refine FW.region ?_
                                refine U rfl rfl (V (x_bin rfl rfl rfl) ?_)
                                refine U rfl rfl (V (x_asgV (v := .bool ((runeAt x0 p7) == 46)) rfl) ?_)
                                by_cases cc132 : (runeAt x0 p7) = 46
                                · rw [if_pos cc132] at H
                                  refine FW.condT rfl (eqT cc132) ?_
                                  refine FW.skip ?_
                                  refine FW.condT rfl (eqT cc132) ?_
                                  refine FW.anew [(1, .pointer (some ⟨b1, 0, none⟩)), (4, .pointer (some ⟨b2, 0, none⟩)), (5, .pointer (some ⟨b3, 0, none⟩)), (6, .func (.func 26) #[] #[.pointer (some ⟨b3, 0, none⟩), .pointer (some ⟨b1, 0, none⟩), .pointer (some ⟨b2, 0, none⟩)]), (8, .int .i32 (runeAt x0 p7)), (13, .pointer (some ⟨b4, 0, none⟩))] ⟨rfl, rfl, rfl, rfl, rfl, rfl, trivial⟩ fun σ => ?_
                                  refine FW.region ?_
                                  refine U rfl rfl (V (x_ld tsc39 rfl (S.load 2 rfl 0 rfl)) ?_)
                                  refine U rfl rfl (V (x_movV (v := .int .i32 (runeAt x0 p7)) rfl) ?_)
                                  refine U rfl rfl (V (x_bld tz51 tpl51 rfl (.one rfl PC.nil) rfl) ?_)
                                  refine U rfl rfl (o_bsl tsl39 tz51 rfl rfl rfl rfl (.agg PC.nil) rfl S fun b133 w S => ?_)
                                  obtain ⟨J134, hJ136, S, h135⟩ := S.freeze (r := R_regex_sign) (l := [(T_regex_sign.mk (runeAt x0 p7) 0 false)]) 0 rfl ⟨[.int .i32 (runeAt x0 p7), .int .u32 0, .bool false], _, rfl, rfl, rfl⟩ rfl rfl
                                  have hy33_2 := hy33_2.mono hJ136
                                  have hI := hI.trans hJ136
                                  have hL13 := hL13.trans hJ136
                                  have hG := hG.mono hJ136
                                  obtain ⟨l137, h139, H⟩ := obx H
                                  refine U rfl rfl (o_appD (r := R_regex_sign) tsl39 rfl tz51 rfl rfl S 4 rfl rfl hy33_2 h135 h139 fun v138 w J141 hJ142 S h140 => ?_)
                                  have hy33_2 := hy33_2.mono hJ142
                                  have h135 := h135.mono hJ142
                                  have hI := hI.trans hJ142
                                  have hL13 := hL13.trans hJ142
                                  have hG := hG.mono hJ142
                                  refine U rfl rfl (o_st tone39 S 3 rfl rfl rfl h140.one fun w S => ?_)
                                  exact ⟨q12, Nat.le_refl _, (p7 + runeW x0 p7), y33.2.1, l137, v138, J141, H, (Nat.le_of_succ_le hq23), ⟨rfl, rfl, rfl, rfl, rfl, trivial⟩, hL13, (S.sel 6 [4, 5, 1, 3, 2] rfl), h140⟩
                                · rw [if_neg cc132] at H
                                  refine FW.condF rfl (eqF cc132) ?_
                                  refine FW.seq ?_
                                  refine FW.anew [(1, .pointer (some ⟨b1, 0, none⟩)), (4, .pointer (some ⟨b2, 0, none⟩)), (5, .pointer (some ⟨b3, 0, none⟩)), (6, .func (.func 26) #[] #[.pointer (some ⟨b3, 0, none⟩), .pointer (some ⟨b1, 0, none⟩), .pointer (some ⟨b2, 0, none⟩)]), (8, .int .i32 (runeAt x0 p7)), (13, .pointer (some ⟨b4, 0, none⟩)), (31, .int .i32 (runeAt x0 p7))] ⟨rfl, rfl, rfl, rfl, rfl, rfl, rfl, trivial⟩ fun σ => ?_
                                  refine FW.region ?_
                                  refine U rfl rfl (V (x_bin rfl rfl rfl) ?_)
                                  refine U rfl rfl (V (x_asgV (v := .bool ((runeAt x0 p7) == 42)) rfl) ?_)
                                  by_cases cc143 : (runeAt x0 p7) = 42
                                  · rw [if_pos cc143] at H
                                    refine FW.condT rfl (eqT cc143) ?_
                                    refine FW.skip ?_
                                    refine FW.condT rfl (eqT cc143) ?_
                                    refine FW.region ?_
                                    refine U rfl rfl (V (x_ld tsc39 rfl (S.load 2 rfl 0 rfl)) ?_)
                                    refine U rfl rfl (V (x_movV (v := .int .i32 (runeAt x0 p7)) rfl) ?_)
                                    refine U rfl rfl (V (x_bld tz51 tpl51 rfl (.one rfl PC.nil) rfl) ?_)
                                    refine U rfl rfl (o_bsl tsl39 tz51 rfl rfl rfl rfl (.agg PC.nil) rfl S fun b144 w S => ?_)
                                    obtain ⟨J145, hJ147, S, h146⟩ := S.freeze (r := R_regex_sign) (l := [(T_regex_sign.mk (runeAt x0 p7) 0 false)]) 0 rfl ⟨[.int .i32 (runeAt x0 p7), .int .u32 0, .bool false], _, rfl, rfl, rfl⟩ rfl rfl
                                    have hy33_2 := hy33_2.mono hJ147
                                    have hI := hI.trans hJ147
                                    have hL13 := hL13.trans hJ147
                                    have hG := hG.mono hJ147
                                    obtain ⟨l148, h150, H⟩ := obx H
                                    refine U rfl rfl (o_appD (r := R_regex_sign) tsl39 rfl tz51 rfl rfl S 4 rfl rfl hy33_2 h146 h150 fun v149 w J152 hJ153 S h151 => ?_)
                                    have hy33_2 := hy33_2.mono hJ153
                                    have h146 := h146.mono hJ153
                                    have hI := hI.trans hJ153
                                    have hL13 := hL13.trans hJ153
                                    have hG := hG.mono hJ153
                                    refine U rfl rfl (o_st tone39 S 3 rfl rfl rfl h151.one fun w S => ?_)
                                    exact ⟨q12, Nat.le_refl _, (p7 + runeW x0 p7), y33.2.1, l148, v149, J152, H, (Nat.le_of_succ_le hq23), ⟨rfl, rfl, rfl, rfl, rfl, trivial⟩, hL13, (S.sel 6 [4, 5, 1, 3, 2] rfl), h151⟩
                                  · rw [if_neg cc143] at H
                                    refine FW.condF rfl (eqF cc143) ?_
                                    refine FW.seq ?_
                                    refine FW.region ?_
                                    refine U rfl rfl (V (x_bin rfl rfl rfl) ?_)
                                    refine U rfl rfl (V (x_asgV (v := .bool ((runeAt x0 p7) == 43)) rfl) ?_)
                                    by_cases cc154 : (runeAt x0 p7) = 43
                                    · rw [if_pos cc154] at H
                                      refine FW.condT rfl (eqT cc154) ?_
                                      refine FW.skip ?_
                                      refine FW.condT rfl (eqT cc154) ?_
                                      refine FW.region ?_
                                      refine U rfl rfl (V (x_ld tsc39 rfl (S.load 2 rfl 0 rfl)) ?_)
                                      refine U rfl rfl (V (x_movV (v := .int .i32 (runeAt x0 p7)) rfl) ?_)
                                      refine U rfl rfl (V (x_bld tz51 tpl51 rfl (.one rfl PC.nil) rfl) ?_)
                                      refine U rfl rfl (o_bsl tsl39 tz51 rfl rfl rfl rfl (.agg PC.nil) rfl S fun b155 w S => ?_)
                                      obtain ⟨J156, hJ158, S, h157⟩ := S.freeze (r := R_regex_sign) (l := [(T_regex_sign.mk (runeAt x0 p7) 0 false)]) 0 rfl ⟨[.int .i32 (runeAt x0 p7), .int .u32 0, .bool false], _, rfl, rfl, rfl⟩ rfl rfl
                                      have hy33_2 := hy33_2.mono hJ158
                                      have hI := hI.trans hJ158
                                      have hL13 := hL13.trans hJ158
                                      have hG := hG.mono hJ158
                                      obtain ⟨l159, h161, H⟩ := obx H
                                      refine U rfl rfl (o_appD (r := R_regex_sign) tsl39 rfl tz51 rfl rfl S 4 rfl rfl hy33_2 h157 h161 fun v160 w J163 hJ164 S h162 => ?_)
                                      have hy33_2 := hy33_2.mono hJ164
                                      have h157 := h157.mono hJ164
                                      have hI := hI.trans hJ164
                                      have hL13 := hL13.trans hJ164
                                      have hG := hG.mono hJ164
                                      refine U rfl rfl (o_st tone39 S 3 rfl rfl rfl h162.one fun w S => ?_)
                                      exact ⟨q12, Nat.le_refl _, (p7 + runeW x0 p7), y33.2.1, l159, v160, J163, H, (Nat.le_of_succ_le hq23), ⟨rfl, rfl, rfl, rfl, rfl, trivial⟩, hL13, (S.sel 6 [4, 5, 1, 3, 2] rfl), h162⟩
                                    · rw [if_neg cc154] at H
                                      refine FW.condF rfl (eqF cc154) ?_
                                      refine FW.seq ?_
                                      refine FW.region ?_
                                      refine U rfl rfl (V (x_bin rfl rfl rfl) ?_)
                                      refine U rfl rfl (V (x_asgV (v := .bool ((runeAt x0 p7) == 63)) rfl) ?_)
                                      by_cases cc165 : (runeAt x0 p7) = 63
                                      · rw [if_pos cc165] at H
                                        refine FW.condT rfl (eqT cc165) ?_
                                        refine FW.skip ?_
                                        refine FW.condT rfl (eqT cc165) ?_
                                        refine FW.region ?_
                                        refine U rfl rfl (V (x_ld tsc39 rfl (S.load 2 rfl 0 rfl)) ?_)
                                        refine U rfl rfl (V (x_movV (v := .int .i32 (runeAt x0 p7)) rfl) ?_)
                                        refine U rfl rfl (V (x_bld tz51 tpl51 rfl (.one rfl PC.nil) rfl) ?_)
                                        refine U rfl rfl (o_bsl tsl39 tz51 rfl rfl rfl rfl (.agg PC.nil) rfl S fun b166 w S => ?_)
                                        obtain ⟨J167, hJ169, S, h168⟩ := S.freeze (r := R_regex_sign) (l := [(T_regex_sign.mk (runeAt x0 p7) 0 false)]) 0 rfl ⟨[.int .i32 (runeAt x0 p7), .int .u32 0, .bool false], _, rfl, rfl, rfl⟩ rfl rfl
                                        have hy33_2 := hy33_2.mono hJ169
                                        have hI := hI.trans hJ169
                                        have hL13 := hL13.trans hJ169
                                        have hG := hG.mono hJ169
                                        obtain ⟨l170, h172, H⟩ := obx H
                                        refine U rfl rfl (o_appD (r := R_regex_sign) tsl39 rfl tz51 rfl rfl S 4 rfl rfl hy33_2 h168 h172 fun v171 w J174 hJ175 S h173 => ?_)
                                        have hy33_2 := hy33_2.mono hJ175
                                        have h168 := h168.mono hJ175
                                        have hI := hI.trans hJ175
                                        have hL13 := hL13.trans hJ175
                                        have hG := hG.mono hJ175
                                        refine U rfl rfl (o_st tone39 S 3 rfl rfl rfl h173.one fun w S => ?_)
                                        exact ⟨q12, Nat.le_refl _, (p7 + runeW x0 p7), y33.2.1, l170, v171, J174, H, (Nat.le_of_succ_le hq23), ⟨rfl, rfl, rfl, rfl, rfl, trivial⟩, hL13, (S.sel 6 [4, 5, 1, 3, 2] rfl), h173⟩
                                      · rw [if_neg cc165] at H
                                        refine FW.condF rfl (eqF cc165) ?_
                                        refine FW.seq ?_
                                        refine FW.region ?_
                                        refine U rfl rfl (V (x_bin rfl rfl rfl) ?_)
                                        refine U rfl rfl (V (x_asgV (v := .bool ((runeAt x0 p7) == 45)) rfl) ?_)
                                        by_cases cc176 : (runeAt x0 p7) = 45
                                        · rw [if_pos cc176] at H
                                          refine FW.condT rfl (eqT cc176) ?_
                                          refine FW.skip ?_
                                          refine FW.condT rfl (eqT cc176) ?_
                                          refine FW.anew [(1, .pointer (some ⟨b1, 0, none⟩)), (4, .pointer (some ⟨b2, 0, none⟩)), (5, .pointer (some ⟨b3, 0, none⟩)), (6, .func (.func 26) #[] #[.pointer (some ⟨b3, 0, none⟩), .pointer (some ⟨b1, 0, none⟩), .pointer (some ⟨b2, 0, none⟩)]), (8, .int .i32 (runeAt x0 p7)), (13, .pointer (some ⟨b4, 0, none⟩))] ⟨rfl, rfl, rfl, rfl, rfl, rfl, trivial⟩ fun σ => ?_
                                          refine FW.region ?_
                                          refine U rfl rfl (V (x_ld tsc39 rfl (S.load 2 rfl 0 rfl)) ?_)
                                          refine U rfl rfl (V (x_movV (v := .int .i32 (runeAt x0 p7)) rfl) ?_)
                                          refine U rfl rfl (V (x_bld tz51 tpl51 rfl (.one rfl PC.nil) rfl) ?_)
                                          refine U rfl rfl (o_bsl tsl39 tz51 rfl rfl rfl rfl (.agg PC.nil) rfl S fun b177 w S => ?_)
                                          obtain ⟨J178, hJ180, S, h179⟩ := S.freeze (r := R_regex_sign) (l := [(T_regex_sign.mk (runeAt x0 p7) 0 false)]) 0 rfl ⟨[.int .i32 (runeAt x0 p7), .int .u32 0, .bool false], _, rfl, rfl, rfl⟩ rfl rfl
                                          have hy33_2 := hy33_2.mono hJ180
                                          have hI := hI.trans hJ180
                                          have hL13 := hL13.trans hJ180
                                          have hG := hG.mono hJ180
                                          obtain ⟨l181, h183, H⟩ := obx H
                                          refine U rfl rfl (o_appD (r := R_regex_sign) tsl39 rfl tz51 rfl rfl S 4 rfl rfl hy33_2 h179 h183 fun v182 w J185 hJ186 S h184 => ?_)
                                          have hy33_2 := hy33_2.mono hJ186
                                          have h179 := h179.mono hJ186
                                          have hI := hI.trans hJ186
                                          have hL13 := hL13.trans hJ186
                                          have hG := hG.mono hJ186
                                          refine U rfl rfl (o_st tone39 S 3 rfl rfl rfl h184.one fun w S => ?_)
                                          exact ⟨q12, Nat.le_refl _, (p7 + runeW x0 p7), y33.2.1, l181, v182, J185, H, (Nat.le_of_succ_le hq23), ⟨rfl, rfl, rfl, rfl, rfl, trivial⟩, hL13, (S.sel 6 [4, 5, 1, 3, 2] rfl), h184⟩
                                        · rw [if_neg cc176] at H
                                          refine FW.condF rfl (eqF cc176) ?_
                                          refine FW.anew [(1, .pointer (some ⟨b1, 0, none⟩)), (4, .pointer (some ⟨b2, 0, none⟩)), (5, .pointer (some ⟨b3, 0, none⟩)), (6, .func (.func 26) #[] #[.pointer (some ⟨b3, 0, none⟩), .pointer (some ⟨b1, 0, none⟩), .pointer (some ⟨b2, 0, none⟩)]), (8, .int .i32 (runeAt x0 p7)), (13, .pointer (some ⟨b4, 0, none⟩)), (31, .int .i32 (runeAt x0 p7))] ⟨rfl, rfl, rfl, rfl, rfl, rfl, rfl, trivial⟩ fun σ => ?_
                                          refine FW.region ?_
                                          refine U rfl rfl (V (x_bin rfl rfl rfl) ?_)
                                          refine U rfl rfl (V (x_asgV (v := .bool ((runeAt x0 p7) == 44)) rfl) ?_)
                                          by_cases cc187 : (runeAt x0 p7) = 44
                                          · rw [if_pos cc187] at H
                                            refine FW.condT rfl (eqT cc187) ?_
                                            refine FW.region ?_
                                            refine U rfl rfl (V (x_ld tsc39 rfl (S.load 2 rfl 0 rfl)) ?_)
                                            refine U rfl rfl (V (x_movV (v := .int .i32 (runeAt x0 p7)) rfl) ?_)
                                            refine U rfl rfl (V (x_bld tz51 tpl51 rfl (.one rfl PC.nil) rfl) ?_)
                                            refine U rfl rfl (o_bsl tsl39 tz51 rfl rfl rfl rfl (.agg PC.nil) rfl S fun b188 w S => ?_)
                                            obtain ⟨J189, hJ191, S, h190⟩ := S.freeze (r := R_regex_sign) (l := [(T_regex_sign.mk (runeAt x0 p7) 0 false)]) 0 rfl ⟨[.int .i32 (runeAt x0 p7), .int .u32 0, .bool false], _, rfl, rfl, rfl⟩ rfl rfl
                                            have hy33_2 := hy33_2.mono hJ191
                                            have hI := hI.trans hJ191
                                            have hL13 := hL13.trans hJ191
                                            have hG := hG.mono hJ191
                                            obtain ⟨l192, h194, H⟩ := obx H
                                            refine U rfl rfl (o_appD (r := R_regex_sign) tsl39 rfl tz51 rfl rfl S 4 rfl rfl hy33_2 h190 h194 fun v193 w J196 hJ197 S h195 => ?_)
                                            have hy33_2 := hy33_2.mono hJ197
                                            have h190 := h190.mono hJ197
                                            have hI := hI.trans hJ197
                                            have hL13 := hL13.trans hJ197
                                            have hG := hG.mono hJ197
                                            refine U rfl rfl (o_st tone39 S 3 rfl rfl rfl h195.one fun w S => ?_)
                                            exact ⟨q12, Nat.le_refl _, (p7 + runeW x0 p7), y33.2.1, l192, v193, J196, H, (Nat.le_of_succ_le hq23), ⟨rfl, rfl, rfl, rfl, rfl, trivial⟩, hL13, (S.sel 6 [4, 5, 1, 3, 2] rfl), h195⟩
                                          · rw [if_neg cc187] at H
                                            refine FW.condF rfl (eqF cc187) ?_
                                            refine FW.seq ?_
                                            refine FW.region ?_
                                            refine U rfl rfl (V (x_asgV (v := (.slice none 0 0)) rfl) ?_)
                                            refine U rfl rfl (V (x_asgV (v := .bool false) rfl) ?_)
                                            refine FW.ret ?_
                                            have S := S.nil_tv 51 3
                                            obtain rfl := Option.some.inj H
                                            obtain rfl := Option.some.inj HO15
                                            exact ⟨_, ⟨_, rfl, ⟨_, rfl, rfl⟩⟩, ⟨(.slice none 0 0), J38, hI, rfl, (SlR.nil _ _), (S.sel 6 [0] rfl)⟩⟩
            · rw [if_neg cc37] at H
              refine FW.condT rfl (noT (vaF cc37)) ?_
              refine FW.seq ?_
              refine FW.region ?_
              refine U rfl rfl (V (x_asgV (v := (.slice none 0 0)) rfl) ?_)
              refine U rfl rfl (V (x_asgV (v := .bool false) rfl) ?_)
              refine FW.ret ?_
              have S := S.nil_tv 51 3
              obtain rfl := Option.some.inj H
              obtain rfl := Option.some.inj HO15
              exact ⟨_, ⟨_, rfl, ⟨_, rfl, rfl⟩⟩, ⟨(.slice none 0 0), J35, hI, rfl, (SlR.nil _ _), (S.sel 6 [0] rfl)⟩⟩
        · rw [if_neg cc25] at H
          refine OK.gf rfl rfl rfl (deF cc25) ?_
          refine OK.gf rfl rfl rfl (deF cc25) ?_
          refine U rfl rfl (V (x_pickFV (v := .bool false) rfl (deF cc25) rfl) ?_)
          refine FW.condF rfl rfl ?_
          refine FW.skip ?_
          refine FW.seq ?_
          refine FW.seq ?_
          refine FW.anew [(1, .pointer (some ⟨b1, 0, none⟩)), (4, .pointer (some ⟨b2, 0, none⟩)), (5, .pointer (some ⟨b3, 0, none⟩)), (6, .func (.func 26) #[] #[.pointer (some ⟨b3, 0, none⟩), .pointer (some ⟨b1, 0, none⟩), .pointer (some ⟨b2, 0, none⟩)]), (7, .int .i64 ((p7 : Nat) : Int)), (8, .int .i32 (runeAt x0 p7)), (13, .pointer (some ⟨b4, 0, none⟩))] ⟨rfl, rfl, rfl, rfl, rfl, rfl, rfl, trivial⟩ fun σ => ?_
          refine FW.region ?_
          refine U rfl rfl (V (x_movV (v := .func (.func 26) #[] #[.pointer (some ⟨b3, 0, none⟩), .pointer (some ⟨b1, 0, none⟩), .pointer (some ⟨b2, 0, none⟩)]) rfl) ?_)
          refine U rfl rfl (V (x_movV (v := .int .i64 ((p7 : Nat) : Int)) rfl) ?_)
          obtain ⟨y200, hy201, H⟩ := obx H
          refine U rfl rfl (clv rfl fb26 (@regex_signs_1.ok q12 ((p7 : Nat) : Int) n8 x0 l9 _ _ _ _ _ _ _ _ hG (S.sel 5 [2, 4, 3, 0, 1] rfl) h11 hy201) rfl ?_)
          rintro _ w ⟨vy200_2, J202, hJ203, rfl, hy200_2, S⟩
          have hI := hI.trans hJ203
          have hL13 := hL13.trans hJ203
          have hG := hG.mono hJ203
          refine U rfl rfl (V (x_not' rfl) ?_)
          by_cases cc204 : y200.1 = true
          · rw [if_pos cc204] at H
            refine FW.condF rfl (noF cc204) ?_
            refine FW.skip ?_
            refine FW.seq ?_
            refine FW.region ?_
            refine U rfl rfl (V (x_movV (v := .int .i32 (runeAt x0 p7)) rfl) ?_)
            refine FW.block ?_
            refine FW.seq ?_
            refine FW.seq ?_
            refine FW.region ?_
            refine U rfl rfl (V (x_bin rfl rfl rfl) ?_)
            refine U rfl rfl (V (x_asgV (v := .bool ((runeAt x0 p7) == 32)) rfl) ?_)
            obtain ⟨o207, H, HO208⟩ := obx H
            have hL209 := IMem.le.refl J202
            refine FW.cutN (fun σ w => ∃ (b206 : Bool) (J205 : IMem), b206 = o207 ∧ Has σ [(1, .pointer (some ⟨b1, 0, none⟩)), (4, .pointer (some ⟨b2, 0, none⟩)), (5, .pointer (some ⟨b3, 0, none⟩)), (6, .func (.func 26) #[] #[.pointer (some ⟨b3, 0, none⟩), .pointer (some ⟨b1, 0, none⟩), .pointer (some ⟨b2, 0, none⟩)]), (8, .int .i32 (runeAt x0 p7)), (13, .pointer (some ⟨b4, 0, none⟩)), (31, .int .i32 (runeAt x0 p7)), (32, .bool b206)] ∧ J202.le J205 ∧ Own J205 w (.bk b3 3 [.int .i64 y200.2.1] :: .bk b1 9 [.string x0] :: .bk b2 39 [vy200_2] :: .tv vy200_2 51 3 :: .ob b4 (.stringIter x0 (p7 + runeW x0 p7)) :: F)) ?_ ?_
            ·
              by_cases cc210 : (runeAt x0 p7) = 32
              · rw [if_pos cc210] at H
                refine FW.condT rfl (eqT cc210) ?_
                refine FW.skip ?_
                exact ⟨((runeAt x0 p7) == 32), J202, (Option.some.inj H), ⟨rfl, rfl, rfl, rfl, rfl, rfl, rfl, rfl, trivial⟩, hL209, S⟩
              · rw [if_neg cc210] at H
                refine FW.condF rfl (eqF cc210) ?_
                refine FW.anew [(1, .pointer (some ⟨b1, 0, none⟩)), (4, .pointer (some ⟨b2, 0, none⟩)), (5, .pointer (some ⟨b3, 0, none⟩)), (6, .func (.func 26) #[] #[.pointer (some ⟨b3, 0, none⟩), .pointer (some ⟨b1, 0, none⟩), .pointer (some ⟨b2, 0, none⟩)]), (8, .int .i32 (runeAt x0 p7)), (13, .pointer (some ⟨b4, 0, none⟩)), (31, .int .i32 (runeAt x0 p7))] ⟨rfl, rfl, rfl, rfl, rfl, rfl, rfl, trivial⟩ fun σ => ?_
                refine FW.region ?_
                refine U rfl rfl (V (x_bin rfl rfl rfl) ?_)
                refine U rfl rfl (V (x_asgV (v := .bool ((runeAt x0 p7) == 95)) rfl) ?_)
                exact ⟨((runeAt x0 p7) == 95), J202, (Option.some.inj H), ⟨rfl, rfl, rfl, rfl, rfl, rfl, rfl, rfl, trivial⟩, hL209, S⟩
            · rintro σ w ⟨b206, J205, ho, hσ, hL209, S⟩
              subst ho
              have H := HO208
              have hy200_2 := hy200_2.mono hL209
              have hI := hI.trans hL209
              have hL13 := hL13.trans hL209
              have hG := hG.mono hL209
              rw [hσ.eq]
              by_cases cc211 : b206 = true
              · rw [if_pos cc211] at H
                refine FW.condT rfl cc211 ?_
                refine FW.region ?_
                refine U rfl rfl (V (x_ld tsc39 rfl (S.load 2 rfl 0 rfl)) ?_)
                refine U rfl rfl (V (x_bld tz51 tpl51 rfl (.one rfl PC.nil) rfl) ?_)
                refine U rfl rfl (o_bsl tsl39 tz51 rfl rfl rfl rfl (.agg PC.nil) rfl S fun b212 w S => ?_)
                obtain ⟨J213, hJ215, S, h214⟩ := S.freeze (r := R_regex_sign) (l := [(T_regex_sign.mk 32 0 false)]) 0 rfl ⟨[.int .i32 32, .int .u32 0, .bool false], _, rfl, rfl, rfl⟩ rfl rfl
                have hy200_2 := hy200_2.mono hJ215
                have hI := hI.trans hJ215
                have hL13 := hL13.trans hJ215
                have hG := hG.mono hJ215
                obtain ⟨l216, h218, H⟩ := obx H
                refine U rfl rfl (o_appD (r := R_regex_sign) tsl39 rfl tz51 rfl rfl S 4 rfl rfl hy200_2 h214 h218 fun v217 w J220 hJ221 S h219 => ?_)
                have hy200_2 := hy200_2.mono hJ221
                have h214 := h214.mono hJ221
                have hI := hI.trans hJ221
                have hL13 := hL13.trans hJ221
                have hG := hG.mono hJ221
                refine U rfl rfl (o_st tone39 S 3 rfl rfl rfl h219.one fun w S => ?_)
                exact ⟨q12, Nat.le_refl _, (p7 + runeW x0 p7), y200.2.1, l216, v217, J220, H, (Nat.le_of_succ_le hq23), ⟨rfl, rfl, rfl, rfl, rfl, trivial⟩, hL13, (S.sel 6 [4, 5, 1, 3, 2] rfl), h219⟩
              · rw [if_neg cc211] at H
                refine FW.condF rfl (vaF cc211) ?_
                refine FW.seq ?_
                refine FW.seq ?_
                refine FW.region ?_
                refine U rfl rfl (V (x_bin rfl rfl rfl) ?_)
                refine U rfl rfl (V (x_asgV (v := .bool ((runeAt x0 p7) == 124)) rfl) ?_)
                by_cases cc222 : (runeAt x0 p7) = 124
                · rw [if_pos cc222] at H
                  refine FW.condT rfl (eqT cc222) ?_
                  refine FW.skip ?_
                  refine FW.condT rfl (eqT cc222) ?_
                  refine FW.region ?_
                  refine U rfl rfl (V (x_ld tsc39 rfl (S.load 2 rfl 0 rfl)) ?_)
                  refine U rfl rfl (V (x_movV (v := .int .i32 (runeAt x0 p7)) rfl) ?_)
                  refine U rfl rfl (V (x_bld tz51 tpl51 rfl (.one rfl PC.nil) rfl) ?_)
                  refine U rfl rfl (o_bsl tsl39 tz51 rfl rfl rfl rfl (.agg PC.nil) rfl S fun b223 w S => ?_)
                  obtain ⟨J224, hJ226, S, h225⟩ := S.freeze (r := R_regex_sign) (l := [(T_regex_sign.mk (runeAt x0 p7) 0 false)]) 0 rfl ⟨[.int .i32 (runeAt x0 p7), .int .u32 0, .bool false], _, rfl, rfl, rfl⟩ rfl rfl
                  have hy200_2 := hy200_2.mono hJ226
                  have hI := hI.trans hJ226
                  have hL13 := hL13.trans hJ226
                  have hG := hG.mono hJ226
                  obtain ⟨l227, h229, H⟩ := obx H
                  refine U rfl rfl (o_appD (r := R_regex_sign) tsl39 rfl tz51 rfl rfl S 4 rfl rfl hy200_2 h225 h229 fun v228 w J231 hJ232 S h230 => ?_)
                  have hy200_2 := hy200_2.mono hJ232
                  have h225 := h225.mono hJ232
                  have hI := hI.trans hJ232
                  have hL13 := hL13.trans hJ232
                  have hG := hG.mono hJ232
                  refine U rfl rfl (o_st tone39 S 3 rfl rfl rfl h230.one fun w S => ?_)
                  exact ⟨q12, Nat.le_refl _, (p7 + runeW x0 p7), y200.2.1, l227, v228, J231, H, (Nat.le_of_succ_le hq23), ⟨rfl, rfl, rfl, rfl, rfl, trivial⟩, hL13, (S.sel 6 [4, 5, 1, 3, 2] rfl), h230⟩
                · rw [if_neg cc222] at H
                  refine FW.condF rfl (eqF cc222) ?_
                  refine FW.seq ?_
                  refine FW.region ?_
                  refine U rfl rfl (V (x_bin rfl rfl rfl) ?_)
                  refine U rfl rfl (V (x_asgV (v := .bool ((runeAt x0 p7) == 40)) rfl) ?_)
                  by_cases cc233 : (runeAt x0 p7) = 40
                  · rw [if_pos cc233] at H
                    refine FW.condT rfl (eqT cc233) ?_
                    refine FW.skip ?_
                    refine FW.condT rfl (eqT cc233) ?_
                    refine FW.region ?_
                    refine U rfl rfl (V (x_ld tsc39 rfl (S.load 2 rfl 0 rfl)) ?_)
                    refine U rfl rfl (V (x_movV (v := .int .i32 (runeAt x0 p7)) rfl) ?_)
                    refine U rfl rfl (V (x_bld tz51 tpl51 rfl (.one rfl PC.nil) rfl) ?_)
                    refine U rfl rfl (o_bsl tsl39 tz51 rfl rfl rfl rfl (.agg PC.nil) rfl S fun b234 w S => ?_)
                    obtain ⟨J235, hJ237, S, h236⟩ := S.freeze (r := R_regex_sign) (l := [(T_regex_sign.mk (runeAt x0 p7) 0 false)]) 0 rfl ⟨[.int .i32 (runeAt x0 p7), .int .u32 0, .bool false], _, rfl, rfl, rfl⟩ rfl rfl
                    have hy200_2 := hy200_2.mono hJ237
                    have hI := hI.trans hJ237
                    have hL13 := hL13.trans hJ237
                    have hG := hG.mono hJ237
                    obtain ⟨l238, h240, H⟩ := obx H
                    refine U rfl rfl (o_appD (r := R_regex_sign) tsl39 rfl tz51 rfl rfl S 4 rfl rfl hy200_2 h236 h240 fun v239 w J242 hJ243 S h241 => ?_)
                    have hy200_2 := hy200_2.mono hJ243
                    have h236 := h236.mono hJ243
                    have hI := hI.trans hJ243
                    have hL13 := hL13.trans hJ243
                    have hG := hG.mono hJ243
                    refine U rfl rfl (o_st tone39 S 3 rfl rfl rfl h241.one fun w S => ?_)
                    exact ⟨q12, Nat.le_refl _, (p7 + runeW x0 p7), y200.2.1, l238, v239, J242, H, (Nat.le_of_succ_le hq23), ⟨rfl, rfl, rfl, rfl, rfl, trivial⟩, hL13, (S.sel 6 [4, 5, 1, 3, 2] rfl), h241⟩
                  · rw [if_neg cc233] at H
                    refine FW.condF rfl (eqF cc233) ?_
                    refine FW.seq ?_
                    refine FW.region ?_
                    refine U rfl rfl (V (x_bin rfl rfl rfl) ?_)
                    refine U rfl rfl (V (x_asgV (v := .bool ((runeAt x0 p7) == 41)) rfl) ?_)
                    by_cases cc244 : (runeAt x0 p7) = 41
                    · rw [if_pos cc244] at H
                      refine FW.condT rfl (eqT cc244) ?_
                      refine FW.skip ?_
                      refine FW.condT rfl (eqT cc244) ?_
                      refine FW.region ?_
                      refine U rfl rfl (V (x_ld tsc39 rfl (S.load 2 rfl 0 rfl)) ?_)
                      refine U rfl rfl (V (x_movV (v := .int .i32 (runeAt x0 p7)) rfl) ?_)
                      refine U rfl rfl (V (x_bld tz51 tpl51 rfl (.one rfl PC.nil) rfl) ?_)
                      refine U rfl rfl (o_bsl tsl39 tz51 rfl rfl rfl rfl (.agg PC.nil) rfl S fun b245 w S => ?_)
                      obtain ⟨J246, hJ248, S, h247⟩ := S.freeze (r := R_regex_sign) (l := [(T_regex_sign.mk (runeAt x0 p7) 0 false)]) 0 rfl ⟨[.int .i32 (runeAt x0 p7), .int .u32 0, .bool false], _, rfl, rfl, rfl⟩ rfl rfl
                      have hy200_2 := hy200_2.mono hJ248
                      have hI := hI.trans hJ248
                      have hL13 := hL13.trans hJ248
                      have hG := hG.mono hJ248
                      obtain ⟨l249, h251, H⟩ := obx H
                      refine U rfl rfl (o_appD (r := R_regex_sign) tsl39 rfl tz51 rfl rfl S 4 rfl rfl hy200_2 h247 h251 fun v250 w J253 hJ254 S h252 => ?_)
                      have hy200_2 := hy200_2.mono hJ254
                      have h247 := h247.mono hJ254
                      have hI := hI.trans hJ254
                      have hL13 := hL13.trans hJ254
                      have hG := hG.mono hJ254
                      refine U rfl rfl (o_st tone39 S 3 rfl rfl rfl h252.one fun w S => ?_)
                      exact ⟨q12, Nat.le_refl _, (p7 + runeW x0 p7), y200.2.1, l249, v250, J253, H, (Nat.le_of_succ_le hq23), ⟨rfl, rfl, rfl, rfl, rfl, trivial⟩, hL13, (S.sel 6 [4, 5, 1, 3, 2] rfl), h252⟩
                    · rw [if_neg cc244] at H
                      refine FW.condF rfl (eqF cc244) ?_
                      refine FW.seq ?_
                      refine FW.region ?_
                      refine U rfl rfl (V (x_bin rfl rfl rfl) ?_)
                      refine U rfl rfl (V (x_asgV (v := .bool ((runeAt x0 p7) == 91)) rfl) ?_)
                      by_cases cc255 : (runeAt x0 p7) = 91
                      · rw [if_pos cc255] at H
                        refine FW.condT rfl (eqT cc255) ?_
                        refine FW.skip ?_
                        refine FW.condT rfl (eqT cc255) ?_
                        refine FW.anew [(1, .pointer (some ⟨b1, 0, none⟩)), (4, .pointer (some ⟨b2, 0, none⟩)), (5, .pointer (some ⟨b3, 0, none⟩)), (6, .func (.func 26) #[] #[.pointer (some ⟨b3, 0, none⟩), .pointer (some ⟨b1, 0, none⟩), .pointer (some ⟨b2, 0, none⟩)]), (8, .int .i32 (runeAt x0 p7)), (13, .pointer (some ⟨b4, 0, none⟩))] ⟨rfl, rfl, rfl, rfl, rfl, rfl, trivial⟩ fun σ => ?_
                        refine FW.region ?_
                        refine U rfl rfl (V (x_ld tsc39 rfl (S.load 2 rfl 0 rfl)) ?_)
                        refine U rfl rfl (V (x_movV (v := .int .i32 (runeAt x0 p7)) rfl) ?_)
                        refine U rfl rfl (V (x_bld tz51 tpl51 rfl (.one rfl PC.nil) rfl) ?_)
                        refine U rfl rfl (o_bsl tsl39 tz51 rfl rfl rfl rfl (.agg PC.nil) rfl S fun b256 w S => ?_)
                        obtain ⟨J257, hJ259, S, h258⟩ := S.freeze (r := R_regex_sign) (l := [(T_regex_sign.mk (runeAt x0 p7) 0 false)]) 0 rfl ⟨[.int .i32 (runeAt x0 p7), .int .u32 0, .bool false], _, rfl, rfl, rfl⟩ rfl rfl
                        have hy200_2 := hy200_2.mono hJ259
                        have hI := hI.trans hJ259
                        have hL13 := hL13.trans hJ259
                        have hG := hG.mono hJ259
                        obtain ⟨l260, h262, H⟩ := obx H
                        refine U rfl rfl (o_appD (r := R_regex_sign) tsl39 rfl tz51 rfl rfl S 4 rfl rfl hy200_2 h258 h262 fun v261 w J264 hJ265 S h263 => ?_)
                        have hy200_2 := hy200_2.mono hJ265
                        have h258 := h258.mono hJ265
                        have hI := hI.trans hJ265
                        have hL13 := hL13.trans hJ265
                        have hG := hG.mono hJ265
                        refine U rfl rfl (o_st tone39 S 3 rfl rfl rfl h263.one fun w S => ?_)
                        exact ⟨q12, Nat.le_refl _, (p7 + runeW x0 p7), y200.2.1, l260, v261, J264, H, (Nat.le_of_succ_le hq23), ⟨rfl, rfl, rfl, rfl, rfl, trivial⟩, hL13, (S.sel 6 [4, 5, 1, 3, 2] rfl), h263⟩
                      · rw [if_neg cc255] at H
                        refine FW.condF rfl (eqF cc255) ?_
                        refine FW.seq ?_
                        refine FW.anew [(1, .pointer (some ⟨b1, 0, none⟩)), (4, .pointer (some ⟨b2, 0, none⟩)), (5, .pointer (some ⟨b3, 0, none⟩)), (6, .func (.func 26) #[] #[.pointer (some ⟨b3, 0, none⟩), .pointer (some ⟨b1, 0, none⟩), .pointer (some ⟨b2, 0, none⟩)]), (8, .int .i32 (runeAt x0 p7)), (13, .pointer (some ⟨b4, 0, none⟩)), (31, .int .i32 (runeAt x0 p7))] ⟨rfl, rfl, rfl, rfl, rfl, rfl, rfl, trivial⟩ fun σ => ?_
                        refine FW.region ?_
                        refine U rfl rfl (V (x_bin rfl rfl rfl) ?_)
                        refine U rfl rfl (V (x_asgV (v := .bool ((runeAt x0 p7) == 93)) rfl) ?_)
                        by_cases cc266 : (runeAt x0 p7) = 93
                        · rw [if_pos cc266] at H
                          refine FW.condT rfl (eqT cc266) ?_
                          refine FW.skip ?_
                          refine FW.condT rfl (eqT cc266) ?_
                          refine FW.region ?_
                          refine U rfl rfl (V (x_ld tsc39 rfl (S.load 2 rfl 0 rfl)) ?_)
                          refine U rfl rfl (V (x_movV (v := .int .i32 (runeAt x0 p7)) rfl) ?_)
                          refine U rfl rfl (V (x_bld tz51 tpl51 rfl (.one rfl PC.nil) rfl) ?_)
                          refine U rfl rfl (o_bsl tsl39 tz51 rfl rfl rfl rfl (.agg PC.nil) rfl S fun b267 w S => ?_)
                          obtain ⟨J268, hJ270, S, h269⟩ := S.freeze (r := R_regex_sign) (l := [(T_regex_sign.mk (runeAt x0 p7) 0 false)]) 0 rfl ⟨[.int .i32 (runeAt x0 p7), .int .u32 0, .bool false], _, rfl, rfl, rfl⟩ rfl rfl
                          have hy200_2 := hy200_2.mono hJ270
                          have hI := hI.trans hJ270
                          have hL13 := hL13.trans hJ270
                          have hG := hG.mono hJ270
                          obtain ⟨l271, h273, H⟩ := obx H
                          refine U rfl rfl (o_appD (r := R_regex_sign) tsl39 rfl tz51 rfl rfl S 4 rfl rfl hy200_2 h269 h273 fun v272 w J275 hJ276 S h274 => ?_)
                          have hy200_2 := hy200_2.mono hJ276
                          have h269 := h269.mono hJ276
                          have hI := hI.trans hJ276
                          have hL13 := hL13.trans hJ276
                          have hG := hG.mono hJ276
                          refine U rfl rfl (o_st tone39 S 3 rfl rfl rfl h274.one fun w S => ?_)
                          exact ⟨q12, Nat.le_refl _, (p7 + runeW x0 p7), y200.2.1, l271, v272, J275, H, (Nat.le_of_succ_le hq23), ⟨rfl, rfl, rfl, rfl, rfl, trivial⟩, hL13, (S.sel 6 [4, 5, 1, 3, 2] rfl), h274⟩
                        · rw [if_neg cc266] at H
                          refine FW.condF rfl (eqF cc266) ?_
                          refine FW.seq ?_
                          refine FW.region ?_
                          refine U rfl rfl (V (x_bin rfl rfl rfl) ?_)
                          refine U rfl rfl (V (x_asgV (v := .bool ((runeAt x0 p7) == 94)) rfl) ?_)
                          by_cases cc277 : (runeAt x0 p7) = 94
                          · rw [if_pos cc277] at H
                            refine FW.condT rfl (eqT cc277) ?_
                            refine FW.skip ?_
                            refine FW.condT rfl (eqT cc277) ?_
                            refine FW.region ?_
                            refine U rfl rfl (V (x_ld tsc39 rfl (S.load 2 rfl 0 rfl)) ?_)
                            refine U rfl rfl (V (x_movV (v := .int .i32 (runeAt x0 p7)) rfl) ?_)
                            refine U rfl rfl (V (x_bld tz51 tpl51 rfl (.one rfl PC.nil) rfl) ?_)
                            refine U rfl rfl (o_bsl tsl39 tz51 rfl rfl rfl rfl (.agg PC.nil) rfl S fun b278 w S => ?_)
                            obtain ⟨J279, hJ281, S, h280⟩ := S.freeze (r := R_regex_sign) (l := [(T_regex_sign.mk (runeAt x0 p7) 0 false)]) 0 rfl ⟨[.int .i32 (runeAt x0 p7), .int .u32 0, .bool false], _, rfl, rfl, rfl⟩ rfl rfl
                            have hy200_2 := hy200_2.mono hJ281
                            have hI := hI.trans hJ281
                            have hL13 := hL13.trans hJ281
                            have hG := hG.mono hJ281
                            obtain ⟨l282, h284, H⟩ := obx H
                            refine U rfl rfl (o_appD (r := R_regex_sign) tsl39 rfl tz51 rfl rfl S 4 rfl rfl hy200_2 h280 h284 fun v283 w J286 hJ287 S h285 => ?_)
                            have hy200_2 := hy200_2.mono hJ287
                            have h280 := h280.mono hJ287
                            have hI := hI.trans hJ287
                            have hL13 := hL13.trans hJ287
                            have hG := hG.mono hJ287
                            refine U rfl rfl (o_st tone39 S 3 rfl rfl rfl h285.one fun w S => ?_)
                            exact ⟨q12, Nat.le_refl _, (p7 + runeW x0 p7), y200.2.1, l282, v283, J286, H, (Nat.le_of_succ_le hq23), ⟨rfl, rfl, rfl, rfl, rfl, trivial⟩, hL13, (S.sel 6 [4, 5, 1, 3, 2] rfl), h285⟩
                          · rw [if_neg cc277] at H
                            refine FW.condF rfl (eqF cc277) ?_
                            refine FW.seq ?_
                            refine FW.region ?_
                            refine U rfl rfl (V (x_bin rfl rfl rfl) ?_)
                            refine U rfl rfl (V (x_asgV (v := .bool ((runeAt x0 p7) == 36)) rfl) ?_)
                            by_cases cc288 : (runeAt x0 p7) = 36
                            · rw [if_pos cc288] at H
                              refine FW.condT rfl (eqT cc288) ?_
                              refine FW.skip ?_
                              refine FW.condT rfl (eqT cc288) ?_
                              refine FW.region ?_
                              refine U rfl rfl (V (x_ld tsc39 rfl (S.load 2 rfl 0 rfl)) ?_)
                              refine U rfl rfl (V (x_movV (v := .int .i32 (runeAt x0 p7)) rfl) ?_)
                              refine U rfl rfl (V (x_bld tz51 tpl51 rfl (.one rfl PC.nil) rfl) ?_)
                              refine U rfl rfl (o_bsl tsl39 tz51 rfl rfl rfl rfl (.agg PC.nil) rfl S fun b289 w S => ?_)
                              obtain ⟨J290, hJ292, S, h291⟩ := S.freeze (r := R_regex_sign) (l := [(T_regex_sign.mk (runeAt x0 p7) 0 false)]) 0 rfl ⟨[.int .i32 (runeAt x0 p7), .int .u32 0, .bool false], _, rfl, rfl, rfl⟩ rfl rfl
                              have hy200_2 := hy200_2.mono hJ292
                              have hI := hI.trans hJ292
                              have hL13 := hL13.trans hJ292
                              have hG := hG.mono hJ292
                              obtain ⟨l293, h295, H⟩ := obx H
                              refine U rfl rfl (o_appD (r := R_regex_sign) tsl39 rfl tz51 rfl rfl S 4 rfl rfl hy200_2 h291 h295 fun v294 w J297 hJ298 S h296 => ?_)
                              have hy200_2 := hy200_2.mono hJ298
                              have h291 := h291.mono hJ298
                              have hI := hI.trans hJ298
                              have hL13 := hL13.trans hJ298
                              have hG := hG.mono hJ298
                              refine U rfl rfl (o_st tone39 S 3 rfl rfl rfl h296.one fun w S => ?_)
                              exact ⟨q12, Nat.le_refl _, (p7 + runeW x0 p7), y200.2.1, l293, v294, J297, H, (Nat.le_of_succ_le hq23), ⟨rfl, rfl, rfl, rfl, rfl, trivial⟩, hL13, (S.sel 6 [4, 5, 1, 3, 2] rfl), h296⟩
                            · rw [if_neg cc288] at H
                              refine FW.condF rfl (eqF cc288) ?_
                              refine FW.seq ?_
                              refine FW.region ?_
                              refine U rfl rfl (V (x_bin rfl rfl rfl) ?_)
                              refine U rfl rfl (V (x_asgV (v := .bool ((runeAt x0 p7) == 46)) rfl) ?_)
                              by_cases cc299 : (runeAt x0 p7) = 46
                              · rw [if_pos cc299] at H
                                refine FW.condT rfl (eqT cc299) ?_
                                refine FW.skip ?_
                                refine FW.condT rfl (eqT cc299) ?_
                                refine FW.anew [(1, .pointer (some ⟨b1, 0, none⟩)), (4, .pointer (some ⟨b2, 0, none⟩)), (5, .pointer (some ⟨b3, 0, none⟩)), (6, .func (.func 26) #[] #[.pointer (some ⟨b3, 0, none⟩), .pointer (some ⟨b1, 0, none⟩), .pointer (some ⟨b2, 0, none⟩)]), (8, .int .i32 (runeAt x0 p7)), (13, .pointer (some ⟨b4, 0, none⟩))] ⟨rfl, rfl, rfl, rfl, rfl, rfl, trivial⟩ fun σ => ?_
                                refine FW.region ?_
                                refine U rfl rfl (V (x_ld tsc39 rfl (S.load 2 rfl 0 rfl)) ?_)
                                refine U rfl rfl (V (x_movV (v := .int .i32 (runeAt x0 p7)) rfl) ?_)
                                refine U rfl rfl (V (x_bld tz51 tpl51 rfl (.one rfl PC.nil) rfl) ?_)
                                refine U rfl rfl (o_bsl tsl39 tz51 rfl rfl rfl rfl (.agg PC.nil) rfl S fun b300 w S => ?_)
                                obtain ⟨J301, hJ303, S, h302⟩ := S.freeze (r := R_regex_sign) (l := [(T_regex_sign.mk (runeAt x0 p7) 0 false)]) 0 rfl ⟨[.int .i32 (runeAt x0 p7), .int .u32 0, .bool false], _, rfl, rfl, rfl⟩ rfl rfl
                                have hy200_2 := hy200_2.mono hJ303
                                have hI := hI.trans hJ303
                                have hL13 := hL13.trans hJ303
                                have hG := hG.mono hJ303
                                obtain ⟨l304, h306, H⟩ := obx H
                                refine U rfl rfl (o_appD (r := R_regex_sign) tsl39 rfl tz51 rfl rfl S 4 rfl rfl hy200_2 h302 h306 fun v305 w J308 hJ309 S h307 => ?_)
                                have hy200_2 := hy200_2.mono hJ309
                                have h302 := h302.mono hJ309
                                have hI := hI.trans hJ309
                                have hL13 := hL13.trans hJ309
                                have hG := hG.mono hJ309
                                refine U rfl rfl (o_st tone39 S 3 rfl rfl rfl h307.one fun w S => ?_)
                                exact ⟨q12, Nat.le_refl _, (p7 + runeW x0 p7), y200.2.1, l304, v305, J308, H, (Nat.le_of_succ_le hq23), ⟨rfl, rfl, rfl, rfl, rfl, trivial⟩, hL13, (S.sel 6 [4, 5, 1, 3, 2] rfl), h307⟩
                              · rw [if_neg cc299] at H
                                refine FW.condF rfl (eqF cc299) ?_
                                refine FW.seq ?_
                                refine FW.anew [(1, .pointer (some ⟨b1, 0, none⟩)), (4, .pointer (some ⟨b2, 0, none⟩)), (5, .pointer (some ⟨b3, 0, none⟩)), (6, .func (.func 26) #[] #[.pointer (some ⟨b3, 0, none⟩), .pointer (some ⟨b1, 0, none⟩), .pointer (some ⟨b2, 0, none⟩)]), (8, .int .i32 (runeAt x0 p7)), (13, .pointer (some ⟨b4, 0, none⟩)), (31, .int .i32 (runeAt x0 p7))] ⟨rfl, rfl, rfl, rfl, rfl, rfl, rfl, trivial⟩ fun σ => ?_
                                refine FW.region ?_
                                refine U rfl rfl (V (x_bin rfl rfl rfl) ?_)
                                refine U rfl rfl (V (x_asgV (v := .bool ((runeAt x0 p7) == 42)) rfl) ?_)
                                by_cases cc310 : (runeAt x0 p7) = 42
                                · rw [if_pos cc310] at H
                                  refine FW.condT rfl (eqT cc310) ?_
                                  refine FW.skip ?_
                                  refine FW.condT rfl (eqT cc310) ?_
                                  refine FW.region ?_
                                  refine U rfl rfl (V (x_ld tsc39 rfl (S.load 2 rfl 0 rfl)) ?_)
                                  refine U rfl rfl (V (x_movV (v := .int .i32 (runeAt x0 p7)) rfl) ?_)
                                  refine U rfl rfl (V (x_bld tz51 tpl51 rfl (.one rfl PC.nil) rfl) ?_)
                                  refine U rfl rfl (o_bsl tsl39 tz51 rfl rfl rfl rfl (.agg PC.nil) rfl S fun b311 w S => ?_)
                                  obtain ⟨J312, hJ314, S, h313⟩ := S.freeze (r := R_regex_sign) (l := [(T_regex_sign.mk (runeAt x0 p7) 0 false)]) 0 rfl ⟨[.int .i32 (runeAt x0 p7), .int .u32 0, .bool false], _, rfl, rfl, rfl⟩ rfl rfl
                                  have hy200_2 := hy200_2.mono hJ314
                                  have hI := hI.trans hJ314
                                  have hL13 := hL13.trans hJ314
                                  have hG := hG.mono hJ314
                                  obtain ⟨l315, h317, H⟩ := obx H
                                  refine U rfl rfl (o_appD (r := R_regex_sign) tsl39 rfl tz51 rfl rfl S 4 rfl rfl hy200_2 h313 h317 fun v316 w J319 hJ320 S h318 => ?_)
                                  have hy200_2 := hy200_2.mono hJ320
                                  have h313 := h313.mono hJ320
                                  have hI := hI.trans hJ320
                                  have hL13 := hL13.trans hJ320
                                  have hG := hG.mono hJ320
                                  refine U rfl rfl (o_st tone39 S 3 rfl rfl rfl h318.one fun w S => ?_)
                                  exact ⟨q12, Nat.le_refl _, (p7 + runeW x0 p7), y200.2.1, l315, v316, J319, H, (Nat.le_of_succ_le hq23), ⟨rfl, rfl, rfl, rfl, rfl, trivial⟩, hL13, (S.sel 6 [4, 5, 1, 3, 2] rfl), h318⟩
                                · rw [if_neg cc310] at H
                                  refine FW.condF rfl (eqF cc310) ?_
                                  refine FW.seq ?_
                                  refine FW.region ?_
                                  refine U rfl rfl (V (x_bin rfl rfl rfl) ?_)
                                  refine U rfl rfl (V (x_asgV (v := .bool ((runeAt x0 p7) == 43)) rfl) ?_)
                                  by_cases cc321 : (runeAt x0 p7) = 43
                                  · rw [if_pos cc321] at H
                                    refine FW.condT rfl (eqT cc321) ?_
                                    refine FW.skip ?_
                                    refine FW.condT rfl (eqT cc321) ?_
                                    refine FW.region ?_
                                    refine U rfl rfl (V (x_ld tsc39 rfl (S.load 2 rfl 0 rfl)) ?_)
                                    refine U rfl rfl (V (x_movV (v := .int .i32 (runeAt x0 p7)) rfl) ?_)
                                    refine U rfl rfl (V (x_bld tz51 tpl51 rfl (.one rfl PC.nil) rfl) ?_)
                                    refine U rfl rfl (o_bsl tsl39 tz51 rfl rfl rfl rfl (.agg PC.nil) rfl S fun b322 w S => ?_)
                                    obtain ⟨J323, hJ325, S, h324⟩ := S.freeze (r := R_regex_sign) (l := [(T_regex_sign.mk (runeAt x0 p7) 0 false)]) 0 rfl ⟨[.int .i32 (runeAt x0 p7), .int .u32 0, .bool false], _, rfl, rfl, rfl⟩ rfl rfl
                                    have hy200_2 := hy200_2.mono hJ325
                                    have hI := hI.trans hJ325
                                    have hL13 := hL13.trans hJ325
                                    have hG := hG.mono hJ325
                                    obtain ⟨l326, h328, H⟩ := obx H
                                    refine U rfl rfl (o_appD (r := R_regex_sign) tsl39 rfl tz51 rfl rfl S 4 rfl rfl hy200_2 h324 h328 fun v327 w J330 hJ331 S h329 => ?_)
                                    have hy200_2 := hy200_2.mono hJ331
                                    have h324 := h324.mono hJ331
                                    have hI := hI.trans hJ331
                                    have hL13 := hL13.trans hJ331
                                    have hG := hG.mono hJ331
                                    refine U rfl rfl (o_st tone39 S 3 rfl rfl rfl h329.one fun w S => ?_)
                                    exact ⟨q12, Nat.le_refl _, (p7 + runeW x0 p7), y200.2.1, l326, v327, J330, H, (Nat.le_of_succ_le hq23), ⟨rfl, rfl, rfl, rfl, rfl, trivial⟩, hL13, (S.sel 6 [4, 5, 1, 3, 2] rfl), h329⟩
                                  · rw [if_neg cc321] at H
                                    refine FW.condF rfl (eqF cc321) ?_
                                    refine FW.seq ?_
                                    refine FW.region ?_
                                    refine U rfl rfl (V (x_bin rfl rfl rfl) ?_)
                                    refine U rfl rfl (V (x_asgV (v := .bool ((runeAt x0 p7) == 63)) rfl) ?_)
                                    by_cases cc332 : (runeAt x0 p7) = 63
                                    · rw [if_pos cc332] at H
                                      refine FW.condT rfl (eqT cc332) ?_
                                      refine FW.skip ?_
                                      refine FW.condT rfl (eqT cc332) ?_
                                      refine FW.region ?_
                                      refine U rfl rfl (V (x_ld tsc39 rfl (S.load 2 rfl 0 rfl)) ?_)
                                      refine U rfl rfl (V (x_movV (v := .int .i32 (runeAt x0 p7)) rfl) ?_)
                                      refine U rfl rfl (V (x_bld tz51 tpl51 rfl (.one rfl PC.nil) rfl) ?_)
                                      refine U rfl rfl (o_bsl tsl39 tz51 rfl rfl rfl rfl (.agg PC.nil) rfl S fun b333 w S => ?_)
                                      obtain ⟨J334, hJ336, S, h335⟩ := S.freeze (r := R_regex_sign) (l := [(T_regex_sign.mk (runeAt x0 p7) 0 false)]) 0 rfl ⟨[.int .i32 (runeAt x0 p7), .int .u32 0, .bool false], _, rfl, rfl, rfl⟩ rfl rfl
                                      have hy200_2 := hy200_2.mono hJ336
                                      have hI := hI.trans hJ336
                                      have hL13 := hL13.trans hJ336
                                      have hG := hG.mono hJ336
                                      obtain ⟨l337, h339, H⟩ := obx H
                                      refine U rfl rfl (o_appD (r := R_regex_sign) tsl39 rfl tz51 rfl rfl S 4 rfl rfl hy200_2 h335 h339 fun v338 w J341 hJ342 S h340 => ?_)
                                      have hy200_2 := hy200_2.mono hJ342
                                      have h335 := h335.mono hJ342
                                      have hI := hI.trans hJ342
                                      have hL13 := hL13.trans hJ342
                                      have hG := hG.mono hJ342
                                      refine U rfl rfl (o_st tone39 S 3 rfl rfl rfl h340.one fun w S => ?_)
                                      exact ⟨q12, Nat.le_refl _, (p7 + runeW x0 p7), y200.2.1, l337, v338, J341, H, (Nat.le_of_succ_le hq23), ⟨rfl, rfl, rfl, rfl, rfl, trivial⟩, hL13, (S.sel 6 [4, 5, 1, 3, 2] rfl), h340⟩
                                    · rw [if_neg cc332] at H
                                      refine FW.condF rfl (eqF cc332) ?_
                                      refine FW.seq ?_
                                      refine FW.region ?_
                                      refine U rfl rfl (V (x_bin rfl rfl rfl) ?_)
                                      refine U rfl rfl (V (x_asgV (v := .bool ((runeAt x0 p7) == 45)) rfl) ?_)
                                      by_cases cc343 : (runeAt x0 p7) = 45
                                      · rw [if_pos cc343] at H
                                        refine FW.condT rfl (eqT cc343) ?_
                                        refine FW.skip ?_
                                        refine FW.condT rfl (eqT cc343) ?_
                                        refine FW.anew [(1, .pointer (some ⟨b1, 0, none⟩)), (4, .pointer (some ⟨b2, 0, none⟩)), (5, .pointer (some ⟨b3, 0, none⟩)), (6, .func (.func 26) #[] #[.pointer (some ⟨b3, 0, none⟩), .pointer (some ⟨b1, 0, none⟩), .pointer (some ⟨b2, 0, none⟩)]), (8, .int .i32 (runeAt x0 p7)), (13, .pointer (some ⟨b4, 0, none⟩))] ⟨rfl, rfl, rfl, rfl, rfl, rfl, trivial⟩ fun σ => ?_
                                        refine FW.region ?_
                                        refine U rfl rfl (V (x_ld tsc39 rfl (S.load 2 rfl 0 rfl)) ?_)
                                        refine U rfl rfl (V (x_movV (v := .int .i32 (runeAt x0 p7)) rfl) ?_)
                                        refine U rfl rfl (V (x_bld tz51 tpl51 rfl (.one rfl PC.nil) rfl) ?_)
                                        refine U rfl rfl (o_bsl tsl39 tz51 rfl rfl rfl rfl (.agg PC.nil) rfl S fun b344 w S => ?_)
                                        obtain ⟨J345, hJ347, S, h346⟩ := S.freeze (r := R_regex_sign) (l := [(T_regex_sign.mk (runeAt x0 p7) 0 false)]) 0 rfl ⟨[.int .i32 (runeAt x0 p7), .int .u32 0, .bool false], _, rfl, rfl, rfl⟩ rfl rfl
                                        have hy200_2 := hy200_2.mono hJ347
                                        have hI := hI.trans hJ347
                                        have hL13 := hL13.trans hJ347
                                        have hG := hG.mono hJ347
                                        obtain ⟨l348, h350, H⟩ := obx H
                                        refine U rfl rfl (o_appD (r := R_regex_sign) tsl39 rfl tz51 rfl rfl S 4 rfl rfl hy200_2 h346 h350 fun v349 w J352 hJ353 S h351 => ?_)
                                        have hy200_2 := hy200_2.mono hJ353
                                        have h346 := h346.mono hJ353
                                        have hI := hI.trans hJ353
                                        have hL13 := hL13.trans hJ353
                                        have hG := hG.mono hJ353
                                        refine U rfl rfl (o_st tone39 S 3 rfl rfl rfl h351.one fun w S => ?_)
                                        exact ⟨q12, Nat.le_refl _, (p7 + runeW x0 p7), y200.2.1, l348, v349, J352, H, (Nat.le_of_succ_le hq23), ⟨rfl, rfl, rfl, rfl, rfl, trivial⟩, hL13, (S.sel 6 [4, 5, 1, 3, 2] rfl), h351⟩
                                      · rw [if_neg cc343] at H
                                        refine FW.condF rfl (eqF cc343) ?_
                                        refine FW.anew [(1, .pointer (some ⟨b1, 0, none⟩)), (4, .pointer (some ⟨b2, 0, none⟩)), (5, .pointer (some ⟨b3, 0, none⟩)), (6, .func (.func 26) #[] #[.pointer (some ⟨b3, 0, none⟩), .pointer (some ⟨b1, 0, none⟩), .pointer (some ⟨b2, 0, none⟩)]), (8, .int .i32 (runeAt x0 p7)), (13, .pointer (some ⟨b4, 0, none⟩)), (31, .int .i32 (runeAt x0 p7))] ⟨rfl, rfl, rfl, rfl, rfl, rfl, rfl, trivial⟩ fun σ => ?_
                                        refine FW.region ?_
                                        refine U rfl rfl (V (x_bin rfl rfl rfl) ?_)
                                        refine U rfl rfl (V (x_asgV (v := .bool ((runeAt x0 p7) == 44)) rfl) ?_)
                                        by_cases cc354 : (runeAt x0 p7) = 44
                                        · rw [if_pos cc354] at H
                                          refine FW.condT rfl (eqT cc354) ?_
                                          refine FW.region ?_
                                          refine U rfl rfl (V (x_ld tsc39 rfl (S.load 2 rfl 0 rfl)) ?_)
                                          refine U rfl rfl (V (x_movV (v := .int .i32 (runeAt x0 p7)) rfl) ?_)
                                          refine U rfl rfl (V (x_bld tz51 tpl51 rfl (.one rfl PC.nil) rfl) ?_)
                                          refine U rfl rfl (o_bsl tsl39 tz51 rfl rfl rfl rfl (.agg PC.nil) rfl S fun b355 w S => ?_)
                                          obtain ⟨J356, hJ358, S, h357⟩ := S.freeze (r := R_regex_sign) (l := [(T_regex_sign.mk (runeAt x0 p7) 0 false)]) 0 rfl ⟨[.int .i32 (runeAt x0 p7), .int .u32 0, .bool false], _, rfl, rfl, rfl⟩ rfl rfl
                                          have hy200_2 := hy200_2.mono hJ358
                                          have hI := hI.trans hJ358
                                          have hL13 := hL13.trans hJ358
                                          have hG := hG.mono hJ358
                                          obtain ⟨l359, h361, H⟩ := obx H
                                          refine U rfl rfl (o_appD (r := R_regex_sign) tsl39 rfl tz51 rfl rfl S 4 rfl rfl hy200_2 h357 h361 fun v360 w J363 hJ364 S h362 => ?_)
                                          have hy200_2 := hy200_2.mono hJ364
                                          have h357 := h357.mono hJ364
                                          have hI := hI.trans hJ364
                                          have hL13 := hL13.trans hJ364
                                          have hG := hG.mono hJ364
                                          refine U rfl rfl (o_st tone39 S 3 rfl rfl rfl h362.one fun w S => ?_)
                                          exact ⟨q12, Nat.le_refl _, (p7 + runeW x0 p7), y200.2.1, l359, v360, J363, H, (Nat.le_of_succ_le hq23), ⟨rfl, rfl, rfl, rfl, rfl, trivial⟩, hL13, (S.sel 6 [4, 5, 1, 3, 2] rfl), h362⟩
                                        · rw [if_neg cc354] at H
                                          refine FW.condF rfl (eqF cc354) ?_
                                          refine FW.seq ?_
                                          refine FW.region ?_
                                          refine U rfl rfl (V (x_asgV (v := (.slice none 0 0)) rfl) ?_)
                                          refine U rfl rfl (V (x_asgV (v := .bool false) rfl) ?_)
                                          refine FW.ret ?_
                                          have S := S.nil_tv 51 3
                                          obtain rfl := Option.some.inj H
                                          obtain rfl := Option.some.inj HO15
                                          exact ⟨_, ⟨_, rfl, ⟨_, rfl, rfl⟩⟩, ⟨(.slice none 0 0), J205, hI, rfl, (SlR.nil _ _), (S.sel 6 [0] rfl)⟩⟩
          · rw [if_neg cc204] at H
            refine FW.condT rfl (noT (vaF cc204)) ?_
            refine FW.seq ?_
            refine FW.region ?_
            refine U rfl rfl (V (x_asgV (v := (.slice none 0 0)) rfl) ?_)
            refine U rfl rfl (V (x_asgV (v := .bool false) rfl) ?_)
            refine FW.ret ?_
            have S := S.nil_tv 51 3
            obtain rfl := Option.some.inj H
            obtain rfl := Option.some.inj HO15
            exact ⟨_, ⟨_, rfl, ⟨_, rfl, rfl⟩⟩, ⟨(.slice none 0 0), J202, hI, rfl, (SlR.nil _ _), (S.sel 6 [0] rfl)⟩⟩
      · rw [if_neg cc24] at H
        refine U rfl rfl (o_nxtF S 1 rfl rfl cc24 ?_)
        refine U rfl rfl (V (x_ext rfl rfl) ?_)
        refine FW.seq ?_
        refine FW.condF rfl rfl ?_
        refine FW.exit ?_
        exact ⟨p7, n8, l9, v10, J6, (Option.some.inj H), ⟨rfl, rfl, rfl, trivial⟩, hL13, S, h11⟩
  · rintro σ w ⟨p18, n19, l20, v21, J17, ho, hσ, hL13, S, h22⟩
    subst ho
    have H := HO15
    try dsimp only at H
    have hI := hI.trans hL13
    have hG := hG.mono hL13
    rw [hσ.eq]
    refine FW.seq ?_
    refine FW.region ?_
    refine U rfl rfl (V (x_ld tsc9 rfl (S.load 4 rfl 0 rfl)) ?_)
    refine U rfl rfl (V (x_lens tstr9 rfl) ?_)
    refine U rfl rfl (V (x_asgV (v := .int .i64 (x0.size : Int)) rfl) ?_)
    refine FW.seq ?_
    refine FW.region ?_
    refine U rfl rfl (V (x_movV (v := .func (.func 26) #[] #[.pointer (some ⟨b3, 0, none⟩), .pointer (some ⟨b1, 0, none⟩), .pointer (some ⟨b2, 0, none⟩)]) rfl) ?_)
    refine U rfl rfl (V (x_movV (v := .int .i64 (x0.size : Int)) rfl) ?_)
    obtain ⟨y367, hy368, H⟩ := obx H
    refine U rfl rfl (clv rfl fb26 (@regex_signs_1.ok k (x0.size : Int) n19 x0 l20 _ _ _ _ _ _ _ _ hG (S.sel 5 [2, 4, 3, 0, 1] rfl) h22 hy368) rfl ?_)
    rintro _ w ⟨vy367_2, J369, hJ370, rfl, hy367_2, S⟩
    have hI := hI.trans hJ370
    have hG := hG.mono hJ370
    refine U rfl rfl (V (x_asgV (v := .bool y367.1) rfl) ?_)
    refine FW.seq ?_
    refine FW.anew [(4, .pointer (some ⟨b2, 0, none⟩)), (10, .bool y367.1)] ⟨rfl, rfl, trivial⟩ fun σ => ?_
    refine FW.region ?_
    refine U rfl rfl (V (x_ld tsc39 rfl (S.load 2 rfl 0 rfl)) ?_)
    refine U rfl rfl (V (x_movV (v := .bool y367.1) rfl) ?_)
    refine U rfl rfl (V (x_asgV (v := vy367_2) rfl) ?_)
    refine U rfl rfl (V (x_asgV (v := .bool y367.1) rfl) ?_)
    refine FW.ret ?_
    obtain rfl := Option.some.inj H
    exact ⟨_, ⟨_, rfl, ⟨_, rfl, rfl⟩⟩, ⟨vy367_2, J369, hI, rfl, hy367_2, (S.sel 5 [3] rfl)⟩⟩

def regex_reader_peek.l0 : Nat → (List T_regex_sign) → Option (List T_regex_sign)
  | 0, _ => none
  | k + 1, l3 => (if (l3.length : Int) > 0 then ((lat l3 0).bind fun y17 => (if y17.c = 32 then ((cutL l3 1).bind fun l26 => (regex_reader_peek.l0 k l26)) else (some l3))) else (some l3))
def regex_reader_peek.f (k : Nat) (x0 : T_regex_reader) : Option (T_regex_sign × T_regex_reader) := ((regex_reader_peek.l0 k x0.rest).bind fun l12 => (if (l12.length : Int) = 0 then (some ((T_regex_sign.mk 0 0 false), (T_regex_reader.mk l12 x0.bad))) else ((lat l12 0).bind fun y30 => (some (y30, (T_regex_reader.mk l12 x0.bad))))))
abbrev regex_reader_peek.C (k : Nat) : Prop := ∀ {x0 : T_regex_reader} {x0v0 : Value} {bx0 : Nat} {F : List It} {I : IMem} {w : World} {r : T_regex_sign × T_regex_reader}, Glob I → Own I w (.bk bx0 44 [x0v0, .bool x0.bad] :: F) → SlR R_regex_sign I x0v0 x0.rest → regex_reader_peek.f k x0 = some r →
    Calls Tryd.prog 18 #[.pointer (some ⟨bx0, 0, none⟩)] w fun e w' => ∃ v, e = .returned v ∧ ∃ (y_1v0 : Value) (J : IMem), I.le J ∧ v = .agg #[.int .i32 r.1.c, .int .u32 r.1.n, .bool r.1.digits] ∧ SlR R_regex_sign J y_1v0 r.2.rest ∧ Own J w' (.bk bx0 44 [y_1v0, .bool r.2.bad] :: F)
theorem regex_reader_peek.ok (k : Nat) : regex_reader_peek.C k := by
  intro x0 x0v0 bx0 F I w r hG S x0h0 H
  have hI := IMem.le.refl I
  rw [regex_reader_peek.f] at H
  refine Calls.ofFW (args := [.pointer (some ⟨bx0, 0, none⟩)]) Tryd.func18 rfl rfl ?_
  refine FW.seq ?_
  refine FW.region ?_
  refine U rfl rfl (o_all tz51 S fun b1 w S => ?_)
  refine FW.seq ?_
  refine FW.block ?_
  obtain ⟨o8, hl10, HO9⟩ := obx H
  refine FW.cutX 0 (fun σ w => ∃ (l12 : (List T_regex_sign)) (v13 : Value) (J11 : IMem), l12 = o8 ∧ Has σ [(0, .pointer (some ⟨bx0, 0, none⟩)), (2, .pointer (some ⟨b1, 0, none⟩))] ∧ I.le J11 ∧ Own J11 w (.bk b1 51 [.int .i32 0, .int .u32 0, .bool false] :: .bk bx0 44 [v13, .bool x0.bad] :: F) ∧ SlR R_regex_sign J11 v13 l12) ?_ ?_
  ·
    refine FW.loop k (FL.ind (fun q σ w => ∃ (l3 : (List T_regex_sign)) (v4 : Value) (J2 : IMem), regex_reader_peek.l0 q l3 = some o8 ∧ q ≤ k ∧ Has σ [(0, .pointer (some ⟨bx0, 0, none⟩)), (2, .pointer (some ⟨b1, 0, none⟩))] ∧ I.le J2 ∧ Own J2 w (.bk b1 51 [.int .i32 0, .int .u32 0, .bool false] :: .bk bx0 44 [v4, .bool x0.bad] :: F) ∧ SlR R_regex_sign J2 v4 l3) ?_ ?_ k k _ _ (Nat.le_refl _) ⟨x0.rest, x0v0, I, hl10, Nat.le_refl _, ⟨rfl, rfl, trivial⟩, (IMem.le.refl _), S, x0h0⟩)
    · rintro σ w ⟨l3, v4, J2, H, _⟩; cases H
    · rintro q6 σ w ⟨l3, v4, J2, H, hq15, hσ, hL7, S, h5⟩
      have hI := hI.trans hL7
      have hG := hG.mono hL7
      rw [hσ.eq]
      rw [regex_reader_peek.l0] at H
      refine FW.seq ?_
      refine FW.seq ?_
      refine FW.region ?_
      refine U rfl rfl (V (x_movV (v := .pointer (some ⟨bx0, 0, none⟩)) rfl) ?_)
      refine U rfl rfl (V (x_nk rfl) ?_)
      refine U rfl rfl (V (x_fa tf44_0 rfl) ?_)
      refine U rfl rfl (V (x_ld tsc39 rfl (S.load 1 rfl 0 rfl)) ?_)
      refine U rfl rfl (V (x_lenD (r := R_regex_sign) tsl39 h5) ?_)
      refine U rfl rfl (V (x_bin rfl rfl rfl) ?_)
      refine U rfl rfl (V (x_movV (v := .bool (decide ((l3.length : Int) > 0))) rfl) ?_)
      by_cases cc16 : (l3.length : Int) > 0
      · rw [if_pos cc16] at H
        refine OK.gt rfl rfl rfl (deT cc16) (V (x_movV (v := .pointer (some ⟨bx0, 0, none⟩)) rfl) ?_)
        refine OK.gt rfl rfl rfl (deT cc16) (V (x_nk rfl) ?_)
        refine OK.gt rfl rfl rfl (deT cc16) (V (x_fa tf44_0 rfl) ?_)
        refine OK.gt rfl rfl rfl (deT cc16) (V (x_ld tsc39 rfl (S.load 1 rfl 0 rfl)) ?_)
        obtain ⟨y17, h18, H⟩ := obx H
        refine OK.gt rfl rfl rfl (deT cc16) (o_ia (r := R_regex_sign) tsl39 rfl rfl h5 rfl h18 fun b19 o20 cs21 hr22 hc23 => ?_)
        obtain rfl := hr22
        refine OK.gt rfl rfl rfl (deT cc16) (V (x_fa tf51_0 rfl) ?_)
        refine OK.gt rfl rfl rfl (deT cc16) (V (x_ld tsc21 rfl (S.cell _ _ _ (hc23 0 _ rfl))) ?_)
        refine OK.gt rfl rfl rfl (deT cc16) (V (x_bin rfl rfl rfl) ?_)
        refine U rfl rfl (V (x_pickTV (v := .bool (y17.c == 32)) rfl (deT cc16) rfl) ?_)
        by_cases cc24 : y17.c = 32
        · rw [if_pos cc24] at H
          refine FW.condT rfl (eqT cc24) ?_
          refine FW.skip ?_
          refine FW.block ?_
          refine FW.anew [(0, .pointer (some ⟨bx0, 0, none⟩)), (2, .pointer (some ⟨b1, 0, none⟩))] ⟨rfl, rfl, trivial⟩ fun σ => ?_
          refine FW.region ?_
          refine U rfl rfl (V (x_movV (v := .pointer (some ⟨bx0, 0, none⟩)) rfl) ?_)
          refine U rfl rfl (V (x_movV (v := .pointer (some ⟨bx0, 0, none⟩)) rfl) ?_)
          refine U rfl rfl (V (x_nk rfl) ?_)
          refine U rfl rfl (V (x_fa tf44_0 rfl) ?_)
          refine U rfl rfl (V (x_ld tsc39 rfl (S.load 1 rfl 0 rfl)) ?_)
          obtain ⟨l26, h25, H⟩ := obx H
          refine U rfl rfl (o_cutL (r := R_regex_sign) tsl39 rfl h5 rfl h25 fun v27 h28 => ?_)
          refine U rfl rfl (V (x_nk rfl) ?_)
          refine U rfl rfl (V (x_fa tf44_0 rfl) ?_)
          refine U rfl rfl (o_st tone39 S 1 rfl rfl rfl h28.one fun w S => ?_)
          exact ⟨q6, Nat.le_refl _, l26, v27, J2, H, (Nat.le_of_succ_le hq15), ⟨rfl, rfl, trivial⟩, hL7, S, h28⟩
        · rw [if_neg cc24] at H
          refine FW.condF rfl (eqF cc24) ?_
          refine FW.exit ?_
          exact ⟨l3, v4, J2, (Option.some.inj H), ⟨rfl, rfl, trivial⟩, hL7, S, h5⟩
      · rw [if_neg cc16] at H
        refine OK.gf rfl rfl rfl (deF cc16) ?_
        refine OK.gf rfl rfl rfl (deF cc16) ?_
        refine OK.gf rfl rfl rfl (deF cc16) ?_
        refine OK.gf rfl rfl rfl (deF cc16) ?_
        refine OK.gf rfl rfl rfl (deF cc16) ?_
        refine OK.gf rfl rfl rfl (deF cc16) ?_
        refine OK.gf rfl rfl rfl (deF cc16) ?_
        refine OK.gf rfl rfl rfl (deF cc16) ?_
        refine U rfl rfl (V (x_pickFV (v := .bool false) rfl (deF cc16) rfl) ?_)
        refine FW.condF rfl rfl ?_
        refine FW.exit ?_
        exact ⟨l3, v4, J2, (Option.some.inj H), ⟨rfl, rfl, trivial⟩, hL7, S, h5⟩
  · rintro σ w ⟨l12, v13, J11, ho, hσ, hL7, S, h14⟩
    subst ho
    have H := HO9
    have hI := hI.trans hL7
    have hG := hG.mono hL7
    rw [hσ.eq]
    refine FW.seq ?_
    refine FW.seq ?_
    refine FW.region ?_
    refine U rfl rfl (V (x_movV (v := .pointer (some ⟨bx0, 0, none⟩)) rfl) ?_)
    refine U rfl rfl (V (x_nk rfl) ?_)
    refine U rfl rfl (V (x_fa tf44_0 rfl) ?_)
    refine U rfl rfl (V (x_ld tsc39 rfl (S.load 1 rfl 0 rfl)) ?_)
    refine U rfl rfl (V (x_lenD (r := R_regex_sign) tsl39 h14) ?_)
    refine U rfl rfl (V (x_bin rfl rfl rfl) ?_)
    by_cases cc29 : (l12.length : Int) = 0
    · rw [if_pos cc29] at H
      refine FW.condT rfl (eqT cc29) ?_
      refine FW.seq ?_
      refine FW.region ?_
      refine U rfl rfl (V (x_bld tz51 tpl51 rfl PC.nil rfl) ?_)
      refine U rfl rfl (o_stA tag51 S 0 rfl rfl rfl rfl (c1 rfl (c1 rfl (c1 rfl c0))) rfl fun w S => ?_)
      refine FW.ret ?_
      obtain rfl := Option.some.inj H
      exact ⟨_, ⟨_, _, _, rfl, rfl, ldA tag51 (S.loadW 0 rfl) rfl, rfl⟩, ⟨v13, J11, hI, rfl, h14, (S.sel 2 [1] rfl)⟩⟩
    · rw [if_neg cc29] at H
      refine FW.condF rfl (eqF cc29) ?_
      refine FW.skip ?_
      refine FW.seq ?_
      refine FW.region ?_
      refine U rfl rfl (V (x_movV (v := .pointer (some ⟨bx0, 0, none⟩)) rfl) ?_)
      refine U rfl rfl (V (x_nk rfl) ?_)
      refine U rfl rfl (V (x_fa tf44_0 rfl) ?_)
      refine U rfl rfl (V (x_ld tsc39 rfl (S.load 1 rfl 0 rfl)) ?_)
      obtain ⟨y30, h31, H⟩ := obx H
      refine U rfl rfl (o_ia (r := R_regex_sign) tsl39 rfl rfl h14 rfl h31 fun b32 o33 cs34 hr35 hc36 => ?_)
      obtain rfl := hr35
      refine U rfl rfl (V (x_ldA tag51 rfl (S.loadI hc36) rfl) ?_)
      refine U rfl rfl (o_stA tag51 S 0 rfl rfl rfl rfl (c1 rfl (c1 rfl (c1 rfl c0))) rfl fun w S => ?_)
      refine FW.ret ?_
      obtain rfl := Option.some.inj H
      exact ⟨_, ⟨_, _, _, rfl, rfl, ldA tag51 (S.loadW 0 rfl) rfl, rfl⟩, ⟨v13, J11, hI, rfl, h14, (S.sel 2 [1] rfl)⟩⟩

def regex_reader_next.f (k : Nat) (x0 : T_regex_reader) : Option (T_regex_sign × T_regex_reader) := ((regex_reader_peek.f k x0).bind fun y2 => (if (y2.2.rest.length : Int) > 0 then ((cutL y2.2.rest 1).bind fun l9 => (some (y2.1, (T_regex_reader.mk l9 y2.2.bad)))) else (some (y2.1, y2.2))))
abbrev regex_reader_next.C (k : Nat) : Prop := ∀ {x0 : T_regex_reader} {x0v0 : Value} {bx0 : Nat} {F : List It} {I : IMem} {w : World} {r : T_regex_sign × T_regex_reader}, Glob I → Own I w (.bk bx0 44 [x0v0, .bool x0.bad] :: F) → SlR R_regex_sign I x0v0 x0.rest → regex_reader_next.f k x0 = some r →
    Calls Tryd.prog 29 #[.pointer (some ⟨bx0, 0, none⟩)] w fun e w' => ∃ v, e = .returned v ∧ ∃ (y_1v0 : Value) (J : IMem), I.le J ∧ v = .agg #[.int .i32 r.1.c, .int .u32 r.1.n, .bool r.1.digits] ∧ SlR R_regex_sign J y_1v0 r.2.rest ∧ Own J w' (.bk bx0 44 [y_1v0, .bool r.2.bad] :: F)
theorem regex_reader_next.ok (k : Nat) : regex_reader_next.C k := by
  intro x0 x0v0 bx0 F I w r hG S x0h0 H
  have hI := IMem.le.refl I
  rw [regex_reader_next.f] at H
  refine Calls.ofFW (args := [.pointer (some ⟨bx0, 0, none⟩)]) Tryd.func29 rfl rfl ?_
  refine FW.seq ?_
  refine FW.region ?_
  refine U rfl rfl (o_all tz51 S fun b1 w S => ?_)
  refine FW.seq ?_
  refine FW.region ?_
  refine U rfl rfl (V (x_movV (v := .pointer (some ⟨bx0, 0, none⟩)) rfl) ?_)
  obtain ⟨y2, hy3, H⟩ := obx H
  refine U rfl rfl (cl fb18 (@regex_reader_peek.ok k x0 _ _ _ _ _ _ hG (S.sel 2 [1, 0] rfl) x0h0 hy3) rfl ?_)
  rintro _ w ⟨y2_1v0, J4, hJ5, rfl, y2_1h0, S⟩
  have hI := hI.trans hJ5
  have hG := hG.mono hJ5
  refine U rfl rfl (o_all tz51 S fun b6 w S => ?_)
  refine U rfl rfl (o_stA tag51 S 0 rfl rfl rfl rfl (c1 rfl (c1 rfl (c1 rfl c0))) rfl fun w S => ?_)
  refine FW.seq ?_
  refine FW.seq ?_
  refine FW.region ?_
  refine U rfl rfl (V (x_movV (v := .pointer (some ⟨bx0, 0, none⟩)) rfl) ?_)
  refine U rfl rfl (V (x_nk rfl) ?_)
  refine U rfl rfl (V (x_fa tf44_0 rfl) ?_)
  refine U rfl rfl (V (x_ld tsc39 rfl (S.load 1 rfl 0 rfl)) ?_)
  refine U rfl rfl (V (x_lenD (r := R_regex_sign) tsl39 y2_1h0) ?_)
  refine U rfl rfl (V (x_bin rfl rfl rfl) ?_)
  by_cases cc7 : (y2.2.rest.length : Int) > 0
  · rw [if_pos cc7] at H
    refine FW.condT rfl (deT cc7) ?_
    refine FW.anew [(0, .pointer (some ⟨bx0, 0, none⟩)), (2, .pointer (some ⟨b1, 0, none⟩)), (3, .pointer (some ⟨b6, 0, none⟩))] ⟨rfl, rfl, rfl, trivial⟩ fun σ => ?_
    refine FW.region ?_
    refine U rfl rfl (V (x_movV (v := .pointer (some ⟨bx0, 0, none⟩)) rfl) ?_)
    refine U rfl rfl (V (x_movV (v := .pointer (some ⟨bx0, 0, none⟩)) rfl) ?_)
    refine U rfl rfl (V (x_nk rfl) ?_)
    refine U rfl rfl (V (x_fa tf44_0 rfl) ?_)
    refine U rfl rfl (V (x_ld tsc39 rfl (S.load 1 rfl 0 rfl)) ?_)
    obtain ⟨l9, h8, H⟩ := obx H
    refine U rfl rfl (o_cutL (r := R_regex_sign) tsl39 rfl y2_1h0 rfl h8 fun v10 h11 => ?_)
    refine U rfl rfl (V (x_nk rfl) ?_)
    refine U rfl rfl (V (x_fa tf44_0 rfl) ?_)
    refine U rfl rfl (o_st tone39 S 1 rfl rfl rfl h11.one fun w S => ?_)
    refine FW.seq ?_
    refine FW.anew [(2, .pointer (some ⟨b1, 0, none⟩)), (3, .pointer (some ⟨b6, 0, none⟩))] ⟨rfl, rfl, trivial⟩ fun σ => ?_
    refine FW.region ?_
    refine U rfl rfl (V (x_ldA tag51 rfl (S.loadW 0 rfl) rfl) ?_)
    refine U rfl rfl (o_stA tag51 S 2 rfl rfl rfl rfl (c1 rfl (c1 rfl (c1 rfl c0))) rfl fun w S => ?_)
    refine FW.ret ?_
    obtain rfl := Option.some.inj H
    exact ⟨_, ⟨_, _, _, rfl, rfl, ldA tag51 (S.loadW 2 rfl) rfl, rfl⟩, ⟨v10, J4, hI, rfl, h11, (S.sel 3 [1] rfl)⟩⟩
  · rw [if_neg cc7] at H
    refine FW.condF rfl (deF cc7) ?_
    refine FW.skip ?_
    refine FW.seq ?_
    refine FW.anew [(2, .pointer (some ⟨b1, 0, none⟩)), (3, .pointer (some ⟨b6, 0, none⟩))] ⟨rfl, rfl, trivial⟩ fun σ => ?_
    refine FW.region ?_
    refine U rfl rfl (V (x_ldA tag51 rfl (S.loadW 0 rfl) rfl) ?_)
    refine U rfl rfl (o_stA tag51 S 2 rfl rfl rfl rfl (c1 rfl (c1 rfl (c1 rfl c0))) rfl fun w S => ?_)
    refine FW.ret ?_
    obtain rfl := Option.some.inj H
    exact ⟨_, ⟨_, _, _, rfl, rfl, ldA tag51 (S.loadW 2 rfl) rfl, rfl⟩, ⟨y2_1v0, J4, hI, rfl, y2_1h0, (S.sel 3 [1] rfl)⟩⟩

def regex_reader_repeats.l0 : Nat → Int → (List T_regex_piece) → (List T_regex_span) → Bool → (List T_regex_sign) → Bool → Option (Sum (T_regex_piece × T_regex_reader) Unit)
  | 0, _, _, _, _, _, _ => none
  | k + 1, n4, l5, l8, b11, l12, b15 => ((regex_reader_peek.f k (T_regex_reader.mk l12 b15)).bind fun y22 => (if y22.1.c = 42 then ((regex_reader_next.f k y22.2).bind fun y27 => (regex_reader_repeats.l0 k 7 [(T_regex_piece.mk n4 l5 l8 b11)] [] false y27.2.rest y27.2.bad)) else (if y22.1.c = 43 then ((regex_reader_next.f k y22.2).bind fun y36 => (regex_reader_repeats.l0 k 8 [(T_regex_piece.mk n4 l5 l8 b11)] [] false y36.2.rest y36.2.bad)) else (if y22.1.c = 63 then ((regex_reader_next.f k y22.2).bind fun y45 => (regex_reader_repeats.l0 k 9 [(T_regex_piece.mk n4 l5 l8 b11)] [] false y45.2.rest y45.2.bad)) else (some (.inl ((T_regex_piece.mk n4 l5 l8 b11), y22.2)))))))
def regex_reader_repeats.f (k : Nat) (x0 : T_regex_reader) (x1 : T_regex_piece) : Option (T_regex_piece × T_regex_reader) := ((regex_reader_repeats.l0 k x1.kind x1.parts x1.spans x1.not x0.rest x0.bad).bind fun o => match o with | .inl r => some r | .inr _ => none)
abbrev regex_reader_repeats.C (k : Nat) : Prop := ∀ {x0 : T_regex_reader} {x1 : T_regex_piece} {x0v0 : Value} {x1v1 : Value} {x1v2 : Value} {bx0 : Nat} {F : List It} {I : IMem} {w : World} {r : T_regex_piece × T_regex_reader}, Glob I → Own I w (.bk bx0 44 [x0v0, .bool x0.bad] :: F) → SlR R_regex_sign I x0v0 x0.rest → SlR R_regex_piece I x1v1 x1.parts → SlR R_regex_span I x1v2 x1.spans → regex_reader_repeats.f k x0 x1 = some r →
    Calls Tryd.prog 43 #[.pointer (some ⟨bx0, 0, none⟩), .agg #[.int .i64 x1.kind, x1v1, x1v2, .bool x1.not]] w fun e w' => ∃ v, e = .returned v ∧ ∃ (y_0v1 : Value) (y_0v2 : Value) (y_1v0 : Value) (J : IMem), I.le J ∧ v = .agg #[.int .i64 r.1.kind, y_0v1, y_0v2, .bool r.1.not] ∧ SlR R_regex_piece J y_0v1 r.1.parts ∧ SlR R_regex_span J y_0v2 r.1.spans ∧ SlR R_regex_sign J y_1v0 r.2.rest ∧ Own J w' (.bk bx0 44 [y_1v0, .bool r.2.bad] :: F)
theorem regex_reader_repeats.ok (k : Nat) : regex_reader_repeats.C k := by
  intro x0 x1 x0v0 x1v1 x1v2 bx0 F I w r hG S x0h0 x1h1 x1h2 H
  have hI := IMem.le.refl I
  rw [regex_reader_repeats.f] at H
  refine Calls.ofFW (args := [.pointer (some ⟨bx0, 0, none⟩), .agg #[.int .i64 x1.kind, x1v1, x1v2, .bool x1.not]]) Tryd.func43 rfl rfl ?_
  refine FW.seq ?_
  refine FW.region ?_
  refine U rfl rfl (o_boxA rfl S fun b1 w S => ?_)
  refine U rfl rfl (o_all tz48 S fun b2 w S => ?_)
  refine FW.block ?_
  obtain ⟨o18, hl20, HO19⟩ := obx H
  ·
    refine FW.loop k (FL.ind (fun q σ w => ∃ (n4 : Int) (l5 : (List T_regex_piece)) (l8 : (List T_regex_span)) (b11 : Bool) (l12 : (List T_regex_sign)) (b15 : Bool) (v6 : Value) (v9 : Value) (v13 : Value) (J3 : IMem), regex_reader_repeats.l0 q n4 l5 l8 b11 l12 b15 = some o18 ∧ q ≤ k ∧ Has σ [(0, .pointer (some ⟨bx0, 0, none⟩)), (3, .pointer (some ⟨b1, 0, none⟩)), (4, .pointer (some ⟨b2, 0, none⟩))] ∧ I.le J3 ∧ Own J3 w (.bk b2 48 [.int .i64 0, (.slice none 0 0), (.slice none 0 0), .bool false] :: .bk b1 48 [.int .i64 n4, v6, v9, .bool b11] :: .bk bx0 44 [v13, .bool b15] :: F) ∧ SlR R_regex_piece J3 v6 l5 ∧ SlR R_regex_span J3 v9 l8 ∧ SlR R_regex_sign J3 v13 l12) ?_ ?_ k k _ _ (Nat.le_refl _) ⟨x1.kind, x1.parts, x1.spans, x1.not, x0.rest, x0.bad, x1v1, x1v2, x0v0, I, hl20, Nat.le_refl _, ⟨rfl, rfl, rfl, trivial⟩, (IMem.le.refl _), S, x1h1, x1h2, x0h0⟩)
    · rintro σ w ⟨n4, l5, l8, b11, l12, b15, v6, v9, v13, J3, H, _⟩; cases H
    · rintro q16 σ w ⟨n4, l5, l8, b11, l12, b15, v6, v9, v13, J3, H, hq21, hσ, hL17, S, h7, h10, h14⟩
      have hI := hI.trans hL17
      have hG := hG.mono hL17
      rw [hσ.eq]
      rw [regex_reader_repeats.l0] at H
      refine FW.block ?_
      refine FW.seq ?_
      refine FW.region ?_
      refine U rfl rfl (V (x_asgV (v := .int .i64 0) rfl) ?_)
      refine FW.seq ?_
      refine FW.seq ?_
      refine FW.region ?_
      refine U rfl rfl (V (x_movV (v := .pointer (some ⟨bx0, 0, none⟩)) rfl) ?_)
      obtain ⟨y22, hy23, H⟩ := obx H
      refine U rfl rfl (cl fb18 (@regex_reader_peek.ok q16 (T_regex_reader.mk l12 b15) _ _ _ _ _ _ hG (S.sel 3 [2, 0, 1] rfl) h14 hy23) rfl ?_)
      rintro _ w ⟨y22_1v0, J24, hJ25, rfl, y22_1h0, S⟩
      have h7 := h7.mono hJ25
      have h10 := h10.mono hJ25
      have hI := hI.trans hJ25
      have hL17 := hL17.trans hJ25
      have hG := hG.mono hJ25
      refine U rfl rfl (V (x_fld tf51_0 tsc21 rfl rfl) ?_)
      refine FW.block ?_
      refine FW.seq ?_
      refine FW.region ?_
      refine U rfl rfl (V (x_bin rfl rfl rfl) ?_)
      refine U rfl rfl (V (x_asgV (v := .bool (y22.1.c == 42)) rfl) ?_)
      by_cases cc26 : y22.1.c = 42
      · rw [if_pos cc26] at H
        refine FW.condT rfl (eqT cc26) ?_
        refine FW.region ?_
        refine U rfl rfl (V (x_asgV (v := .int .i64 7) rfl) ?_)
        refine FW.seq ?_
        refine FW.anew [(0, .pointer (some ⟨bx0, 0, none⟩)), (3, .pointer (some ⟨b1, 0, none⟩)), (4, .pointer (some ⟨b2, 0, none⟩)), (5, .int .i64 7)] ⟨rfl, rfl, rfl, rfl, trivial⟩ fun σ => ?_
        refine FW.region ?_
        refine U rfl rfl (V (x_movV (v := .pointer (some ⟨bx0, 0, none⟩)) rfl) ?_)
        obtain ⟨y27, hy28, H⟩ := obx H
        refine U rfl rfl (cl fb29 (@regex_reader_next.ok q16 y22.2 _ _ _ _ _ _ hG S y22_1h0 hy28) rfl ?_)
        rintro _ w ⟨y27_1v0, J29, hJ30, rfl, y27_1h0, S⟩
        have h7 := h7.mono hJ30
        have h10 := h10.mono hJ30
        have hI := hI.trans hJ30
        have hL17 := hL17.trans hJ30
        have hG := hG.mono hJ30
        refine FW.region ?_
        refine U rfl rfl (V (x_movV (v := .int .i64 7) rfl) ?_)
        refine U rfl rfl (V (x_ldA tag48 rfl (S.loadW 2 rfl) rfl) ?_)
        refine U rfl rfl (o_bsl tsl45 tz48 rfl rfl rfl rfl (.agg PC.nil) rfl S fun b31 w S => ?_)
        obtain ⟨J32, hJ34, S, h33⟩ := S.freeze (r := R_regex_piece) (l := [(T_regex_piece.mk n4 l5 l8 b11)]) 0 rfl ⟨[.int .i64 n4, v6, v9, .bool b11], _, rfl, (R_regex_piece.mk (x := (T_regex_piece.mk n4 l5 l8 b11)) h7 h10), rfl⟩ rfl rfl
        have h7 := h7.mono hJ34
        have h10 := h10.mono hJ34
        have y27_1h0 := y27_1h0.mono hJ34
        have hI := hI.trans hJ34
        have hL17 := hL17.trans hJ34
        have hG := hG.mono hJ34
        refine U rfl rfl (V (x_bld tz48 tpl48 rfl (.one rfl (.one h33.one PC.nil)) rfl) ?_)
        refine U rfl rfl (o_stA tag48 S 3 rfl rfl rfl rfl (c1 rfl (c1 h33.one (c1 rfl (c1 rfl c0)))) rfl fun w S => ?_)
        exact ⟨q16, Nat.le_refl _, 7, [(T_regex_piece.mk n4 l5 l8 b11)], [], false, y27.2.rest, y27.2.bad, (.slice (some ⟨b31, 0, none⟩) 1 1), (.slice none 0 0), y27_1v0, J32, H, (Nat.le_of_succ_le hq21), ⟨rfl, rfl, rfl, trivial⟩, hL17, (S.sel 4 [2, 3, 1] rfl), h33, (SlR.nil _ _), y27_1h0⟩
      · rw [if_neg cc26] at H
        refine FW.condF rfl (eqF cc26) ?_
        refine FW.seq ?_
        refine FW.region ?_
        refine U rfl rfl (V (x_bin rfl rfl rfl) ?_)
        refine U rfl rfl (V (x_asgV (v := .bool (y22.1.c == 43)) rfl) ?_)
        by_cases cc35 : y22.1.c = 43
        · rw [if_pos cc35] at H
          refine FW.condT rfl (eqT cc35) ?_
          refine FW.anew [(0, .pointer (some ⟨bx0, 0, none⟩)), (3, .pointer (some ⟨b1, 0, none⟩)), (4, .pointer (some ⟨b2, 0, none⟩))] ⟨rfl, rfl, rfl, trivial⟩ fun σ => ?_
          refine FW.region ?_
          refine U rfl rfl (V (x_asgV (v := .int .i64 8) rfl) ?_)
          refine FW.seq ?_
          refine FW.region ?_
          refine U rfl rfl (V (x_movV (v := .pointer (some ⟨bx0, 0, none⟩)) rfl) ?_)
          obtain ⟨y36, hy37, H⟩ := obx H
          refine U rfl rfl (cl fb29 (@regex_reader_next.ok q16 y22.2 _ _ _ _ _ _ hG S y22_1h0 hy37) rfl ?_)
          rintro _ w ⟨y36_1v0, J38, hJ39, rfl, y36_1h0, S⟩
          have h7 := h7.mono hJ39
          have h10 := h10.mono hJ39
          have hI := hI.trans hJ39
          have hL17 := hL17.trans hJ39
          have hG := hG.mono hJ39
          refine FW.region ?_
          refine U rfl rfl (V (x_movV (v := .int .i64 8) rfl) ?_)
          refine U rfl rfl (V (x_ldA tag48 rfl (S.loadW 2 rfl) rfl) ?_)
          refine U rfl rfl (o_bsl tsl45 tz48 rfl rfl rfl rfl (.agg PC.nil) rfl S fun b40 w S => ?_)
          obtain ⟨J41, hJ43, S, h42⟩ := S.freeze (r := R_regex_piece) (l := [(T_regex_piece.mk n4 l5 l8 b11)]) 0 rfl ⟨[.int .i64 n4, v6, v9, .bool b11], _, rfl, (R_regex_piece.mk (x := (T_regex_piece.mk n4 l5 l8 b11)) h7 h10), rfl⟩ rfl rfl
          have h7 := h7.mono hJ43
          have h10 := h10.mono hJ43
          have y36_1h0 := y36_1h0.mono hJ43
          have hI := hI.trans hJ43
          have hL17 := hL17.trans hJ43
          have hG := hG.mono hJ43
          refine U rfl rfl (V (x_bld tz48 tpl48 rfl (.one rfl (.one h42.one PC.nil)) rfl) ?_)
          refine U rfl rfl (o_stA tag48 S 3 rfl rfl rfl rfl (c1 rfl (c1 h42.one (c1 rfl (c1 rfl c0)))) rfl fun w S => ?_)
          exact ⟨q16, Nat.le_refl _, 8, [(T_regex_piece.mk n4 l5 l8 b11)], [], false, y36.2.rest, y36.2.bad, (.slice (some ⟨b40, 0, none⟩) 1 1), (.slice none 0 0), y36_1v0, J41, H, (Nat.le_of_succ_le hq21), ⟨rfl, rfl, rfl, trivial⟩, hL17, (S.sel 4 [2, 3, 1] rfl), h42, (SlR.nil _ _), y36_1h0⟩
        · rw [if_neg cc35] at H
          refine FW.condF rfl (eqF cc35) ?_
          refine FW.seq ?_
          refine FW.anew [(0, .pointer (some ⟨bx0, 0, none⟩)), (3, .pointer (some ⟨b1, 0, none⟩)), (4, .pointer (some ⟨b2, 0, none⟩)), (8, .int .i32 y22.1.c)] ⟨rfl, rfl, rfl, rfl, trivial⟩ fun σ => ?_
          refine FW.region ?_
          refine U rfl rfl (V (x_bin rfl rfl rfl) ?_)
          refine U rfl rfl (V (x_asgV (v := .bool (y22.1.c == 63)) rfl) ?_)
          by_cases cc44 : y22.1.c = 63
          · rw [if_pos cc44] at H
            refine FW.condT rfl (eqT cc44) ?_
            refine FW.region ?_
            refine U rfl rfl (V (x_asgV (v := .int .i64 9) rfl) ?_)
            refine FW.seq ?_
            refine FW.region ?_
            refine U rfl rfl (V (x_movV (v := .pointer (some ⟨bx0, 0, none⟩)) rfl) ?_)
            obtain ⟨y45, hy46, H⟩ := obx H
            refine U rfl rfl (cl fb29 (@regex_reader_next.ok q16 y22.2 _ _ _ _ _ _ hG S y22_1h0 hy46) rfl ?_)
            rintro _ w ⟨y45_1v0, J47, hJ48, rfl, y45_1h0, S⟩
            have h7 := h7.mono hJ48
            have h10 := h10.mono hJ48
            have hI := hI.trans hJ48
            have hL17 := hL17.trans hJ48
            have hG := hG.mono hJ48
            refine FW.region ?_
            refine U rfl rfl (V (x_movV (v := .int .i64 9) rfl) ?_)
            refine U rfl rfl (V (x_ldA tag48 rfl (S.loadW 2 rfl) rfl) ?_)
            refine U rfl rfl (o_bsl tsl45 tz48 rfl rfl rfl rfl (.agg PC.nil) rfl S fun b49 w S => ?_)
            obtain ⟨J50, hJ52, S, h51⟩ := S.freeze (r := R_regex_piece) (l := [(T_regex_piece.mk n4 l5 l8 b11)]) 0 rfl ⟨[.int .i64 n4, v6, v9, .bool b11], _, rfl, (R_regex_piece.mk (x := (T_regex_piece.mk n4 l5 l8 b11)) h7 h10), rfl⟩ rfl rfl
            have h7 := h7.mono hJ52
            have h10 := h10.mono hJ52
            have y45_1h0 := y45_1h0.mono hJ52
            have hI := hI.trans hJ52
            have hL17 := hL17.trans hJ52
            have hG := hG.mono hJ52
            refine U rfl rfl (V (x_bld tz48 tpl48 rfl (.one rfl (.one h51.one PC.nil)) rfl) ?_)
            refine U rfl rfl (o_stA tag48 S 3 rfl rfl rfl rfl (c1 rfl (c1 h51.one (c1 rfl (c1 rfl c0)))) rfl fun w S => ?_)
            exact ⟨q16, Nat.le_refl _, 9, [(T_regex_piece.mk n4 l5 l8 b11)], [], false, y45.2.rest, y45.2.bad, (.slice (some ⟨b49, 0, none⟩) 1 1), (.slice none 0 0), y45_1v0, J50, H, (Nat.le_of_succ_le hq21), ⟨rfl, rfl, rfl, trivial⟩, hL17, (S.sel 4 [2, 3, 1] rfl), h51, (SlR.nil _ _), y45_1h0⟩
          · rw [if_neg cc44] at H
            refine FW.condF rfl (eqF cc44) ?_
            refine FW.seq ?_
            refine FW.region ?_
            refine U rfl rfl (V (x_ldA tag48 rfl (S.loadW 2 rfl) rfl) ?_)
            refine U rfl rfl (o_stA tag48 S 1 rfl rfl rfl rfl (c1 rfl (c1 h7.one (c1 h10.one (c1 rfl c0)))) rfl fun w S => ?_)
            refine FW.ret ?_
            obtain rfl := Option.some.inj H
            obtain rfl := Option.some.inj HO19
            exact ⟨_, ⟨_, _, _, rfl, rfl, ldA tag48 (S.loadW 1 rfl) rfl, rfl⟩, ⟨v6, v9, y22_1v0, J24, hI, rfl, h7, h10, y22_1h0, (S.sel 3 [0] rfl)⟩⟩
end Go.Proofs.YtkkflfmonidepaaDoor
