/-
  Parts of the proof, merged: F7, P1, P2, P3, P4, P5, P6, P7, P8, P12, P13, P14.
-/
import Derived.Test.YtkkflfmonidepaaDoorW10
namespace Go.Proofs.YtkkflfmonidepaaDoor
open Sp
set_option maxRecDepth 100000
set_option maxHeartbeats 4000000
def speculumref11_often.l2 : Nat → (List (List Bool)) → Int → Int → (List (List Bool)) → Int → Option (List (List Bool))
  | 0, _, _, _, _, _ => none
  | k + 1, x0, n14, n40, l58, n66 => (if n66 < (x0.length : Int) then ((lat l58 n14).bind fun y83 => ((lat y83 n40).bind fun y96 => (if y96 = true then ((lat l58 n14).bind fun y105 => ((lat y105 n66).bind fun y125 => (if y125 = true then ((lat y105 n66).bind fun y134 => (speculumref11_often.l2 k x0 n14 n40 (l58.set (n14 : Int).toNat (y105.set n66.toNat true)) (i64 (n66 + 1)))) else ((lat x0 n40).bind fun y145 => ((lat y145 n66).bind fun y152 => ((lat y105 n66).bind fun y159 => (speculumref11_often.l2 k x0 n14 n40 (l58.set (n14 : Int).toNat (y105.set n66.toNat y152)) (i64 (n66 + 1))))))))) else (some l58)))) else (some l58))
def speculumref11_often.l1 : Nat → (List (List Bool)) → Int → (List (List Bool)) → Int → Option (List (List Bool))
  | 0, _, _, _, _ => none
  | k + 1, x0, n14, l32, n40 => (if n40 < (x0.length : Int) then ((speculumref11_often.l2 k x0 n14 n40 l32 n40).bind fun l73 => (speculumref11_often.l1 k x0 n14 l73 (i64 (n40 + 1)))) else (some l32))
def speculumref11_often.l0 : Nat → (List (List Bool)) → (List (List Bool)) → Int → Option (List (List Bool))
  | 0, _, _, _ => none
  | k + 1, x0, l6, n14 => (if n14 < (x0.length : Int) then ((speculumref11_often.l1 k x0 n14 l6 n14).bind fun l47 => (speculumref11_often.l0 k x0 l47 (i64 (n14 + 1)))) else (some l6))
def speculumref11_often.f (k : Nat) (x0 : (List (List Bool))) : Option (List (List Bool)) := ((speculumref11_still.f k (i64 ((x0.length : Int) - 1)) true).bind fun y1 => ((speculumref11_often.l0 k x0 y1 0).bind fun l21 => (some l21)))
abbrev speculumref11_often.C (k : Nat) : Prop := ∀ {x0 : (List (List Bool))} {vx0 : Value} {F : List It} {I : IMem} {w : World} {r : (List (List Bool))}, Glob I → Own I w (F) → SlR (tSlice tBool) I vx0 x0 → speculumref11_often.f k x0 = some r →
    Calls Tryd.prog 38 #[vx0] w fun e w' => ∃ v, e = .returned v ∧ ∃ (vy_0 : Value) (cy_0 : List Value) (uy_0 : List Value) (py_0 : List (Value × List Value)) (J : IMem), I.le J ∧ v = vy_0 ∧ Flat tRaw J cy_0 uy_0 ∧ MxR tBool J uy_0 py_0 r ∧ Own J w' (.av vy_0 64 1 cy_0 :: .fam 4 1 py_0 :: F)
theorem speculumref11_often.ok (k : Nat) : speculumref11_often.C k := by
  intro x0 vx0 F I w r hG S hx0 H
  have hI := IMem.le.refl I
  rw [speculumref11_often.f] at H
  refine Calls.ofFW (args := [vx0]) Tryd.func38 rfl rfl ?_
  refine FW.seq ?_
  refine FW.region ?_
  refine U rfl rfl (V (x_asgV (v := (.slice none 0 0)) rfl) ?_)
  refine FW.seq ?_
  refine FW.region ?_
  refine U rfl rfl (V (x_movV (v := vx0) rfl) ?_)
  refine U rfl rfl (V (x_lenD (r := (tSlice tBool)) tsl67 hx0) ?_)
  refine U rfl rfl (V (x_bin rfl rfl rfl) ?_)
  obtain ⟨y1, hy2, H⟩ := obx H
  refine U rfl rfl (cl fb34 (@speculumref11_still.ok k (i64 ((x0.length : Int) - 1)) true _ _ _ _ hG S hy2) rfl ?_)
  rintro vy1_0 w ⟨vy1_0q, cy1_0, uy1_0, py1_0, J3, hJ4, rfl, hy1_0, my1_0, S⟩
  have hx0 := hx0.mono hJ4
  have hI := hI.trans hJ4
  have hG := hG.mono hJ4
  refine U rfl rfl (V (x_asgV (v := vy1_0) rfl) ?_)
  refine FW.seq ?_
  refine FW.seq ?_
  refine FW.region ?_
  refine U rfl rfl (V (x_asgV (v := .int .i64 0) rfl) ?_)
  refine FW.block ?_
  obtain ⟨o17, hl19, HO18⟩ := obx H
  refine FW.cutX 0 (fun σ w => ∃ (l21 : (List (List Bool))) (v22 : Value) (a23 : List Value) (u24 : List Value) (p25 : List (Value × List Value)) (J20 : IMem), l21 = o17 ∧ Has σ [(3, v22)] ∧ J3.le J20 ∧ Own J20 w (.av v22 64 1 a23 :: .fam 4 1 p25 :: F) ∧ Flat tRaw J20 a23 u24 ∧ MxR tBool J20 u24 p25 l21) ?_ ?_
  ·
    refine FW.loop k (FL.ind (fun q σ w => ∃ (l6 : (List (List Bool))) (n14 : Int) (v7 : Value) (a8 : List Value) (u9 : List Value) (p10 : List (Value × List Value)) (J5 : IMem), speculumref11_often.l0 q x0 l6 n14 = some o17 ∧ q ≤ k ∧ Has σ [(0, vx0), (3, v7), (4, .int .i64 n14)] ∧ J3.le J5 ∧ Own J5 w (.av v7 64 1 a8 :: .fam 4 1 p10 :: F) ∧ Flat tRaw J5 a8 u9 ∧ MxR tBool J5 u9 p10 l6) ?_ ?_ k k _ _ (Nat.le_refl _) ⟨y1, 0, vy1_0, cy1_0, uy1_0, py1_0, J3, hl19, Nat.le_refl _, ⟨rfl, rfl, rfl, trivial⟩, (IMem.le.refl _), S, hy1_0, my1_0⟩)
    · rintro σ w ⟨l6, n14, v7, a8, u9, p10, J5, H, _⟩; cases H
    · rintro q15 σ w ⟨l6, n14, v7, a8, u9, p10, J5, H, hq29, hσ, hL16, S, h11, h12⟩
      have hx0 := hx0.mono hL16
      have hI := hI.trans hL16
      have hG := hG.mono hL16
      rw [hσ.eq]
      rw [speculumref11_often.l0] at H
      refine FW.seq ?_
      refine FW.seq ?_
      refine FW.region ?_
      refine U rfl rfl (V (x_movV (v := .int .i64 n14) rfl) ?_)
      refine U rfl rfl (V (x_movV (v := vx0) rfl) ?_)
      refine U rfl rfl (V (x_lenD (r := (tSlice tBool)) tsl67 hx0) ?_)
      refine U rfl rfl (V (x_bin rfl rfl rfl) ?_)
      by_cases cc30 : n14 < (x0.length : Int)
      · rw [if_pos cc30] at H
        refine FW.condT rfl (deT cc30) ?_
        refine FW.skip ?_
        refine FW.seq ?_
        refine FW.block ?_
        refine FW.seq ?_
        refine FW.region ?_
        refine U rfl rfl (V (x_movV (v := .int .i64 n14) rfl) ?_)
        refine U rfl rfl (V (x_asgV (v := .int .i64 n14) rfl) ?_)
        refine FW.block ?_
        obtain ⟨o43, hl45, HO44⟩ := obx H
        refine FW.cutX 2 (fun σ w => ∃ (l47 : (List (List Bool))) (v48 : Value) (a49 : List Value) (u50 : List Value) (p51 : List (Value × List Value)) (J46 : IMem), l47 = o43 ∧ Has σ [(0, vx0), (3, v48), (4, .int .i64 n14)] ∧ J5.le J46 ∧ Own J46 w (.av v48 64 1 a49 :: .fam 4 1 p51 :: F) ∧ Flat tRaw J46 a49 u50 ∧ MxR tBool J46 u50 p51 l47) ?_ ?_
        ·
          refine FW.loop q15 (FL.ind (fun q σ w => ∃ (l32 : (List (List Bool))) (n40 : Int) (v33 : Value) (a34 : List Value) (u35 : List Value) (p36 : List (Value × List Value)) (J31 : IMem), speculumref11_often.l1 q x0 n14 l32 n40 = some o43 ∧ q ≤ q15 ∧ Has σ [(0, vx0), (3, v33), (4, .int .i64 n14), (5, .int .i64 n40)] ∧ J5.le J31 ∧ Own J31 w (.av v33 64 1 a34 :: .fam 4 1 p36 :: F) ∧ Flat tRaw J31 a34 u35 ∧ MxR tBool J31 u35 p36 l32) ?_ ?_ q15 q15 _ _ (Nat.le_refl _) ⟨l6, n14, v7, a8, u9, p10, J5, hl45, Nat.le_refl _, ⟨rfl, rfl, rfl, rfl, trivial⟩, (IMem.le.refl _), S, h11, h12⟩)
          · rintro σ w ⟨l32, n40, v33, a34, u35, p36, J31, H, _⟩; cases H
          · rintro q41 σ w ⟨l32, n40, v33, a34, u35, p36, J31, H, hq55, hσ, hL42, S, h37, h38⟩
            have hx0 := hx0.mono hL42
            have hI := hI.trans hL42
            have hL16 := hL16.trans hL42
            have hG := hG.mono hL42
            rw [hσ.eq]
            rw [speculumref11_often.l1] at H
            refine FW.seq ?_
            refine FW.seq ?_
            refine FW.region ?_
            refine U rfl rfl (V (x_movV (v := .int .i64 n40) rfl) ?_)
            refine U rfl rfl (V (x_movV (v := vx0) rfl) ?_)
            refine U rfl rfl (V (x_lenD (r := (tSlice tBool)) tsl67 hx0) ?_)
            refine U rfl rfl (V (x_bin rfl rfl rfl) ?_)
            by_cases cc56 : n40 < (x0.length : Int)
            · rw [if_pos cc56] at H
              refine FW.condT rfl (deT cc56) ?_
              refine FW.skip ?_
              refine FW.seq ?_
              refine FW.block ?_
              refine FW.seq ?_
              refine FW.region ?_
              refine U rfl rfl (V (x_movV (v := .int .i64 n40) rfl) ?_)
              refine U rfl rfl (V (x_asgV (v := .int .i64 n40) rfl) ?_)
              refine FW.block ?_
              obtain ⟨o69, hl71, HO70⟩ := obx H
              refine FW.cutX 4 (fun σ w => ∃ (l73 : (List (List Bool))) (v74 : Value) (a75 : List Value) (u76 : List Value) (p77 : List (Value × List Value)) (J72 : IMem), l73 = o69 ∧ Has σ [(0, vx0), (3, v74), (4, .int .i64 n14), (5, .int .i64 n40)] ∧ J31.le J72 ∧ Own J72 w (.av v74 64 1 a75 :: .fam 4 1 p77 :: F) ∧ Flat tRaw J72 a75 u76 ∧ MxR tBool J72 u76 p77 l73) ?_ ?_
              ·
                refine FW.loop q41 (FL.ind (fun q σ w => ∃ (l58 : (List (List Bool))) (n66 : Int) (v59 : Value) (a60 : List Value) (u61 : List Value) (p62 : List (Value × List Value)) (J57 : IMem), speculumref11_often.l2 q x0 n14 n40 l58 n66 = some o69 ∧ q ≤ q41 ∧ Has σ [(0, vx0), (3, v59), (4, .int .i64 n14), (5, .int .i64 n40), (6, .int .i64 n66)] ∧ J31.le J57 ∧ Own J57 w (.av v59 64 1 a60 :: .fam 4 1 p62 :: F) ∧ Flat tRaw J57 a60 u61 ∧ MxR tBool J57 u61 p62 l58) ?_ ?_ q41 q41 _ _ (Nat.le_refl _) ⟨l32, n40, v33, a34, u35, p36, J31, hl71, Nat.le_refl _, ⟨rfl, rfl, rfl, rfl, rfl, trivial⟩, (IMem.le.refl _), S, h37, h38⟩)
                · rintro σ w ⟨l58, n66, v59, a60, u61, p62, J57, H, _⟩; cases H
                · rintro q67 σ w ⟨l58, n66, v59, a60, u61, p62, J57, H, hq81, hσ, hL68, S, h63, h64⟩
                  have hx0 := hx0.mono hL68
                  have hI := hI.trans hL68
                  have hL16 := hL16.trans hL68
                  have hL42 := hL42.trans hL68
                  have hG := hG.mono hL68
                  rw [hσ.eq]
                  rw [speculumref11_often.l2] at H
                  refine FW.seq ?_
                  refine FW.seq ?_
                  refine FW.region ?_
                  refine U rfl rfl (V (x_movV (v := .int .i64 n66) rfl) ?_)
                  refine U rfl rfl (V (x_movV (v := vx0) rfl) ?_)
                  refine U rfl rfl (V (x_lenD (r := (tSlice tBool)) tsl67 hx0) ?_)
                  refine U rfl rfl (V (x_bin rfl rfl rfl) ?_)
                  refine U rfl rfl (V (x_movV (v := .bool (decide (n66 < (x0.length : Int)))) rfl) ?_)
                  by_cases cc82 : n66 < (x0.length : Int)
                  · rw [if_pos cc82] at H
                    refine OK.gt rfl rfl rfl (deT cc82) (V (x_movV (v := v59) rfl) ?_)
                    refine OK.gt rfl rfl rfl (deT cc82) (V (x_movV (v := .int .i64 n14) rfl) ?_)
                    obtain ⟨y83, h84, H⟩ := obx H
                    have S : Own J57 _ (.fam 4 1 p62 :: .av v59 64 1 a60 :: F) := (S.sel 2 [1, 0] rfl)
                    obtain ⟨v85, a86, hl87, hp88, h89, S⟩ := mx_at S h64 h84
                    refine OK.gt rfl rfl rfl (deT cc82) (o_iaV (r := tRaw) tsl67 rfl rfl S 2 rfl h63 rfl hl87 fun b90 cs91 cc92 hv93 hr94 hc95 => ?_)
                    obtain ⟨rfl, _⟩ := hr94
                    refine OK.gt rfl rfl rfl (deT cc82) (V (x_ld tsc64 rfl (S.loadV 2 rfl hv93 (hc95 0 _ rfl))) ?_)
                    refine OK.gt rfl rfl rfl (deT cc82) (V (x_movV (v := .int .i64 n40) rfl) ?_)
                    obtain ⟨y96, h97, H⟩ := obx H
                    refine OK.gt rfl rfl rfl (deT cc82) (o_iaV (r := tBool) tsl64 rfl rfl S 0 rfl h89 rfl h97 fun b98 cs99 cc100 hv101 hr102 hc103 => ?_)
                    obtain rfl := hr102
                    refine OK.gt rfl rfl rfl (deT cc82) (V (x_ld tsc4 rfl (S.loadV 0 rfl hv101 (hc103 0 _ rfl))) ?_)
                    refine U rfl rfl (V (x_pickTV (v := .bool y96) rfl (deT cc82) rfl) ?_)
                    have S := mx_back0 S hp88
                    by_cases cc104 : y96 = true
                    · rw [if_pos cc104] at H
                      refine FW.condT rfl cc104 ?_
                      refine FW.skip ?_
                      refine FW.seq ?_
                      refine FW.block ?_
                      refine FW.anew [(0, vx0), (3, v59), (4, .int .i64 n14), (5, .int .i64 n40), (6, .int .i64 n66)] ⟨rfl, rfl, rfl, rfl, rfl, trivial⟩ fun σ => ?_
                      have S := S.drew
                      refine FW.regionD mixed ?_
                      have hO := Hold.nil (w := { w with drawn := w.drawn + 1 })
                      refine AQ.pure 0 rfl (by kernel_rfl) (by kernel_rfl) (by kernel_rfl) rfl hO (fun w => x_movV (v := v59) rfl) ?_
                      refine AQ.pure 1 rfl (by kernel_rfl) (by kernel_rfl) (by kernel_rfl) rfl hO (fun w => x_movV (v := .int .i64 n14) rfl) ?_
                      obtain ⟨y105, h106, H⟩ := obx H
                      obtain ⟨v107, a108, hl109, hp110, h111, S⟩ := mx_at S h64 h106
                      refine AQ.pureE 2 rfl (by kernel_rfl) (by kernel_rfl) (by kernel_rfl) rfl hO (e_iaVD (r := tRaw) tsl67 rfl rfl S 2 rfl h63 rfl hl109) ?_
                      rintro _ ⟨b112, cs113, cc114, rfl, hv115, hr116, hc117⟩
                      obtain ⟨rfl, _⟩ := hr116
                      have hR118 := IMem.le.refl J57
                      refine AQ.take (S := Stab J57 [.av v59 64 1 a60]) 3 rfl (by kernel_rfl) (by kernel_rfl) (by kernel_rfl) rfl hO (Stab.of S 2 rfl hR118) (fun w hS => x_ld tsc64 rfl (hS.loadV 0 rfl hv115 (hc117 0 _ rfl))) fun hO => ?_
                      refine AQ.pure 4 rfl (by kernel_rfl) (by kernel_rfl) (by kernel_rfl) rfl hO (fun w => x_movV (v := .int .i64 n66) rfl) ?_
                      refine AQ.pure 5 rfl (by kernel_rfl) (by kernel_rfl) (by kernel_rfl) rfl hO (fun w => x_movV (v := v59) rfl) ?_
                      refine AQ.pure 6 rfl (by kernel_rfl) (by kernel_rfl) (by kernel_rfl) rfl hO (fun w => x_movV (v := .int .i64 n14) rfl) ?_
                      refine AQ.pureE 7 rfl (by kernel_rfl) (by kernel_rfl) (by kernel_rfl) rfl hO (e_iaVD (r := tRaw) tsl67 rfl rfl S 2 rfl h63 rfl hl109) ?_
                      rintro _ ⟨b119, cs120, cc121, rfl, hv122, hr123, hc124⟩
                      obtain ⟨rfl, _⟩ := hr123
                      refine AQ.take (S := Stab J57 [.av v59 64 1 a60]) 8 rfl (by kernel_rfl) (by kernel_rfl) (by kernel_rfl) rfl hO (Stab.of S 2 rfl hR118) (fun w hS => x_ld tsc64 rfl (hS.loadV 0 rfl hv122 (hc124 0 _ rfl))) fun hO => ?_
                      refine AQ.pure 9 rfl (by kernel_rfl) (by kernel_rfl) (by kernel_rfl) rfl hO (fun w => x_movV (v := .int .i64 n66) rfl) ?_
                      obtain ⟨y125, h126, H⟩ := obx H
                      refine AQ.pureE 10 rfl (by kernel_rfl) (by kernel_rfl) (by kernel_rfl) rfl hO (e_iaVD (r := tBool) tsl64 rfl rfl S 0 rfl h111 rfl h126) ?_
                      rintro _ ⟨b127, cs128, cc129, rfl, hv130, hr131, hc132⟩
                      obtain rfl := hr131
                      refine AQ.take (S := Stab J57 [.av v107 4 1 a108]) 11 rfl (by kernel_rfl) (by kernel_rfl) (by kernel_rfl) rfl hO (Stab.of S 0 rfl hR118) (fun w hS => x_ld tsc4 rfl (hS.loadV 0 rfl hv130 (hc132 0 _ rfl))) fun hO => ?_
                      refine AQ.pure 12 rfl (by kernel_rfl) (by kernel_rfl) (by kernel_rfl) rfl hO (fun w => x_movV (v := .bool y125) rfl) ?_
                      by_cases cc133 : y125 = true
                      · rw [if_pos cc133] at H
                        refine AQ.skip 13 rfl (by kernel_rfl) (by kernel_rfl) (by kernel_rfl) rfl rfl cc133 hO ?_
                        refine AQ.skip 14 rfl (by kernel_rfl) (by kernel_rfl) (by kernel_rfl) rfl rfl cc133 hO ?_
                        refine AQ.skip 15 rfl (by kernel_rfl) (by kernel_rfl) (by kernel_rfl) rfl rfl cc133 hO ?_
                        refine AQ.skip 16 rfl (by kernel_rfl) (by kernel_rfl) (by kernel_rfl) rfl rfl cc133 hO ?_
                        refine AQ.skip 17 rfl (by kernel_rfl) (by kernel_rfl) (by kernel_rfl) rfl rfl cc133 hO ?_
                        refine AQ.skip 18 rfl (by kernel_rfl) (by kernel_rfl) (by kernel_rfl) rfl rfl cc133 hO ?_
                        refine AQ.skip 19 rfl (by kernel_rfl) (by kernel_rfl) (by kernel_rfl) rfl rfl cc133 hO ?_
                        refine AQ.pure 20 rfl (by kernel_rfl) (by kernel_rfl) (by kernel_rfl) rfl hO (fun w => x_pickTV (v := .bool true) rfl cc133 rfl) ?_
                        obtain ⟨y134, h135, H⟩ := obx H
                        refine AQ.pureE 21 rfl (by kernel_rfl) (by kernel_rfl) (by kernel_rfl) rfl hO (e_iaVD (r := tBool) tsl64 rfl rfl S 0 rfl h111 rfl h135) ?_
                        rintro _ ⟨b136, cs137, cc138, rfl, hv139, hr140, hc141⟩
                        obtain rfl := hr140
                        refine AQ.one 22 [11, 8, 3] [false, false, false] (by kernel_rfl) rfl (by kernel_rfl) ?_
                        refine U rfl rfl (o_stV (r := tBool) (f := 0) (y' := true) tone4 rfl S 0 rfl hv139 h111 h135 rfl hc141 rfl rfl rfl rfl rfl fun w a142 S h143 => ?_)
                        refine andI Hold.nil fun hO => ?_
                        refine AQ.done (by kernel_rfl) ?_
                        obtain ⟨S, h144⟩ := mx_back S hp110 h64 h143
                        refine FW.anew [(0, vx0), (3, v59), (4, .int .i64 n14), (5, .int .i64 n40), (6, .int .i64 n66)] ⟨rfl, rfl, rfl, rfl, rfl, trivial⟩ fun σ => ?_
                        refine FW.region ?_
                        refine U rfl rfl (V (x_movV (v := .int .i64 n66) rfl) ?_)
                        refine U rfl rfl (V (x_bin rfl rfl rfl) ?_)
                        refine U rfl rfl (V (x_asgV (v := .int .i64 (i64 (n66 + 1))) rfl) ?_)
                        exact ⟨q67, Nat.le_refl _, (l58.set (n14 : Int).toNat (y105.set n66.toNat true)), (i64 (n66 + 1)), v59, a60, u61, (p62.set (n14 : Int).toNat (v107, a142)), J57, H, (Nat.le_of_succ_le hq81), ⟨rfl, rfl, rfl, rfl, rfl, trivial⟩, hL68, (S.sel 2 [1, 0] rfl), h63, h144⟩
                      · rw [if_neg cc133] at H
                        refine AQ.pure 13 rfl (by kernel_rfl) (by kernel_rfl) (by kernel_rfl) (gT rfl rfl (vaF cc133)) hO (fun w => x_movV (v := vx0) rfl) ?_
                        refine AQ.pure 14 rfl (by kernel_rfl) (by kernel_rfl) (by kernel_rfl) (gT rfl rfl (vaF cc133)) hO (fun w => x_movV (v := .int .i64 n40) rfl) ?_
                        obtain ⟨y145, h146, H⟩ := obx H
                        refine AQ.pureE 15 rfl (by kernel_rfl) (by kernel_rfl) (by kernel_rfl) (gT rfl rfl (vaF cc133)) hO (e_ia (r := (tSlice tBool)) tsl67 rfl rfl hx0 rfl h146) ?_
                        rintro _ ⟨b147, o148, cs149, rfl, hr150, hc151⟩
                        obtain ⟨y145v, rfl, y145h⟩ := hr150
                        refine AQ.take (S := Stab J57 []) 16 rfl (by kernel_rfl) (by kernel_rfl) (by kernel_rfl) (gT rfl rfl (vaF cc133)) hO (Stab.nil S hR118) (fun w hS => x_ld tsc64 rfl (hS.cell _ _ _ (hc151 0 _ rfl))) fun hO => ?_
                        refine AQ.pure 17 rfl (by kernel_rfl) (by kernel_rfl) (by kernel_rfl) (gT rfl rfl (vaF cc133)) hO (fun w => x_movV (v := .int .i64 n66) rfl) ?_
                        obtain ⟨y152, h153, H⟩ := obx H
                        refine AQ.pureE 18 rfl (by kernel_rfl) (by kernel_rfl) (by kernel_rfl) (gT rfl rfl (vaF cc133)) hO (e_ia (r := tBool) tsl64 rfl rfl y145h rfl h153) ?_
                        rintro _ ⟨b154, o155, cs156, rfl, hr157, hc158⟩
                        obtain rfl := hr157
                        refine AQ.take (S := Stab J57 []) 19 rfl (by kernel_rfl) (by kernel_rfl) (by kernel_rfl) (gT rfl rfl (vaF cc133)) hO (Stab.nil S hR118) (fun w hS => x_ld tsc4 rfl (hS.cell _ _ _ (hc158 0 _ rfl))) fun hO => ?_
                        refine AQ.pure 20 rfl (by kernel_rfl) (by kernel_rfl) (by kernel_rfl) rfl hO (fun w => x_pickFV (v := .bool y152) rfl (vaF cc133) rfl) ?_
                        obtain ⟨y159, h160, H⟩ := obx H
                        refine AQ.pureE 21 rfl (by kernel_rfl) (by kernel_rfl) (by kernel_rfl) rfl hO (e_iaVD (r := tBool) tsl64 rfl rfl S 0 rfl h111 rfl h160) ?_
                        rintro _ ⟨b161, cs162, cc163, rfl, hv164, hr165, hc166⟩
                        obtain rfl := hr165
                        refine AQ.one 22 [19, 16, 11, 8, 3] [false, false, false, false, false] (by kernel_rfl) rfl (by kernel_rfl) ?_
                        refine U rfl rfl (o_stV (r := tBool) (f := 0) (y' := y152) tone4 rfl S 0 rfl hv164 h111 h160 rfl hc166 rfl rfl rfl rfl rfl fun w a167 S h168 => ?_)
                        refine andI Hold.nil fun hO => ?_
                        refine AQ.done (by kernel_rfl) ?_
                        obtain ⟨S, h169⟩ := mx_back S hp110 h64 h168
                        refine FW.anew [(0, vx0), (3, v59), (4, .int .i64 n14), (5, .int .i64 n40), (6, .int .i64 n66)] ⟨rfl, rfl, rfl, rfl, rfl, trivial⟩ fun σ => ?_
                        refine FW.region ?_
                        refine U rfl rfl (V (x_movV (v := .int .i64 n66) rfl) ?_)
                        refine U rfl rfl (V (x_bin rfl rfl rfl) ?_)
                        refine U rfl rfl (V (x_asgV (v := .int .i64 (i64 (n66 + 1))) rfl) ?_)
                        exact ⟨q67, Nat.le_refl _, (l58.set (n14 : Int).toNat (y105.set n66.toNat y152)), (i64 (n66 + 1)), v59, a60, u61, (p62.set (n14 : Int).toNat (v107, a167)), J57, H, (Nat.le_of_succ_le hq81), ⟨rfl, rfl, rfl, rfl, rfl, trivial⟩, hL68, (S.sel 2 [1, 0] rfl), h63, h169⟩
                    · rw [if_neg cc104] at H
                      refine FW.condF rfl (vaF cc104) ?_
                      refine FW.exit ?_
                      exact ⟨l58, v59, a60, u61, p62, J57, (Option.some.inj H), ⟨rfl, rfl, rfl, rfl, trivial⟩, hL68, (S.sel 2 [1, 0] rfl), h63, h64⟩
                  · rw [if_neg cc82] at H
                    refine OK.gf rfl rfl rfl (deF cc82) ?_
                    refine OK.gf rfl rfl rfl (deF cc82) ?_
                    refine OK.gf rfl rfl rfl (deF cc82) ?_
                    refine OK.gf rfl rfl rfl (deF cc82) ?_
                    refine OK.gf rfl rfl rfl (deF cc82) ?_
                    refine OK.gf rfl rfl rfl (deF cc82) ?_
                    refine OK.gf rfl rfl rfl (deF cc82) ?_
                    refine U rfl rfl (V (x_pickFV (v := .bool false) rfl (deF cc82) rfl) ?_)
                    refine FW.condF rfl rfl ?_
                    refine FW.exit ?_
                    exact ⟨l58, v59, a60, u61, p62, J57, (Option.some.inj H), ⟨rfl, rfl, rfl, rfl, trivial⟩, hL68, S, h63, h64⟩
              · rintro σ w ⟨l73, v74, a75, u76, p77, J72, ho, hσ, hL68, S, h78, h79⟩
                subst ho
                have H := HO70
                have hx0 := hx0.mono hL68
                have hI := hI.trans hL68
                have hL16 := hL16.trans hL68
                have hL42 := hL42.trans hL68
                have hG := hG.mono hL68
                rw [hσ.eq]
                refine FW.region ?_
                refine U rfl rfl (V (x_movV (v := .int .i64 n40) rfl) ?_)
                refine U rfl rfl (V (x_bin rfl rfl rfl) ?_)
                refine U rfl rfl (V (x_asgV (v := .int .i64 (i64 (n40 + 1))) rfl) ?_)
                exact ⟨q41, Nat.le_refl _, l73, (i64 (n40 + 1)), v74, a75, u76, p77, J72, H, (Nat.le_of_succ_le hq55), ⟨rfl, rfl, rfl, rfl, trivial⟩, hL42, S, h78, h79⟩
            · rw [if_neg cc56] at H
              refine FW.condF rfl (deF cc56) ?_
              refine FW.exit ?_
              exact ⟨l32, v33, a34, u35, p36, J31, (Option.some.inj H), ⟨rfl, rfl, rfl, trivial⟩, hL42, S, h37, h38⟩
        · rintro σ w ⟨l47, v48, a49, u50, p51, J46, ho, hσ, hL42, S, h52, h53⟩
          subst ho
          have H := HO44
          have hx0 := hx0.mono hL42
          have hI := hI.trans hL42
          have hL16 := hL16.trans hL42
          have hG := hG.mono hL42
          rw [hσ.eq]
          refine FW.region ?_
          refine U rfl rfl (V (x_movV (v := .int .i64 n14) rfl) ?_)
          refine U rfl rfl (V (x_bin rfl rfl rfl) ?_)
          refine U rfl rfl (V (x_asgV (v := .int .i64 (i64 (n14 + 1))) rfl) ?_)
          exact ⟨q15, Nat.le_refl _, l47, (i64 (n14 + 1)), v48, a49, u50, p51, J46, H, (Nat.le_of_succ_le hq29), ⟨rfl, rfl, rfl, trivial⟩, hL16, S, h52, h53⟩
      · rw [if_neg cc30] at H
        refine FW.condF rfl (deF cc30) ?_
        refine FW.exit ?_
        exact ⟨l6, v7, a8, u9, p10, J5, (Option.some.inj H), ⟨rfl, trivial⟩, hL16, S, h11, h12⟩
  · rintro σ w ⟨l21, v22, a23, u24, p25, J20, ho, hσ, hL16, S, h26, h27⟩
    subst ho
    have H := HO18
    have hI := hI.trans hL16
    have hG := hG.mono hL16
    rw [hσ.eq]
    refine FW.seq ?_
    refine FW.region ?_
    refine U rfl rfl (V (x_movV (v := v22) rfl) ?_)
    refine U rfl rfl (V (x_asgV (v := v22) rfl) ?_)
    refine FW.ret ?_
    obtain rfl := Option.some.inj H
    exact ⟨_, ⟨_, rfl, rfl⟩, ⟨v22, a23, u24, p25, J20, hI, rfl, h26, h27, S⟩⟩
mutual
def speculumref11_P_ends.l0 : Nat → (Option T_speculumref11_P) → (List Int) → T_speculumref11_Node → (List (List Bool)) → Int → Option (List (List Bool))
  | 0, _, _, _, _, _ => none
  | k + 1, x0, x2, y9, l23, n31 => (if n31 < (y9.Kids.length : Int) then ((lat y9.Kids n31).bind fun y48 => ((speculumref11_P_ends.f k x0 y48 x2).bind fun y55 => ((speculumref11_then.f k l23 y55).bind fun y65 => (speculumref11_P_ends.l0 k x0 x2 y9 y65 (i64 (n31 + 1)))))) else (some l23))
def speculumref11_P_ends.l1 : Nat → (Option T_speculumref11_P) → (List Int) → T_speculumref11_Node → (List (List Bool)) → Int → Option (List (List Bool))
  | 0, _, _, _, _, _ => none
  | k + 1, x0, x2, y9, l71, n79 => (if n79 < (y9.Kids.length : Int) then ((lat y9.Kids n79).bind fun y96 => ((speculumref11_P_ends.f k x0 y96 x2).bind fun y103 => ((speculumref11_either.f k l71 y103).bind fun y113 => (speculumref11_P_ends.l1 k x0 x2 y9 y113 (i64 (n79 + 1)))))) else (some l71))
def speculumref11_P_ends.l2 : Nat → (List Int) → T_speculumref11_Node → (List (List Bool)) → Int → Option (List (List Bool))
  | 0, _, _, _, _ => none
  | k + 1, x2, y9, l125, n133 => (if n133 < (x2.length : Int) then ((lat l125 n133).bind fun y150 => (if y9.Kind = 46 then ((lat y150 (i64 (n133 + 1))).bind fun y165 => (speculumref11_P_ends.l2 k x2 y9 (l125.set (n133 : Int).toNat (y150.set (i64 (n133 + 1)).toNat true)) (i64 (n133 + 1)))) else ((lat x2 n133).bind fun y176 => ((speculumref11_Node_in.f k y9 (i64 y176)).bind fun y183 => ((lat y150 (i64 (n133 + 1))).bind fun y185 => (speculumref11_P_ends.l2 k x2 y9 (l125.set (n133 : Int).toNat (y150.set (i64 (n133 + 1)).toNat y183)) (i64 (n133 + 1)))))))) else (some l125))
def speculumref11_P_ends.f : Nat → (Option T_speculumref11_P) → Int → (List Int) → Option (List (List Bool))
  | 0, _, _, _ => none
  | k + 1, x0, x1, x2 => ((x0).bind fun y1 => ((lat y1.N x1).bind fun y9 => ((speculumref11_still.f k (x2.length : Int) (y9.Kind == 114)).bind fun y17 => (if y9.Kind = 114 then ((speculumref11_P_ends.l0 k x0 x2 y9 y17 0).bind fun l38 => (some l38)) else (if y9.Kind = 99 then ((speculumref11_P_ends.l1 k x0 x2 y9 y17 0).bind fun l86 => (some l86)) else ((if y9.Kind = 115 then (some (y9.Kind == 115)) else (some (y9.Kind == 46))).bind fun b118 => (if b118 = true then ((speculumref11_P_ends.l2 k x2 y9 y17 0).bind fun l140 => (some l140)) else (if y9.Kind = 94 then ((lat y17 0).bind fun y197 => ((lat y197 0).bind fun y210 => (some (y17.set (0 : Int).toNat (y197.set (0 : Int).toNat true))))) else (if y9.Kind = 36 then ((lat y17 (x2.length : Int)).bind fun y222 => ((lat y222 (x2.length : Int)).bind fun y235 => (some (y17.set ((x2.length : Int) : Int).toNat (y222.set (x2.length : Int).toNat true))))) else (if y9.Kind = 63 then ((lat y9.Kids 0).bind fun y248 => ((speculumref11_still.f k (x2.length : Int) true).bind fun y255 => ((speculumref11_P_ends.f k x0 y248 x2).bind fun y259 => ((speculumref11_either.f k y255 y259).bind fun y269 => (some y269))))) else (if y9.Kind = 42 then ((lat y9.Kids 0).bind fun y274 => ((speculumref11_P_ends.f k x0 y274 x2).bind fun y281 => ((speculumref11_often.f k y281).bind fun y288 => (some y288)))) else (if y9.Kind = 43 then ((lat y9.Kids 0).bind fun y293 => ((speculumref11_P_ends.f k x0 y293 x2).bind fun y300 => ((speculumref11_often.f k y300).bind fun y307 => ((speculumref11_then.f k y300 y307).bind fun y314 => (some y314))))) else (some y17)))))))))))))
end
abbrev speculumref11_P_ends.C (k : Nat) : Prop := ∀ {x0 : (Option T_speculumref11_P)} {x1 : Int} {x2 : (List Int)} {vx0 : Value} {vx2 : Value} {F : List It} {I : IMem} {w : World} {r : (List (List Bool))}, Glob I → Own I w (F) → PtR R_speculumref11_P I vx0 x0 → SlR (tInt' .u32) I vx2 x2 → speculumref11_P_ends.f k x0 x1 x2 = some r →
    Calls Tryd.prog 24 #[vx0, .int .i64 x1, vx2] w fun e w' => ∃ v, e = .returned v ∧ ∃ (vy_0 : Value) (cy_0 : List Value) (uy_0 : List Value) (py_0 : List (Value × List Value)) (J : IMem), I.le J ∧ v = vy_0 ∧ Flat tRaw J cy_0 uy_0 ∧ MxR tBool J uy_0 py_0 r ∧ Own J w' (.av vy_0 64 1 cy_0 :: .fam 4 1 py_0 :: F)
theorem speculumref11_P_ends.step (k : Nat) (ih_speculumref11_P_ends : ∀ m, m ≤ k → speculumref11_P_ends.C m) : speculumref11_P_ends.C (k + 1) := by
  intro x0 x1 x2 vx0 vx2 F I w r hG S hx0 hx2 H
  have hI := IMem.le.refl I
  rw [speculumref11_P_ends.f] at H
  refine Calls.ofFW (args := [vx0, .int .i64 x1, vx2]) Tryd.func24 rfl rfl ?_
  refine FW.seq ?_
  refine FW.region ?_
  refine U rfl rfl (V (x_asgV (v := (.slice none 0 0)) rfl) ?_)
  refine FW.seq ?_
  refine FW.region ?_
  refine U rfl rfl (V (x_movV (v := vx0) rfl) ?_)
  obtain ⟨y1, hy2, H⟩ := obx H
  obtain ⟨b3, o4, cs5, hv6, hr7, hc8⟩ := hx0.some hy2
  obtain ⟨y1v2, rfl, y1h2⟩ := hr7
  refine U rfl rfl (V (x_nk hv6) ?_)
  refine U rfl rfl (V (x_fa tf62_2 rfl) ?_)
  refine U rfl rfl (V (x_ld tsc60 rfl (S.cell _ _ _ (hc8 2 _ rfl))) ?_)
  refine U rfl rfl (V (x_movV (v := .int .i64 x1) rfl) ?_)
  obtain ⟨y9, h10, H⟩ := obx H
  refine U rfl rfl (o_ia (r := R_speculumref11_Node) tsl60 rfl rfl y1h2 rfl h10 fun b11 o12 cs13 hr14 hc15 => ?_)
  obtain ⟨y9v1, y9v2, y9v3, rfl, y9h1, y9h2, y9h3⟩ := hr14
  refine U rfl rfl (V (x_ldA tag77 rfl (S.loadI hc15) rfl) ?_)
  refine U rfl rfl (o_all tz77 S fun b16 w S => ?_)
  refine U rfl rfl (o_stA tag77 S 0 rfl rfl rfl rfl (c1 rfl (c1 y9h1.one (c1 y9h2.one (c1 y9h3.one (c1 rfl (c1 rfl c0)))))) rfl fun w S => ?_)
  refine FW.seq ?_
  refine FW.anew [(0, vx0), (2, vx2), (7, .pointer (some ⟨b16, 0, none⟩))] ⟨rfl, rfl, rfl, trivial⟩ fun σ => ?_
  refine FW.region ?_
  refine U rfl rfl (V (x_movV (v := vx2) rfl) ?_)
  refine U rfl rfl (V (x_lenD (r := (tInt' .u32)) tsl22 hx2) ?_)
  refine U rfl rfl (V (x_asgV (v := .int .i64 (x2.length : Int)) rfl) ?_)
  refine FW.seq ?_
  refine FW.region ?_
  refine U rfl rfl (V (x_movV (v := .int .i64 (x2.length : Int)) rfl) ?_)
  refine U rfl rfl (V (x_fa tf77_0 rfl) ?_)
  refine U rfl rfl (V (x_ld tsc5 rfl (S.load 0 rfl 0 rfl)) ?_)
  refine U rfl rfl (V (x_bin rfl rfl rfl) ?_)
  obtain ⟨y17, hy18, H⟩ := obx H
  refine U rfl rfl (cl fb34 (@speculumref11_still.ok k (x2.length : Int) (y9.Kind == 114) _ _ _ _ hG S hy18) rfl ?_)
  rintro vy17_0 w ⟨vy17_0q, cy17_0, uy17_0, py17_0, J19, hJ20, rfl, hy17_0, my17_0, S⟩
  have hx0 := hx0.mono hJ20
  have hx2 := hx2.mono hJ20
  have hc8 := hc8.mono hJ20
  have y1h2 := y1h2.mono hJ20
  have y9h1 := y9h1.mono hJ20
  have y9h2 := y9h2.mono hJ20
  have y9h3 := y9h3.mono hJ20
  have hI := hI.trans hJ20
  have hG := hG.mono hJ20
  refine U rfl rfl (V (x_asgV (v := vy17_0) rfl) ?_)
  refine FW.seq ?_
  refine FW.seq ?_
  refine FW.anew [(0, vx0), (2, vx2), (7, .pointer (some ⟨b16, 0, none⟩)), (8, .int .i64 (x2.length : Int)), (9, vy17_0)] ⟨rfl, rfl, rfl, rfl, rfl, trivial⟩ fun σ => ?_
  refine FW.region ?_
  refine U rfl rfl (V (x_fa tf77_0 rfl) ?_)
  refine U rfl rfl (V (x_ld tsc5 rfl (S.load 2 rfl 0 rfl)) ?_)
  refine FW.block ?_
  refine FW.seq ?_
  refine FW.region ?_
  refine U rfl rfl (V (x_bin rfl rfl rfl) ?_)
  refine U rfl rfl (V (x_asgV (v := .bool (y9.Kind == 114)) rfl) ?_)
  by_cases cc21 : y9.Kind = 114
  · rw [if_pos cc21] at H
    refine FW.condT rfl (eqT cc21) ?_
    refine FW.seq ?_
    refine FW.region ?_
    refine U rfl rfl (V (x_asgV (v := .int .i64 0) rfl) ?_)
    refine FW.block ?_
    obtain ⟨o34, hl36, HO35⟩ := obx H
    refine FW.cutX 1 (fun σ w => ∃ (l38 : (List (List Bool))) (v39 : Value) (a40 : List Value) (u41 : List Value) (p42 : List (Value × List Value)) (J37 : IMem), l38 = o34 ∧ Has σ [(9, v39)] ∧ J19.le J37 ∧ Own J37 w (.bk b16 77 [.int .u8 y9.Kind, y9v1, y9v2, y9v3, .bool y9.Not, .bool y9.Num] :: .av v39 64 1 a40 :: .fam 4 1 p42 :: F) ∧ Flat tRaw J37 a40 u41 ∧ MxR tBool J37 u41 p42 l38) ?_ ?_
    ·
      refine FW.loop k (FL.ind (fun q σ w => ∃ (l23 : (List (List Bool))) (n31 : Int) (v24 : Value) (a25 : List Value) (u26 : List Value) (p27 : List (Value × List Value)) (J22 : IMem), speculumref11_P_ends.l0 q x0 x2 y9 l23 n31 = some o34 ∧ q ≤ k ∧ Has σ [(0, vx0), (2, vx2), (7, .pointer (some ⟨b16, 0, none⟩)), (9, v24), (10, .int .i64 n31)] ∧ J19.le J22 ∧ Own J22 w (.bk b16 77 [.int .u8 y9.Kind, y9v1, y9v2, y9v3, .bool y9.Not, .bool y9.Num] :: .av v24 64 1 a25 :: .fam 4 1 p27 :: F) ∧ Flat tRaw J22 a25 u26 ∧ MxR tBool J22 u26 p27 l23) ?_ ?_ k k _ _ (Nat.le_refl _) ⟨y17, 0, vy17_0, cy17_0, uy17_0, py17_0, J19, hl36, Nat.le_refl _, ⟨rfl, rfl, rfl, rfl, rfl, trivial⟩, (IMem.le.refl _), (S.sel 3 [2, 0, 1] rfl), hy17_0, my17_0⟩)
      · rintro σ w ⟨l23, n31, v24, a25, u26, p27, J22, H, _⟩; cases H
      · rintro q32 σ w ⟨l23, n31, v24, a25, u26, p27, J22, H, hq46, hσ, hL33, S, h28, h29⟩
        have hx0 := hx0.mono hL33
        have hx2 := hx2.mono hL33
        have hc8 := hc8.mono hL33
        have y1h2 := y1h2.mono hL33
        have y9h1 := y9h1.mono hL33
        have y9h2 := y9h2.mono hL33
        have y9h3 := y9h3.mono hL33
        have hI := hI.trans hL33
        have hG := hG.mono hL33
        rw [hσ.eq]
        rw [speculumref11_P_ends.l0] at H
        refine FW.seq ?_
        refine FW.seq ?_
        refine FW.region ?_
        refine U rfl rfl (V (x_movV (v := .int .i64 n31) rfl) ?_)
        refine U rfl rfl (V (x_fa tf77_1 rfl) ?_)
        refine U rfl rfl (V (x_ld tsc75 rfl (S.load 0 rfl 1 rfl)) ?_)
        refine U rfl rfl (V (x_lenD (r := (tInt' .i64)) tsl75 y9h1) ?_)
        refine U rfl rfl (V (x_bin rfl rfl rfl) ?_)
        by_cases cc47 : n31 < (y9.Kids.length : Int)
        · rw [if_pos cc47] at H
          refine FW.condT rfl (deT cc47) ?_
          refine FW.skip ?_
          refine FW.seq ?_
          refine FW.block ?_
          refine FW.region ?_
          refine U rfl rfl (V (x_movV (v := v24) rfl) ?_)
          refine U rfl rfl (V (x_movV (v := vx0) rfl) ?_)
          refine U rfl rfl (V (x_fa tf77_1 rfl) ?_)
          refine U rfl rfl (V (x_ld tsc75 rfl (S.load 0 rfl 1 rfl)) ?_)
          refine U rfl rfl (V (x_movV (v := .int .i64 n31) rfl) ?_)
          obtain ⟨y48, h49, H⟩ := obx H
          refine U rfl rfl (o_ia (r := (tInt' .i64)) tsl75 rfl rfl y9h1 rfl h49 fun b50 o51 cs52 hr53 hc54 => ?_)
          obtain rfl := hr53
          refine U rfl rfl (V (x_ld tsc3 rfl (S.cell _ _ _ (hc54 0 _ rfl))) ?_)
          refine U rfl rfl (V (x_movV (v := vx2) rfl) ?_)
          obtain ⟨y55, hy56, H⟩ := obx H
          refine U rfl rfl (cl fb24 (@ih_speculumref11_P_ends q32 (by omega) x0 y48 x2 _ _ _ _ _ _ hG S hx0 hx2 hy56) rfl ?_)
          rintro vy55_0 w ⟨vy55_0q, cy55_0, uy55_0, py55_0, J57, hJ58, rfl, hy55_0, my55_0, S⟩
          have hx0 := hx0.mono hJ58
          have hx2 := hx2.mono hJ58
          have y9h1 := y9h1.mono hJ58
          have hc54 := hc54.mono hJ58
          have hc8 := hc8.mono hJ58
          have y1h2 := y1h2.mono hJ58
          have y9h2 := y9h2.mono hJ58
          have y9h3 := y9h3.mono hJ58
          have h28 := h28.mono hJ58
          have h29 := h29.mono hJ58
          have hI := hI.trans hJ58
          have hL33 := hL33.trans hJ58
          have hG := hG.mono hJ58
          have S : Own J57 _ (.av v24 64 1 a25 :: .fam 4 1 p27 :: .av vy55_0 64 1 cy55_0 :: .fam 4 1 py55_0 :: .bk b16 77 [.int .u8 y9.Kind, y9v1, y9v2, y9v3, .bool y9.Not, .bool y9.Num] :: F) := (S.sel 5 [3, 4, 0, 1, 2] rfl)
          obtain ⟨J59, hJ61, S, h60⟩ := S.freezeM (r := tBool) h28 h29 rfl rfl
          have hx0 := hx0.mono hJ61
          have hx2 := hx2.mono hJ61
          have y9h1 := y9h1.mono hJ61
          have hc54 := hc54.mono hJ61
          have hc8 := hc8.mono hJ61
          have y1h2 := y1h2.mono hJ61
          have hy55_0 := hy55_0.mono hJ61
          have my55_0 := my55_0.mono hJ61
          have y9h2 := y9h2.mono hJ61
          have y9h3 := y9h3.mono hJ61
          have hI := hI.trans hJ61
          have hL33 := hL33.trans hJ61
          have hG := hG.mono hJ61
          have S : Own J59 _ (.av vy55_0 64 1 cy55_0 :: .fam 4 1 py55_0 :: .tv v24 64 1 :: .bk b16 77 [.int .u8 y9.Kind, y9v1, y9v2, y9v3, .bool y9.Not, .bool y9.Num] :: F) := (S.sel 4 [1, 2, 0, 3] rfl)
          obtain ⟨J62, hJ64, S, h63⟩ := S.freezeM (r := tBool) hy55_0 my55_0 rfl rfl
          have hx0 := hx0.mono hJ64
          have hx2 := hx2.mono hJ64
          have h60 := h60.mono hJ64
          have y9h1 := y9h1.mono hJ64
          have hc54 := hc54.mono hJ64
          have hc8 := hc8.mono hJ64
          have y1h2 := y1h2.mono hJ64
          have y9h2 := y9h2.mono hJ64
          have y9h3 := y9h3.mono hJ64
          have hI := hI.trans hJ64
          have hL33 := hL33.trans hJ64
          have hG := hG.mono hJ64
          obtain ⟨y65, hy66, H⟩ := obx H
          refine U rfl rfl (cl fb35 (@speculumref11_then.ok q32 l23 y55 _ _ _ _ _ _ hG S h60 h63 hy66) rfl ?_)
          rintro vy65_0 w ⟨vy65_0q, cy65_0, uy65_0, py65_0, J67, hJ68, rfl, hy65_0, my65_0, S⟩
          have hx0 := hx0.mono hJ68
          have hx2 := hx2.mono hJ68
          have h60 := h60.mono hJ68
          have y9h1 := y9h1.mono hJ68
          have hc54 := hc54.mono hJ68
          have h63 := h63.mono hJ68
          have hc8 := hc8.mono hJ68
          have y1h2 := y1h2.mono hJ68
          have y9h2 := y9h2.mono hJ68
          have y9h3 := y9h3.mono hJ68
          have hI := hI.trans hJ68
          have hL33 := hL33.trans hJ68
          have hG := hG.mono hJ68
          refine U rfl rfl (V (x_asgV (v := vy65_0) rfl) ?_)
          refine FW.anew [(0, vx0), (2, vx2), (7, .pointer (some ⟨b16, 0, none⟩)), (9, vy65_0), (10, .int .i64 n31)] ⟨rfl, rfl, rfl, rfl, rfl, trivial⟩ fun σ => ?_
          refine FW.region ?_
          refine U rfl rfl (V (x_movV (v := .int .i64 n31) rfl) ?_)
          refine U rfl rfl (V (x_bin rfl rfl rfl) ?_)
          refine U rfl rfl (V (x_asgV (v := .int .i64 (i64 (n31 + 1))) rfl) ?_)
          exact ⟨q32, Nat.le_refl _, y65, (i64 (n31 + 1)), vy65_0, cy65_0, uy65_0, py65_0, J67, H, (Nat.le_of_succ_le hq46), ⟨rfl, rfl, rfl, rfl, rfl, trivial⟩, hL33, (S.sel 5 [4, 0, 1] rfl), hy65_0, my65_0⟩
        · rw [if_neg cc47] at H
          refine FW.condF rfl (deF cc47) ?_
          refine FW.exit ?_
          exact ⟨l23, v24, a25, u26, p27, J22, (Option.some.inj H), ⟨rfl, trivial⟩, hL33, S, h28, h29⟩
    · rintro σ w ⟨l38, v39, a40, u41, p42, J37, ho, hσ, hL33, S, h43, h44⟩
      subst ho
      have H := HO35
      have hc8 := hc8.mono hL33
      have y1h2 := y1h2.mono hL33
      have y9h1 := y9h1.mono hL33
      have y9h2 := y9h2.mono hL33
      have y9h3 := y9h3.mono hL33
      have hI := hI.trans hL33
      have hG := hG.mono hL33
      rw [hσ.eq]
      refine FW.seq ?_
      refine FW.region ?_
      refine U rfl rfl (V (x_movV (v := v39) rfl) ?_)
      refine U rfl rfl (V (x_asgV (v := v39) rfl) ?_)
      refine FW.ret ?_
      obtain rfl := Option.some.inj H
      exact ⟨_, ⟨_, rfl, rfl⟩, ⟨v39, a40, u41, p42, J37, hI, rfl, h43, h44, (S.sel 3 [1, 2] rfl)⟩⟩
  · rw [if_neg cc21] at H
    refine FW.condF rfl (eqF cc21) ?_
    refine FW.seq ?_
    refine FW.region ?_
    refine U rfl rfl (V (x_bin rfl rfl rfl) ?_)
    refine U rfl rfl (V (x_asgV (v := .bool (y9.Kind == 99)) rfl) ?_)
    by_cases cc69 : y9.Kind = 99
    · rw [if_pos cc69] at H
      refine FW.condT rfl (eqT cc69) ?_
      refine FW.seq ?_
      refine FW.region ?_
      refine U rfl rfl (V (x_asgV (v := .int .i64 0) rfl) ?_)
      refine FW.block ?_
      obtain ⟨o82, hl84, HO83⟩ := obx H
      refine FW.cutX 3 (fun σ w => ∃ (l86 : (List (List Bool))) (v87 : Value) (a88 : List Value) (u89 : List Value) (p90 : List (Value × List Value)) (J85 : IMem), l86 = o82 ∧ Has σ [(9, v87)] ∧ J19.le J85 ∧ Own J85 w (.bk b16 77 [.int .u8 y9.Kind, y9v1, y9v2, y9v3, .bool y9.Not, .bool y9.Num] :: .av v87 64 1 a88 :: .fam 4 1 p90 :: F) ∧ Flat tRaw J85 a88 u89 ∧ MxR tBool J85 u89 p90 l86) ?_ ?_
      ·
        refine FW.loop k (FL.ind (fun q σ w => ∃ (l71 : (List (List Bool))) (n79 : Int) (v72 : Value) (a73 : List Value) (u74 : List Value) (p75 : List (Value × List Value)) (J70 : IMem), speculumref11_P_ends.l1 q x0 x2 y9 l71 n79 = some o82 ∧ q ≤ k ∧ Has σ [(0, vx0), (2, vx2), (7, .pointer (some ⟨b16, 0, none⟩)), (9, v72), (11, .int .i64 n79)] ∧ J19.le J70 ∧ Own J70 w (.bk b16 77 [.int .u8 y9.Kind, y9v1, y9v2, y9v3, .bool y9.Not, .bool y9.Num] :: .av v72 64 1 a73 :: .fam 4 1 p75 :: F) ∧ Flat tRaw J70 a73 u74 ∧ MxR tBool J70 u74 p75 l71) ?_ ?_ k k _ _ (Nat.le_refl _) ⟨y17, 0, vy17_0, cy17_0, uy17_0, py17_0, J19, hl84, Nat.le_refl _, ⟨rfl, rfl, rfl, rfl, rfl, trivial⟩, (IMem.le.refl _), (S.sel 3 [2, 0, 1] rfl), hy17_0, my17_0⟩)
        · rintro σ w ⟨l71, n79, v72, a73, u74, p75, J70, H, _⟩; cases H
        · rintro q80 σ w ⟨l71, n79, v72, a73, u74, p75, J70, H, hq94, hσ, hL81, S, h76, h77⟩
          have hx0 := hx0.mono hL81
          have hx2 := hx2.mono hL81
          have hc8 := hc8.mono hL81
          have y1h2 := y1h2.mono hL81
          have y9h1 := y9h1.mono hL81
          have y9h2 := y9h2.mono hL81
          have y9h3 := y9h3.mono hL81
          have hI := hI.trans hL81
          have hG := hG.mono hL81
          rw [hσ.eq]
          rw [speculumref11_P_ends.l1] at H
          refine FW.seq ?_
          refine FW.seq ?_
          refine FW.region ?_
          refine U rfl rfl (V (x_movV (v := .int .i64 n79) rfl) ?_)
          refine U rfl rfl (V (x_fa tf77_1 rfl) ?_)
          refine U rfl rfl (V (x_ld tsc75 rfl (S.load 0 rfl 1 rfl)) ?_)
          refine U rfl rfl (V (x_lenD (r := (tInt' .i64)) tsl75 y9h1) ?_)
          refine U rfl rfl (V (x_bin rfl rfl rfl) ?_)
          by_cases cc95 : n79 < (y9.Kids.length : Int)
          · rw [if_pos cc95] at H
            refine FW.condT rfl (deT cc95) ?_
            refine FW.skip ?_
            refine FW.seq ?_
            refine FW.block ?_
            refine FW.region ?_
            refine U rfl rfl (V (x_movV (v := v72) rfl) ?_)
            refine U rfl rfl (V (x_movV (v := vx0) rfl) ?_)
            refine U rfl rfl (V (x_fa tf77_1 rfl) ?_)
            refine U rfl rfl (V (x_ld tsc75 rfl (S.load 0 rfl 1 rfl)) ?_)
            refine U rfl rfl (V (x_movV (v := .int .i64 n79) rfl) ?_)
            obtain ⟨y96, h97, H⟩ := obx H
            refine U rfl rfl (o_ia (r := (tInt' .i64)) tsl75 rfl rfl y9h1 rfl h97 fun b98 o99 cs100 hr101 hc102 => ?_)
            obtain rfl := hr101
            refine U rfl rfl (V (x_ld tsc3 rfl (S.cell _ _ _ (hc102 0 _ rfl))) ?_)
            refine U rfl rfl (V (x_movV (v := vx2) rfl) ?_)
            obtain ⟨y103, hy104, H⟩ := obx H
            refine U rfl rfl (cl fb24 (@ih_speculumref11_P_ends q80 (by omega) x0 y96 x2 _ _ _ _ _ _ hG S hx0 hx2 hy104) rfl ?_)
            rintro vy103_0 w ⟨vy103_0q, cy103_0, uy103_0, py103_0, J105, hJ106, rfl, hy103_0, my103_0, S⟩
            have hx0 := hx0.mono hJ106
            have hx2 := hx2.mono hJ106
            have y9h1 := y9h1.mono hJ106
            have hc102 := hc102.mono hJ106
            have hc8 := hc8.mono hJ106
            have y1h2 := y1h2.mono hJ106
            have y9h2 := y9h2.mono hJ106
            have y9h3 := y9h3.mono hJ106
            have h76 := h76.mono hJ106
            have h77 := h77.mono hJ106
            have hI := hI.trans hJ106
            have hL81 := hL81.trans hJ106
            have hG := hG.mono hJ106
            have S : Own J105 _ (.av v72 64 1 a73 :: .fam 4 1 p75 :: .av vy103_0 64 1 cy103_0 :: .fam 4 1 py103_0 :: .bk b16 77 [.int .u8 y9.Kind, y9v1, y9v2, y9v3, .bool y9.Not, .bool y9.Num] :: F) := (S.sel 5 [3, 4, 0, 1, 2] rfl)
            obtain ⟨J107, hJ109, S, h108⟩ := S.freezeM (r := tBool) h76 h77 rfl rfl
            have hx0 := hx0.mono hJ109
            have hx2 := hx2.mono hJ109
            have y9h1 := y9h1.mono hJ109
            have hc102 := hc102.mono hJ109
            have hc8 := hc8.mono hJ109
            have y1h2 := y1h2.mono hJ109
            have hy103_0 := hy103_0.mono hJ109
            have my103_0 := my103_0.mono hJ109
            have y9h2 := y9h2.mono hJ109
            have y9h3 := y9h3.mono hJ109
            have hI := hI.trans hJ109
            have hL81 := hL81.trans hJ109
            have hG := hG.mono hJ109
            have S : Own J107 _ (.av vy103_0 64 1 cy103_0 :: .fam 4 1 py103_0 :: .tv v72 64 1 :: .bk b16 77 [.int .u8 y9.Kind, y9v1, y9v2, y9v3, .bool y9.Not, .bool y9.Num] :: F) := (S.sel 4 [1, 2, 0, 3] rfl)
            obtain ⟨J110, hJ112, S, h111⟩ := S.freezeM (r := tBool) hy103_0 my103_0 rfl rfl
            have hx0 := hx0.mono hJ112
            have hx2 := hx2.mono hJ112
            have h108 := h108.mono hJ112
            have y9h1 := y9h1.mono hJ112
            have hc102 := hc102.mono hJ112
            have hc8 := hc8.mono hJ112
            have y1h2 := y1h2.mono hJ112
            have y9h2 := y9h2.mono hJ112
            have y9h3 := y9h3.mono hJ112
            have hI := hI.trans hJ112
            have hL81 := hL81.trans hJ112
            have hG := hG.mono hJ112
            obtain ⟨y113, hy114, H⟩ := obx H
            refine U rfl rfl (cl fb36 (@speculumref11_either.ok q80 l71 y103 _ _ _ _ _ _ hG S h108 h111 hy114) rfl ?_)
            rintro vy113_0 w ⟨vy113_0q, cy113_0, uy113_0, py113_0, J115, hJ116, rfl, hy113_0, my113_0, S⟩
            have hx0 := hx0.mono hJ116
            have hx2 := hx2.mono hJ116
            have h108 := h108.mono hJ116
            have y9h1 := y9h1.mono hJ116
            have hc102 := hc102.mono hJ116
            have h111 := h111.mono hJ116
            have hc8 := hc8.mono hJ116
            have y1h2 := y1h2.mono hJ116
            have y9h2 := y9h2.mono hJ116
            have y9h3 := y9h3.mono hJ116
            have hI := hI.trans hJ116
            have hL81 := hL81.trans hJ116
            have hG := hG.mono hJ116
            refine U rfl rfl (V (x_asgV (v := vy113_0) rfl) ?_)
            refine FW.anew [(0, vx0), (2, vx2), (7, .pointer (some ⟨b16, 0, none⟩)), (9, vy113_0), (11, .int .i64 n79)] ⟨rfl, rfl, rfl, rfl, rfl, trivial⟩ fun σ => ?_
            refine FW.region ?_
            refine U rfl rfl (V (x_movV (v := .int .i64 n79) rfl) ?_)
            refine U rfl rfl (V (x_bin rfl rfl rfl) ?_)
            refine U rfl rfl (V (x_asgV (v := .int .i64 (i64 (n79 + 1))) rfl) ?_)
            exact ⟨q80, Nat.le_refl _, y113, (i64 (n79 + 1)), vy113_0, cy113_0, uy113_0, py113_0, J115, H, (Nat.le_of_succ_le hq94), ⟨rfl, rfl, rfl, rfl, rfl, trivial⟩, hL81, (S.sel 5 [4, 0, 1] rfl), hy113_0, my113_0⟩
          · rw [if_neg cc95] at H
            refine FW.condF rfl (deF cc95) ?_
            refine FW.exit ?_
            exact ⟨l71, v72, a73, u74, p75, J70, (Option.some.inj H), ⟨rfl, trivial⟩, hL81, S, h76, h77⟩
      · rintro σ w ⟨l86, v87, a88, u89, p90, J85, ho, hσ, hL81, S, h91, h92⟩
        subst ho
        have H := HO83
        have hc8 := hc8.mono hL81
        have y1h2 := y1h2.mono hL81
        have y9h1 := y9h1.mono hL81
        have y9h2 := y9h2.mono hL81
        have y9h3 := y9h3.mono hL81
        have hI := hI.trans hL81
        have hG := hG.mono hL81
        rw [hσ.eq]
        refine FW.seq ?_
        refine FW.region ?_
        refine U rfl rfl (V (x_movV (v := v87) rfl) ?_)
        refine U rfl rfl (V (x_asgV (v := v87) rfl) ?_)
        refine FW.ret ?_
        obtain rfl := Option.some.inj H
        exact ⟨_, ⟨_, rfl, rfl⟩, ⟨v87, a88, u89, p90, J85, hI, rfl, h91, h92, (S.sel 3 [1, 2] rfl)⟩⟩
    · rw [if_neg cc69] at H
      refine FW.condF rfl (eqF cc69) ?_
      refine FW.seq ?_
      refine FW.seq ?_
      refine FW.region ?_
      refine U rfl rfl (V (x_bin rfl rfl rfl) ?_)
      refine U rfl rfl (V (x_asgV (v := .bool (y9.Kind == 115)) rfl) ?_)
      obtain ⟨o119, H, HO120⟩ := obx H
      have hL121 := IMem.le.refl J19
      refine FW.cutN (fun σ w => ∃ (b118 : Bool) (J117 : IMem), b118 = o119 ∧ Has σ [(0, vx0), (2, vx2), (7, .pointer (some ⟨b16, 0, none⟩)), (8, .int .i64 (x2.length : Int)), (9, vy17_0), (29, .int .u8 y9.Kind), (68, .bool b118)] ∧ J19.le J117 ∧ Own J117 w (.av vy17_0 64 1 cy17_0 :: .fam 4 1 py17_0 :: .bk b16 77 [.int .u8 y9.Kind, y9v1, y9v2, y9v3, .bool y9.Not, .bool y9.Num] :: F)) ?_ ?_
      ·
        by_cases cc122 : y9.Kind = 115
        · rw [if_pos cc122] at H
          refine FW.condT rfl (eqT cc122) ?_
          refine FW.skip ?_
          exact ⟨(y9.Kind == 115), J19, (Option.some.inj H), ⟨rfl, rfl, rfl, rfl, rfl, rfl, rfl, trivial⟩, hL121, S⟩
        · rw [if_neg cc122] at H
          refine FW.condF rfl (eqF cc122) ?_
          refine FW.anew [(0, vx0), (2, vx2), (7, .pointer (some ⟨b16, 0, none⟩)), (8, .int .i64 (x2.length : Int)), (9, vy17_0), (29, .int .u8 y9.Kind)] ⟨rfl, rfl, rfl, rfl, rfl, rfl, trivial⟩ fun σ => ?_
          refine FW.region ?_
          refine U rfl rfl (V (x_bin rfl rfl rfl) ?_)
          refine U rfl rfl (V (x_asgV (v := .bool (y9.Kind == 46)) rfl) ?_)
          exact ⟨(y9.Kind == 46), J19, (Option.some.inj H), ⟨rfl, rfl, rfl, rfl, rfl, rfl, rfl, trivial⟩, hL121, S⟩
      · rintro σ w ⟨b118, J117, ho, hσ, hL121, S⟩
        subst ho
        have H := HO120
        have hx0 := hx0.mono hL121
        have hx2 := hx2.mono hL121
        have hc8 := hc8.mono hL121
        have y1h2 := y1h2.mono hL121
        have hy17_0 := hy17_0.mono hL121
        have my17_0 := my17_0.mono hL121
        have y9h1 := y9h1.mono hL121
        have y9h2 := y9h2.mono hL121
        have y9h3 := y9h3.mono hL121
        have hI := hI.trans hL121
        have hG := hG.mono hL121
        rw [hσ.eq]
        by_cases cc123 : b118 = true
        · rw [if_pos cc123] at H
          refine FW.condT rfl cc123 ?_
          refine FW.seq ?_
          refine FW.region ?_
          refine U rfl rfl (V (x_asgV (v := .int .i64 0) rfl) ?_)
          refine FW.block ?_
          obtain ⟨o136, hl138, HO137⟩ := obx H
          refine FW.cutX 5 (fun σ w => ∃ (l140 : (List (List Bool))) (v141 : Value) (a142 : List Value) (u143 : List Value) (p144 : List (Value × List Value)) (J139 : IMem), l140 = o136 ∧ Has σ [(9, v141)] ∧ J117.le J139 ∧ Own J139 w (.bk b16 77 [.int .u8 y9.Kind, y9v1, y9v2, y9v3, .bool y9.Not, .bool y9.Num] :: .av v141 64 1 a142 :: .fam 4 1 p144 :: F) ∧ Flat tRaw J139 a142 u143 ∧ MxR tBool J139 u143 p144 l140) ?_ ?_
          ·
            refine FW.loop k (FL.ind (fun q σ w => ∃ (l125 : (List (List Bool))) (n133 : Int) (v126 : Value) (a127 : List Value) (u128 : List Value) (p129 : List (Value × List Value)) (J124 : IMem), speculumref11_P_ends.l2 q x2 y9 l125 n133 = some o136 ∧ q ≤ k ∧ Has σ [(2, vx2), (7, .pointer (some ⟨b16, 0, none⟩)), (8, .int .i64 (x2.length : Int)), (9, v126), (12, .int .i64 n133)] ∧ J117.le J124 ∧ Own J124 w (.bk b16 77 [.int .u8 y9.Kind, y9v1, y9v2, y9v3, .bool y9.Not, .bool y9.Num] :: .av v126 64 1 a127 :: .fam 4 1 p129 :: F) ∧ Flat tRaw J124 a127 u128 ∧ MxR tBool J124 u128 p129 l125) ?_ ?_ k k _ _ (Nat.le_refl _) ⟨y17, 0, vy17_0, cy17_0, uy17_0, py17_0, J117, hl138, Nat.le_refl _, ⟨rfl, rfl, rfl, rfl, rfl, trivial⟩, (IMem.le.refl _), (S.sel 3 [2, 0, 1] rfl), hy17_0, my17_0⟩)
            · rintro σ w ⟨l125, n133, v126, a127, u128, p129, J124, H, _⟩; cases H
            · rintro q134 σ w ⟨l125, n133, v126, a127, u128, p129, J124, H, hq148, hσ, hL135, S, h130, h131⟩
              have hx2 := hx2.mono hL135
              have hc8 := hc8.mono hL135
              have y1h2 := y1h2.mono hL135
              have y9h1 := y9h1.mono hL135
              have y9h2 := y9h2.mono hL135
              have y9h3 := y9h3.mono hL135
              have hI := hI.trans hL135
              have hG := hG.mono hL135
              rw [hσ.eq]
              rw [speculumref11_P_ends.l2] at H
              refine FW.seq ?_
              refine FW.seq ?_
              refine FW.region ?_
              refine U rfl rfl (V (x_movV (v := .int .i64 n133) rfl) ?_)
              refine U rfl rfl (V (x_movV (v := .int .i64 (x2.length : Int)) rfl) ?_)
              refine U rfl rfl (V (x_bin rfl rfl rfl) ?_)
              by_cases cc149 : n133 < (x2.length : Int)
              · rw [if_pos cc149] at H
                refine FW.condT rfl (deT cc149) ?_
                refine FW.skip ?_
                refine FW.seq ?_
                refine FW.block ?_
                have S := S.drew
                refine FW.regionD mixed ?_
                have hO := Hold.nil (w := { w with drawn := w.drawn + 1 })
                refine AQ.pure 0 rfl (by kernel_rfl) (by kernel_rfl) (by kernel_rfl) rfl hO (fun w => x_movV (v := v126) rfl) ?_
                refine AQ.pure 1 rfl (by kernel_rfl) (by kernel_rfl) (by kernel_rfl) rfl hO (fun w => x_movV (v := .int .i64 n133) rfl) ?_
                obtain ⟨y150, h151, H⟩ := obx H
                have S : Own J124 _ (.fam 4 1 p129 :: .bk b16 77 [.int .u8 y9.Kind, y9v1, y9v2, y9v3, .bool y9.Not, .bool y9.Num] :: .av v126 64 1 a127 :: F) := (S.sel 3 [2, 0, 1] rfl)
                obtain ⟨v152, a153, hl154, hp155, h156, S⟩ := mx_at S h131 h151
                refine AQ.pureE 2 rfl (by kernel_rfl) (by kernel_rfl) (by kernel_rfl) rfl hO (e_iaVD (r := tRaw) tsl67 rfl rfl S 3 rfl h130 rfl hl154) ?_
                rintro _ ⟨b157, cs158, cc159, rfl, hv160, hr161, hc162⟩
                obtain ⟨rfl, _⟩ := hr161
                have hR163 := IMem.le.refl J124
                refine AQ.take (S := Stab J124 [.av v126 64 1 a127]) 3 rfl (by kernel_rfl) (by kernel_rfl) (by kernel_rfl) rfl hO (Stab.of S 3 rfl hR163) (fun w hS => x_ld tsc64 rfl (hS.loadV 0 rfl hv160 (hc162 0 _ rfl))) fun hO => ?_
                refine AQ.pure 4 rfl (by kernel_rfl) (by kernel_rfl) (by kernel_rfl) rfl hO (fun w => x_movV (v := .int .i64 n133) rfl) ?_
                refine AQ.pure 5 rfl (by kernel_rfl) (by kernel_rfl) (by kernel_rfl) rfl hO (fun w => x_bin rfl rfl rfl) ?_
                refine AQ.pure 6 rfl (by kernel_rfl) (by kernel_rfl) (by kernel_rfl) rfl hO (fun w => x_fa tf77_0 rfl) ?_
                refine AQ.take (S := Stab J124 [.bk b16 77 [.int .u8 y9.Kind, y9v1, y9v2, y9v3, .bool y9.Not, .bool y9.Num]]) 7 rfl (by kernel_rfl) (by kernel_rfl) (by kernel_rfl) rfl hO (Stab.of S 2 rfl hR163) (fun w hS => x_ld tsc5 rfl (hS.load 0 rfl 0 rfl)) fun hO => ?_
                refine AQ.pure 8 rfl (by kernel_rfl) (by kernel_rfl) (by kernel_rfl) rfl hO (fun w => x_bin rfl rfl rfl) ?_
                refine AQ.pure 9 rfl (by kernel_rfl) (by kernel_rfl) (by kernel_rfl) rfl hO (fun w => x_movV (v := .bool (y9.Kind == 46)) rfl) ?_
                by_cases cc164 : y9.Kind = 46
                · rw [if_pos cc164] at H
                  refine AQ.skip 10 rfl (by kernel_rfl) (by kernel_rfl) (by kernel_rfl) rfl rfl (eqT cc164) hO ?_
                  refine AQ.skip 11 rfl (by kernel_rfl) (by kernel_rfl) (by kernel_rfl) rfl rfl (eqT cc164) hO ?_
                  refine AQ.skip 12 rfl (by kernel_rfl) (by kernel_rfl) (by kernel_rfl) rfl rfl (eqT cc164) hO ?_
                  refine AQ.skip 13 rfl (by kernel_rfl) (by kernel_rfl) (by kernel_rfl) rfl rfl (eqT cc164) hO ?_
                  refine AQ.skip 14 rfl (by kernel_rfl) (by kernel_rfl) (by kernel_rfl) rfl rfl (eqT cc164) hO ?_
                  refine AQ.skip 15 rfl (by kernel_rfl) (by kernel_rfl) (by kernel_rfl) rfl rfl (eqT cc164) hO ?_
                  refine AQ.skip 16 rfl (by kernel_rfl) (by kernel_rfl) (by kernel_rfl) rfl rfl (eqT cc164) hO ?_
                  refine AQ.pure 17 rfl (by kernel_rfl) (by kernel_rfl) (by kernel_rfl) rfl hO (fun w => x_pickTV (v := .bool true) rfl (eqT cc164) rfl) ?_
                  obtain ⟨y165, h166, H⟩ := obx H
                  refine AQ.pureE 18 rfl (by kernel_rfl) (by kernel_rfl) (by kernel_rfl) rfl hO (e_iaVD (r := tBool) tsl64 rfl rfl S 0 rfl h156 rfl h166) ?_
                  rintro _ ⟨b167, cs168, cc169, rfl, hv170, hr171, hc172⟩
                  obtain rfl := hr171
                  refine AQ.one 19 [7, 3] [false, false] (by kernel_rfl) rfl (by kernel_rfl) ?_
                  refine U rfl rfl (o_stV (r := tBool) (f := 0) (y' := true) tone4 rfl S 0 rfl hv170 h156 h166 rfl hc172 rfl rfl rfl rfl rfl fun w a173 S h174 => ?_)
                  refine andI Hold.nil fun hO => ?_
                  refine AQ.done (by kernel_rfl) ?_
                  obtain ⟨S, h175⟩ := mx_back S hp155 h131 h174
                  refine FW.anew [(2, vx2), (7, .pointer (some ⟨b16, 0, none⟩)), (8, .int .i64 (x2.length : Int)), (9, v126), (12, .int .i64 n133)] ⟨rfl, rfl, rfl, rfl, rfl, trivial⟩ fun σ => ?_
                  refine FW.region ?_
                  refine U rfl rfl (V (x_movV (v := .int .i64 n133) rfl) ?_)
                  refine U rfl rfl (V (x_bin rfl rfl rfl) ?_)
                  refine U rfl rfl (V (x_asgV (v := .int .i64 (i64 (n133 + 1))) rfl) ?_)
                  exact ⟨q134, Nat.le_refl _, (l125.set (n133 : Int).toNat (y150.set (i64 (n133 + 1)).toNat true)), (i64 (n133 + 1)), v126, a127, u128, (p129.set (n133 : Int).toNat (v152, a173)), J124, H, (Nat.le_of_succ_le hq148), ⟨rfl, rfl, rfl, rfl, rfl, trivial⟩, hL135, (S.sel 3 [1, 2, 0] rfl), h130, h175⟩
                · rw [if_neg cc164] at H
                  refine AQ.take (S := Stab J124 [.bk b16 77 [.int .u8 y9.Kind, y9v1, y9v2, y9v3, .bool y9.Not, .bool y9.Num]]) 10 rfl (by kernel_rfl) (by kernel_rfl) (by kernel_rfl) (gT rfl rfl (eqF cc164)) hO (Stab.of S 2 rfl hR163) (fun w hS => x_ldA tag77 rfl (hS.loadW 0 rfl) rfl) fun hO => ?_
                  refine AQ.pure 11 rfl (by kernel_rfl) (by kernel_rfl) (by kernel_rfl) (gT rfl rfl (eqF cc164)) hO (fun w => x_movV (v := vx2) rfl) ?_
                  refine AQ.pure 12 rfl (by kernel_rfl) (by kernel_rfl) (by kernel_rfl) (gT rfl rfl (eqF cc164)) hO (fun w => x_movV (v := .int .i64 n133) rfl) ?_
                  obtain ⟨y176, h177, H⟩ := obx H
                  refine AQ.pureE 13 rfl (by kernel_rfl) (by kernel_rfl) (by kernel_rfl) (gT rfl rfl (eqF cc164)) hO (e_ia (r := (tInt' .u32)) tsl22 rfl rfl hx2 rfl h177) ?_
                  rintro _ ⟨b178, o179, cs180, rfl, hr181, hc182⟩
                  obtain rfl := hr181
                  refine AQ.take (S := Stab J124 []) 14 rfl (by kernel_rfl) (by kernel_rfl) (by kernel_rfl) (gT rfl rfl (eqF cc164)) hO (Stab.nil S hR163) (fun w hS => x_ld tsc38 rfl (hS.cell _ _ _ (hc182 0 _ rfl))) fun hO => ?_
                  refine AQ.pure 15 rfl (by kernel_rfl) (by kernel_rfl) (by kernel_rfl) (gT rfl rfl (eqF cc164)) hO (fun w => x_conv tint3 tint_38 rfl) ?_
                  refine AQ.one 16 [14, 10, 7, 3] [true, false, true, true] (by kernel_rfl) rfl (by kernel_rfl) ?_
                  obtain ⟨y183, hy184, H⟩ := obx H
                  refine OK.gt rfl rfl rfl (eqF cc164) (cl fb37 (@speculumref11_Node_in.ok q134 y9 (i64 y176) _ _ _ _ _ _ _ hG S y9h1 y9h2 y9h3 hy184) rfl ?_)
                  rintro _ w ⟨rfl, S⟩
                  refine andI (Hold.cons (Stab.nil S hR163) (Hold.cons (Stab.of S 2 rfl hR163) (Hold.cons (Stab.of S 3 rfl hR163) Hold.nil))) fun hO => ?_
                  refine AQ.pure 17 rfl (by kernel_rfl) (by kernel_rfl) (by kernel_rfl) rfl hO (fun w => x_pickFV (v := .bool y183) rfl (eqF cc164) rfl) ?_
                  obtain ⟨y185, h186, H⟩ := obx H
                  refine AQ.pureE 18 rfl (by kernel_rfl) (by kernel_rfl) (by kernel_rfl) rfl hO (e_iaVD (r := tBool) tsl64 rfl rfl S 0 rfl h156 rfl h186) ?_
                  rintro _ ⟨b187, cs188, cc189, rfl, hv190, hr191, hc192⟩
                  obtain rfl := hr191
                  refine AQ.one 19 [14, 7, 3] [false, false, false] (by kernel_rfl) rfl (by kernel_rfl) ?_
                  refine U rfl rfl (o_stV (r := tBool) (f := 0) (y' := y183) tone4 rfl S 0 rfl hv190 h156 h186 rfl hc192 rfl rfl rfl rfl rfl fun w a193 S h194 => ?_)
                  refine andI Hold.nil fun hO => ?_
                  refine AQ.done (by kernel_rfl) ?_
                  obtain ⟨S, h195⟩ := mx_back S hp155 h131 h194
                  refine FW.anew [(2, vx2), (7, .pointer (some ⟨b16, 0, none⟩)), (8, .int .i64 (x2.length : Int)), (9, v126), (12, .int .i64 n133)] ⟨rfl, rfl, rfl, rfl, rfl, trivial⟩ fun σ => ?_
                  refine FW.region ?_
                  refine U rfl rfl (V (x_movV (v := .int .i64 n133) rfl) ?_)
                  refine U rfl rfl (V (x_bin rfl rfl rfl) ?_)
                  refine U rfl rfl (V (x_asgV (v := .int .i64 (i64 (n133 + 1))) rfl) ?_)
                  exact ⟨q134, Nat.le_refl _, (l125.set (n133 : Int).toNat (y150.set (i64 (n133 + 1)).toNat y183)), (i64 (n133 + 1)), v126, a127, u128, (p129.set (n133 : Int).toNat (v152, a193)), J124, H, (Nat.le_of_succ_le hq148), ⟨rfl, rfl, rfl, rfl, rfl, trivial⟩, hL135, (S.sel 3 [1, 2, 0] rfl), h130, h195⟩
              · rw [if_neg cc149] at H
                refine FW.condF rfl (deF cc149) ?_
                refine FW.exit ?_
                exact ⟨l125, v126, a127, u128, p129, J124, (Option.some.inj H), ⟨rfl, trivial⟩, hL135, S, h130, h131⟩
          · rintro σ w ⟨l140, v141, a142, u143, p144, J139, ho, hσ, hL135, S, h145, h146⟩
            subst ho
            have H := HO137
            have hc8 := hc8.mono hL135
            have y1h2 := y1h2.mono hL135
            have y9h1 := y9h1.mono hL135
            have y9h2 := y9h2.mono hL135
            have y9h3 := y9h3.mono hL135
            have hI := hI.trans hL135
            have hG := hG.mono hL135
            rw [hσ.eq]
            refine FW.seq ?_
            refine FW.region ?_
            refine U rfl rfl (V (x_movV (v := v141) rfl) ?_)
            refine U rfl rfl (V (x_asgV (v := v141) rfl) ?_)
            refine FW.ret ?_
            obtain rfl := Option.some.inj H
            exact ⟨_, ⟨_, rfl, rfl⟩, ⟨v141, a142, u143, p144, J139, hI, rfl, h145, h146, (S.sel 3 [1, 2] rfl)⟩⟩
        · rw [if_neg cc123] at H
          refine FW.condF rfl (vaF cc123) ?_
          refine FW.seq ?_
          refine FW.region ?_
          refine U rfl rfl (V (x_bin rfl rfl rfl) ?_)
          refine U rfl rfl (V (x_asgV (v := .bool (y9.Kind == 94)) rfl) ?_)
          by_cases cc196 : y9.Kind = 94
          · rw [if_pos cc196] at H
            refine FW.condT rfl (eqT cc196) ?_
            refine FW.region ?_
            refine U rfl rfl (V (x_movV (v := vy17_0) rfl) ?_)
            obtain ⟨y197, h198, H⟩ := obx H
            have S : Own J117 _ (.fam 4 1 py17_0 :: .av vy17_0 64 1 cy17_0 :: .bk b16 77 [.int .u8 y9.Kind, y9v1, y9v2, y9v3, .bool y9.Not, .bool y9.Num] :: F) := (S.sel 3 [1, 0, 2] rfl)
            obtain ⟨v199, a200, hl201, hp202, h203, S⟩ := mx_at S my17_0 h198
            refine U rfl rfl (o_iaV (r := tRaw) tsl67 rfl rfl S 2 rfl hy17_0 rfl hl201 fun b204 cs205 cc206 hv207 hr208 hc209 => ?_)
            obtain ⟨rfl, _⟩ := hr208
            refine U rfl rfl (V (x_ld tsc64 rfl (S.loadV 2 rfl hv207 (hc209 0 _ rfl))) ?_)
            obtain ⟨y210, h211, H⟩ := obx H
            refine U rfl rfl (o_iaV (r := tBool) tsl64 rfl rfl S 0 rfl h203 rfl h211 fun b212 cs213 cc214 hv215 hr216 hc217 => ?_)
            obtain rfl := hr216
            refine U rfl rfl (o_stV (r := tBool) (f := 0) (y' := true) tone4 rfl S 0 rfl hv215 h203 h211 rfl hc217 rfl rfl rfl rfl rfl fun w a218 S h219 => ?_)
            obtain ⟨S, h220⟩ := mx_back S hp202 my17_0 h219
            refine FW.seq ?_
            refine FW.anew [(9, vy17_0)] ⟨rfl, trivial⟩ fun σ => ?_
            refine FW.region ?_
            refine U rfl rfl (V (x_movV (v := vy17_0) rfl) ?_)
            refine U rfl rfl (V (x_asgV (v := vy17_0) rfl) ?_)
            refine FW.ret ?_
            obtain rfl := Option.some.inj H
            exact ⟨_, ⟨_, rfl, rfl⟩, ⟨vy17_0, cy17_0, uy17_0, (py17_0.set (0 : Int).toNat (v199, a218)), J117, hI, rfl, hy17_0, h220, (S.sel 3 [1, 0] rfl)⟩⟩
          · rw [if_neg cc196] at H
            refine FW.condF rfl (eqF cc196) ?_
            refine FW.seq ?_
            refine FW.region ?_
            refine U rfl rfl (V (x_bin rfl rfl rfl) ?_)
            refine U rfl rfl (V (x_asgV (v := .bool (y9.Kind == 36)) rfl) ?_)
            by_cases cc221 : y9.Kind = 36
            · rw [if_pos cc221] at H
              refine FW.condT rfl (eqT cc221) ?_
              refine FW.region ?_
              refine U rfl rfl (V (x_movV (v := vy17_0) rfl) ?_)
              refine U rfl rfl (V (x_movV (v := .int .i64 (x2.length : Int)) rfl) ?_)
              obtain ⟨y222, h223, H⟩ := obx H
              have S : Own J117 _ (.fam 4 1 py17_0 :: .av vy17_0 64 1 cy17_0 :: .bk b16 77 [.int .u8 y9.Kind, y9v1, y9v2, y9v3, .bool y9.Not, .bool y9.Num] :: F) := (S.sel 3 [1, 0, 2] rfl)
              obtain ⟨v224, a225, hl226, hp227, h228, S⟩ := mx_at S my17_0 h223
              refine U rfl rfl (o_iaV (r := tRaw) tsl67 rfl rfl S 2 rfl hy17_0 rfl hl226 fun b229 cs230 cc231 hv232 hr233 hc234 => ?_)
              obtain ⟨rfl, _⟩ := hr233
              refine U rfl rfl (V (x_ld tsc64 rfl (S.loadV 2 rfl hv232 (hc234 0 _ rfl))) ?_)
              refine U rfl rfl (V (x_movV (v := .int .i64 (x2.length : Int)) rfl) ?_)
              obtain ⟨y235, h236, H⟩ := obx H
              refine U rfl rfl (o_iaV (r := tBool) tsl64 rfl rfl S 0 rfl h228 rfl h236 fun b237 cs238 cc239 hv240 hr241 hc242 => ?_)
              obtain rfl := hr241
              refine U rfl rfl (o_stV (r := tBool) (f := 0) (y' := true) tone4 rfl S 0 rfl hv240 h228 h236 rfl hc242 rfl rfl rfl rfl rfl fun w a243 S h244 => ?_)
              obtain ⟨S, h245⟩ := mx_back S hp227 my17_0 h244
              refine FW.seq ?_
              refine FW.anew [(9, vy17_0)] ⟨rfl, trivial⟩ fun σ => ?_
              refine FW.region ?_
              refine U rfl rfl (V (x_movV (v := vy17_0) rfl) ?_)
              refine U rfl rfl (V (x_asgV (v := vy17_0) rfl) ?_)
              refine FW.ret ?_
              obtain rfl := Option.some.inj H
              exact ⟨_, ⟨_, rfl, rfl⟩, ⟨vy17_0, cy17_0, uy17_0, (py17_0.set ((x2.length : Int) : Int).toNat (v224, a243)), J117, hI, rfl, hy17_0, h245, (S.sel 3 [1, 0] rfl)⟩⟩
            · rw [if_neg cc221] at H
              refine FW.condF rfl (eqF cc221) ?_
              refine FW.seq ?_
              refine FW.region ?_
              refine U rfl rfl (V (x_bin rfl rfl rfl) ?_)
              refine U rfl rfl (V (x_asgV (v := .bool (y9.Kind == 63)) rfl) ?_)
              by_cases cc246 : y9.Kind = 63
              · rw [if_pos cc246] at H
                refine FW.condT rfl (eqT cc246) ?_
                have S := S.drew
                refine FW.regionD mixed ?_
                have hO := Hold.nil (w := { w with drawn := w.drawn + 1 })
                refine AQ.pure 0 rfl (by kernel_rfl) (by kernel_rfl) (by kernel_rfl) rfl hO (fun w => x_movV (v := .int .i64 (x2.length : Int)) rfl) ?_
                refine AQ.pure 2 rfl (by kernel_rfl) (by kernel_rfl) (by kernel_rfl) rfl hO (fun w => x_movV (v := vx0) rfl) ?_
                refine AQ.pure 3 rfl (by kernel_rfl) (by kernel_rfl) (by kernel_rfl) rfl hO (fun w => x_fa tf77_1 rfl) ?_
                have hR247 := IMem.le.refl J117
                refine AQ.take (S := Stab J117 [.bk b16 77 [.int .u8 y9.Kind, y9v1, y9v2, y9v3, .bool y9.Not, .bool y9.Num]]) 4 rfl (by kernel_rfl) (by kernel_rfl) (by kernel_rfl) rfl hO (Stab.of S 2 rfl hR247) (fun w hS => x_ld tsc75 rfl (hS.load 0 rfl 1 rfl)) fun hO => ?_
                obtain ⟨y248, h249, H⟩ := obx H
                refine AQ.pureE 5 rfl (by kernel_rfl) (by kernel_rfl) (by kernel_rfl) rfl hO (e_ia (r := (tInt' .i64)) tsl75 rfl rfl y9h1 rfl h249) ?_
                rintro _ ⟨b250, o251, cs252, rfl, hr253, hc254⟩
                obtain rfl := hr253
                refine AQ.take (S := Stab J117 []) 6 rfl (by kernel_rfl) (by kernel_rfl) (by kernel_rfl) rfl hO (Stab.nil S hR247) (fun w hS => x_ld tsc3 rfl (hS.cell _ _ _ (hc254 0 _ rfl))) fun hO => ?_
                refine AQ.pure 7 rfl (by kernel_rfl) (by kernel_rfl) (by kernel_rfl) rfl hO (fun w => x_movV (v := vx2) rfl) ?_
                refine AQ.one 1 [6, 4] [true, true] (by kernel_rfl) rfl (by kernel_rfl) ?_
                obtain ⟨y255, hy256, H⟩ := obx H
                refine U rfl rfl (cl fb34 (@speculumref11_still.ok k (x2.length : Int) true _ _ _ _ hG S hy256) rfl ?_)
                rintro vy255_0 w ⟨vy255_0q, cy255_0, uy255_0, py255_0, J257, hJ258, rfl, hy255_0, my255_0, S⟩
                have hx0 := hx0.mono hJ258
                have hx2 := hx2.mono hJ258
                have y9h1 := y9h1.mono hJ258
                have hc254 := hc254.mono hJ258
                have hc8 := hc8.mono hJ258
                have y1h2 := y1h2.mono hJ258
                have hy17_0 := hy17_0.mono hJ258
                have my17_0 := my17_0.mono hJ258
                have y9h2 := y9h2.mono hJ258
                have y9h3 := y9h3.mono hJ258
                have hI := hI.trans hJ258
                have hR247 := hR247.trans hJ258
                have hG := hG.mono hJ258
                refine andI (Hold.cons (Stab.nil S hR247) (Hold.cons (Stab.of S 4 rfl hR247) Hold.nil)) fun hO => ?_
                refine AQ.one 8 [6, 4] [false, true] (by kernel_rfl) rfl (by kernel_rfl) ?_
                obtain ⟨y259, hy260, H⟩ := obx H
                refine U rfl rfl (cl fb24 (@ih_speculumref11_P_ends k (by omega) x0 y248 x2 _ _ _ _ _ _ hG S hx0 hx2 hy260) rfl ?_)
                rintro vy259_0 w ⟨vy259_0q, cy259_0, uy259_0, py259_0, J261, hJ262, rfl, hy259_0, my259_0, S⟩
                have hx0 := hx0.mono hJ262
                have hx2 := hx2.mono hJ262
                have y9h1 := y9h1.mono hJ262
                have hc254 := hc254.mono hJ262
                have hc8 := hc8.mono hJ262
                have y1h2 := y1h2.mono hJ262
                have hy255_0 := hy255_0.mono hJ262
                have my255_0 := my255_0.mono hJ262
                have hy17_0 := hy17_0.mono hJ262
                have my17_0 := my17_0.mono hJ262
                have y9h2 := y9h2.mono hJ262
                have y9h3 := y9h3.mono hJ262
                have hI := hI.trans hJ262
                have hR247 := hR247.trans hJ262
                have hG := hG.mono hJ262
                refine andI (Hold.cons (Stab.of S 6 rfl hR247) Hold.nil) fun hO => ?_
                refine AQ.one 9 [4] [true] (by kernel_rfl) rfl (by kernel_rfl) ?_
                have S : Own J261 _ (.av vy255_0 64 1 cy255_0 :: .fam 4 1 py255_0 :: .av vy259_0 64 1 cy259_0 :: .fam 4 1 py259_0 :: .av vy17_0 64 1 cy17_0 :: .fam 4 1 py17_0 :: .bk b16 77 [.int .u8 y9.Kind, y9v1, y9v2, y9v3, .bool y9.Not, .bool y9.Num] :: F) := (S.sel 7 [2, 3, 0, 1, 4, 5, 6] rfl)
                obtain ⟨J263, hJ265, S, h264⟩ := S.freezeM (r := tBool) hy255_0 my255_0 rfl rfl
                have hx0 := hx0.mono hJ265
                have hx2 := hx2.mono hJ265
                have y9h1 := y9h1.mono hJ265
                have hc254 := hc254.mono hJ265
                have hc8 := hc8.mono hJ265
                have y1h2 := y1h2.mono hJ265
                have hy259_0 := hy259_0.mono hJ265
                have my259_0 := my259_0.mono hJ265
                have hy17_0 := hy17_0.mono hJ265
                have my17_0 := my17_0.mono hJ265
                have y9h2 := y9h2.mono hJ265
                have y9h3 := y9h3.mono hJ265
                have hI := hI.trans hJ265
                have hR247 := hR247.trans hJ265
                have hG := hG.mono hJ265
                have S : Own J263 _ (.av vy259_0 64 1 cy259_0 :: .fam 4 1 py259_0 :: .tv vy255_0 64 1 :: .av vy17_0 64 1 cy17_0 :: .fam 4 1 py17_0 :: .bk b16 77 [.int .u8 y9.Kind, y9v1, y9v2, y9v3, .bool y9.Not, .bool y9.Num] :: F) := (S.sel 6 [1, 2, 0, 3, 4, 5] rfl)
                obtain ⟨J266, hJ268, S, h267⟩ := S.freezeM (r := tBool) hy259_0 my259_0 rfl rfl
                have hx0 := hx0.mono hJ268
                have hx2 := hx2.mono hJ268
                have y9h1 := y9h1.mono hJ268
                have hc254 := hc254.mono hJ268
                have h264 := h264.mono hJ268
                have hc8 := hc8.mono hJ268
                have y1h2 := y1h2.mono hJ268
                have hy17_0 := hy17_0.mono hJ268
                have my17_0 := my17_0.mono hJ268
                have y9h2 := y9h2.mono hJ268
                have y9h3 := y9h3.mono hJ268
                have hI := hI.trans hJ268
                have hR247 := hR247.trans hJ268
                have hG := hG.mono hJ268
                obtain ⟨y269, hy270, H⟩ := obx H
                refine U rfl rfl (cl fb36 (@speculumref11_either.ok k y255 y259 _ _ _ _ _ _ hG S h264 h267 hy270) rfl ?_)
                rintro vy269_0 w ⟨vy269_0q, cy269_0, uy269_0, py269_0, J271, hJ272, rfl, hy269_0, my269_0, S⟩
                have hx0 := hx0.mono hJ272
                have hx2 := hx2.mono hJ272
                have y9h1 := y9h1.mono hJ272
                have hc254 := hc254.mono hJ272
                have h264 := h264.mono hJ272
                have h267 := h267.mono hJ272
                have hc8 := hc8.mono hJ272
                have y1h2 := y1h2.mono hJ272
                have hy17_0 := hy17_0.mono hJ272
                have my17_0 := my17_0.mono hJ272
                have y9h2 := y9h2.mono hJ272
                have y9h3 := y9h3.mono hJ272
                have hI := hI.trans hJ272
                have hR247 := hR247.trans hJ272
                have hG := hG.mono hJ272
                refine andI (Hold.cons (Stab.of S 6 rfl hR247) Hold.nil) fun hO => ?_
                refine AQ.pure 10 rfl (by kernel_rfl) (by kernel_rfl) (by kernel_rfl) rfl hO (fun w => x_asgV (v := vy269_0) rfl) ?_
                refine AQ.done (by kernel_rfl) ?_
                refine FW.seq ?_
                refine FW.anew [(9, vy269_0)] ⟨rfl, trivial⟩ fun σ => ?_
                refine FW.region ?_
                refine U rfl rfl (V (x_movV (v := vy269_0) rfl) ?_)
                refine U rfl rfl (V (x_asgV (v := vy269_0) rfl) ?_)
                refine FW.ret ?_
                obtain rfl := Option.some.inj H
                exact ⟨_, ⟨_, rfl, rfl⟩, ⟨vy269_0, cy269_0, uy269_0, py269_0, J271, hI, rfl, hy269_0, my269_0, (S.sel 7 [0, 1] rfl)⟩⟩
              · rw [if_neg cc246] at H
                refine FW.condF rfl (eqF cc246) ?_
                refine FW.seq ?_
                refine FW.region ?_
                refine U rfl rfl (V (x_bin rfl rfl rfl) ?_)
                refine U rfl rfl (V (x_asgV (v := .bool (y9.Kind == 42)) rfl) ?_)
                by_cases cc273 : y9.Kind = 42
                · rw [if_pos cc273] at H
                  refine FW.condT rfl (eqT cc273) ?_
                  refine FW.anew [(0, vx0), (2, vx2), (7, .pointer (some ⟨b16, 0, none⟩))] ⟨rfl, rfl, rfl, trivial⟩ fun σ => ?_
                  refine FW.region ?_
                  refine U rfl rfl (V (x_movV (v := vx0) rfl) ?_)
                  refine U rfl rfl (V (x_fa tf77_1 rfl) ?_)
                  refine U rfl rfl (V (x_ld tsc75 rfl (S.load 2 rfl 1 rfl)) ?_)
                  obtain ⟨y274, h275, H⟩ := obx H
                  refine U rfl rfl (o_ia (r := (tInt' .i64)) tsl75 rfl rfl y9h1 rfl h275 fun b276 o277 cs278 hr279 hc280 => ?_)
                  obtain rfl := hr279
                  refine U rfl rfl (V (x_ld tsc3 rfl (S.cell _ _ _ (hc280 0 _ rfl))) ?_)
                  refine U rfl rfl (V (x_movV (v := vx2) rfl) ?_)
                  obtain ⟨y281, hy282, H⟩ := obx H
                  refine U rfl rfl (cl fb24 (@ih_speculumref11_P_ends k (by omega) x0 y274 x2 _ _ _ _ _ _ hG S hx0 hx2 hy282) rfl ?_)
                  rintro vy281_0 w ⟨vy281_0q, cy281_0, uy281_0, py281_0, J283, hJ284, rfl, hy281_0, my281_0, S⟩
                  have hx0 := hx0.mono hJ284
                  have hx2 := hx2.mono hJ284
                  have y9h1 := y9h1.mono hJ284
                  have hc280 := hc280.mono hJ284
                  have hc8 := hc8.mono hJ284
                  have y1h2 := y1h2.mono hJ284
                  have hy17_0 := hy17_0.mono hJ284
                  have my17_0 := my17_0.mono hJ284
                  have y9h2 := y9h2.mono hJ284
                  have y9h3 := y9h3.mono hJ284
                  have hI := hI.trans hJ284
                  have hG := hG.mono hJ284
                  obtain ⟨J285, hJ287, S, h286⟩ := S.freezeM (r := tBool) hy281_0 my281_0 rfl rfl
                  have hx0 := hx0.mono hJ287
                  have hx2 := hx2.mono hJ287
                  have y9h1 := y9h1.mono hJ287
                  have hc280 := hc280.mono hJ287
                  have hc8 := hc8.mono hJ287
                  have y1h2 := y1h2.mono hJ287
                  have hy17_0 := hy17_0.mono hJ287
                  have my17_0 := my17_0.mono hJ287
                  have y9h2 := y9h2.mono hJ287
                  have y9h3 := y9h3.mono hJ287
                  have hI := hI.trans hJ287
                  have hG := hG.mono hJ287
                  obtain ⟨y288, hy289, H⟩ := obx H
                  refine U rfl rfl (cl fb38 (@speculumref11_often.ok k y281 _ _ _ _ _ hG S h286 hy289) rfl ?_)
                  rintro vy288_0 w ⟨vy288_0q, cy288_0, uy288_0, py288_0, J290, hJ291, rfl, hy288_0, my288_0, S⟩
                  have hx0 := hx0.mono hJ291
                  have hx2 := hx2.mono hJ291
                  have y9h1 := y9h1.mono hJ291
                  have hc280 := hc280.mono hJ291
                  have h286 := h286.mono hJ291
                  have hc8 := hc8.mono hJ291
                  have y1h2 := y1h2.mono hJ291
                  have hy17_0 := hy17_0.mono hJ291
                  have my17_0 := my17_0.mono hJ291
                  have y9h2 := y9h2.mono hJ291
                  have y9h3 := y9h3.mono hJ291
                  have hI := hI.trans hJ291
                  have hG := hG.mono hJ291
                  refine U rfl rfl (V (x_asgV (v := vy288_0) rfl) ?_)
                  refine FW.seq ?_
                  refine FW.anew [(9, vy288_0)] ⟨rfl, trivial⟩ fun σ => ?_
                  refine FW.region ?_
                  refine U rfl rfl (V (x_movV (v := vy288_0) rfl) ?_)
                  refine U rfl rfl (V (x_asgV (v := vy288_0) rfl) ?_)
                  refine FW.ret ?_
                  obtain rfl := Option.some.inj H
                  exact ⟨_, ⟨_, rfl, rfl⟩, ⟨vy288_0, cy288_0, uy288_0, py288_0, J290, hI, rfl, hy288_0, my288_0, (S.sel 6 [0, 1] rfl)⟩⟩
                · rw [if_neg cc273] at H
                  refine FW.condF rfl (eqF cc273) ?_
                  refine FW.seq ?_
                  refine FW.anew [(0, vx0), (2, vx2), (7, .pointer (some ⟨b16, 0, none⟩)), (9, vy17_0), (29, .int .u8 y9.Kind)] ⟨rfl, rfl, rfl, rfl, rfl, trivial⟩ fun σ => ?_
                  refine FW.region ?_
                  refine U rfl rfl (V (x_bin rfl rfl rfl) ?_)
                  refine U rfl rfl (V (x_asgV (v := .bool (y9.Kind == 43)) rfl) ?_)
                  by_cases cc292 : y9.Kind = 43
                  · rw [if_pos cc292] at H
                    refine FW.condT rfl (eqT cc292) ?_
                    refine FW.seq ?_
                    refine FW.region ?_
                    refine U rfl rfl (V (x_movV (v := vx0) rfl) ?_)
                    refine U rfl rfl (V (x_fa tf77_1 rfl) ?_)
                    refine U rfl rfl (V (x_ld tsc75 rfl (S.load 2 rfl 1 rfl)) ?_)
                    obtain ⟨y293, h294, H⟩ := obx H
                    refine U rfl rfl (o_ia (r := (tInt' .i64)) tsl75 rfl rfl y9h1 rfl h294 fun b295 o296 cs297 hr298 hc299 => ?_)
                    obtain rfl := hr298
                    refine U rfl rfl (V (x_ld tsc3 rfl (S.cell _ _ _ (hc299 0 _ rfl))) ?_)
                    refine U rfl rfl (V (x_movV (v := vx2) rfl) ?_)
                    obtain ⟨y300, hy301, H⟩ := obx H
                    refine U rfl rfl (cl fb24 (@ih_speculumref11_P_ends k (by omega) x0 y293 x2 _ _ _ _ _ _ hG S hx0 hx2 hy301) rfl ?_)
                    rintro vy300_0 w ⟨vy300_0q, cy300_0, uy300_0, py300_0, J302, hJ303, rfl, hy300_0, my300_0, S⟩
                    have hx0 := hx0.mono hJ303
                    have hx2 := hx2.mono hJ303
                    have y9h1 := y9h1.mono hJ303
                    have hc299 := hc299.mono hJ303
                    have hc8 := hc8.mono hJ303
                    have y1h2 := y1h2.mono hJ303
                    have hy17_0 := hy17_0.mono hJ303
                    have my17_0 := my17_0.mono hJ303
                    have y9h2 := y9h2.mono hJ303
                    have y9h3 := y9h3.mono hJ303
                    have hI := hI.trans hJ303
                    have hG := hG.mono hJ303
                    refine U rfl rfl (V (x_asgV (v := vy300_0) rfl) ?_)
                    refine FW.anew [(13, vy300_0)] ⟨rfl, trivial⟩ fun σ => ?_
                    refine FW.region ?_
                    refine U rfl rfl (V (x_movV (v := vy300_0) rfl) ?_)
                    refine U rfl rfl (V (x_movV (v := vy300_0) rfl) ?_)
                    obtain ⟨J304, hJ306, S, h305⟩ := S.freezeM (r := tBool) hy300_0 my300_0 rfl rfl
                    have hc8 := hc8.mono hJ306
                    have y1h2 := y1h2.mono hJ306
                    have hy17_0 := hy17_0.mono hJ306
                    have my17_0 := my17_0.mono hJ306
                    have y9h1 := y9h1.mono hJ306
                    have y9h2 := y9h2.mono hJ306
                    have y9h3 := y9h3.mono hJ306
                    have hI := hI.trans hJ306
                    have hG := hG.mono hJ306
                    obtain ⟨y307, hy308, H⟩ := obx H
                    refine U rfl rfl (cl fb38 (@speculumref11_often.ok k y300 _ _ _ _ _ hG S h305 hy308) rfl ?_)
                    rintro vy307_0 w ⟨vy307_0q, cy307_0, uy307_0, py307_0, J309, hJ310, rfl, hy307_0, my307_0, S⟩
                    have h305 := h305.mono hJ310
                    have hc8 := hc8.mono hJ310
                    have y1h2 := y1h2.mono hJ310
                    have hy17_0 := hy17_0.mono hJ310
                    have my17_0 := my17_0.mono hJ310
                    have y9h1 := y9h1.mono hJ310
                    have y9h2 := y9h2.mono hJ310
                    have y9h3 := y9h3.mono hJ310
                    have hI := hI.trans hJ310
                    have hG := hG.mono hJ310
                    obtain ⟨J311, hJ313, S, h312⟩ := S.freezeM (r := tBool) hy307_0 my307_0 rfl rfl
                    have h305 := h305.mono hJ313
                    have hc8 := hc8.mono hJ313
                    have y1h2 := y1h2.mono hJ313
                    have hy17_0 := hy17_0.mono hJ313
                    have my17_0 := my17_0.mono hJ313
                    have y9h1 := y9h1.mono hJ313
                    have y9h2 := y9h2.mono hJ313
                    have y9h3 := y9h3.mono hJ313
                    have hI := hI.trans hJ313
                    have hG := hG.mono hJ313
                    obtain ⟨y314, hy315, H⟩ := obx H
                    refine U rfl rfl (cl fb35 (@speculumref11_then.ok k y300 y307 _ _ _ _ _ _ hG S h305 h312 hy315) rfl ?_)
                    rintro vy314_0 w ⟨vy314_0q, cy314_0, uy314_0, py314_0, J316, hJ317, rfl, hy314_0, my314_0, S⟩
                    have h305 := h305.mono hJ317
                    have h312 := h312.mono hJ317
                    have hc8 := hc8.mono hJ317
                    have y1h2 := y1h2.mono hJ317
                    have hy17_0 := hy17_0.mono hJ317
                    have my17_0 := my17_0.mono hJ317
                    have y9h1 := y9h1.mono hJ317
                    have y9h2 := y9h2.mono hJ317
                    have y9h3 := y9h3.mono hJ317
                    have hI := hI.trans hJ317
                    have hG := hG.mono hJ317
                    refine U rfl rfl (V (x_asgV (v := vy314_0) rfl) ?_)
                    refine FW.seq ?_
                    refine FW.region ?_
                    refine U rfl rfl (V (x_movV (v := vy314_0) rfl) ?_)
                    refine U rfl rfl (V (x_asgV (v := vy314_0) rfl) ?_)
                    refine FW.ret ?_
                    obtain rfl := Option.some.inj H
                    exact ⟨_, ⟨_, rfl, rfl⟩, ⟨vy314_0, cy314_0, uy314_0, py314_0, J316, hI, rfl, hy314_0, my314_0, (S.sel 7 [0, 1] rfl)⟩⟩
                  · rw [if_neg cc292] at H
                    refine FW.condF rfl (eqF cc292) ?_
                    refine FW.skip ?_
                    refine FW.seq ?_
                    refine FW.region ?_
                    refine U rfl rfl (V (x_movV (v := vy17_0) rfl) ?_)
                    refine U rfl rfl (V (x_asgV (v := vy17_0) rfl) ?_)
                    refine FW.ret ?_
                    obtain rfl := Option.some.inj H
                    exact ⟨_, ⟨_, rfl, rfl⟩, ⟨vy17_0, cy17_0, uy17_0, py17_0, J117, hI, rfl, hy17_0, my17_0, (S.sel 3 [0, 1] rfl)⟩⟩
theorem speculumref11_P_ends.zero : speculumref11_P_ends.C 0 := by
  intro _ _ _ _ _ _ _ _ _ _ _ _ _ H; cases H
theorem speculumref11_P_ends.grp : ∀ k m, m ≤ k → speculumref11_P_ends.C m
  | 0, m, h => by
    obtain rfl : m = 0 := by omega
    exact speculumref11_P_ends.zero
  | k + 1, 0, _ => speculumref11_P_ends.zero
  | k + 1, m + 1, h => speculumref11_P_ends.step m (fun i hi => (speculumref11_P_ends.grp k i (by omega)))
theorem speculumref11_P_ends.ok (k : Nat) : speculumref11_P_ends.C k := (speculumref11_P_ends.grp k k (Nat.le_refl k))
def speculumref11_P_Match.l1 : Nat → (List (List Bool)) → Int → Int → Option (Sum Bool Unit)
  | 0, _, _, _ => none
  | k + 1, y1, n6, n16 => (if n16 < (y1.length : Int) then ((lat y1 n6).bind fun y25 => ((lat y25 n16).bind fun y38 => (if y38 = true then (some (.inl true)) else (speculumref11_P_Match.l1 k y1 n6 (i64 (n16 + 1)))))) else (some (.inr ())))
def speculumref11_P_Match.l0 : Nat → (List (List Bool)) → Int → Option (Sum Bool Unit)
  | 0, _, _ => none
  | k + 1, y1, n6 => (if n6 < (y1.length : Int) then (((speculumref11_P_Match.l1 k y1 n6 0) : Option (Sum Bool Unit)).bind fun o => match o with | .inl r => some (.inl r) | .inr _ => (speculumref11_P_Match.l0 k y1 (i64 (n6 + 1)))) else (some (.inr ())))
def speculumref11_P_Match.f (k : Nat) (x0 : (Option T_speculumref11_P)) (x1 : Int) (x2 : (List Int)) : Option Bool := ((speculumref11_P_ends.f k x0 x1 x2).bind fun y1 => (((speculumref11_P_Match.l0 k y1 0) : Option (Sum Bool Unit)).bind fun o => match o with | .inl r => some r | .inr _ => (some false)))
abbrev speculumref11_P_Match.C (k : Nat) : Prop := ∀ {x0 : (Option T_speculumref11_P)} {x1 : Int} {x2 : (List Int)} {vx0 : Value} {vx2 : Value} {F : List It} {I : IMem} {w : World} {r : Bool}, Glob I → Own I w (F) → PtR R_speculumref11_P I vx0 x0 → SlR (tInt' .u32) I vx2 x2 → speculumref11_P_Match.f k x0 x1 x2 = some r →
    Calls Tryd.prog 11 #[vx0, .int .i64 x1, vx2] w fun e w' => ∃ v, e = .returned v ∧ v = .bool r ∧ Own I w' (F)
theorem speculumref11_P_Match.ok (k : Nat) : speculumref11_P_Match.C k := by
  intro x0 x1 x2 vx0 vx2 F I w r hG S hx0 hx2 H
  have hI := IMem.le.refl I
  rw [speculumref11_P_Match.f] at H
  refine Calls.ofFW (args := [vx0, .int .i64 x1, vx2]) Tryd.func11 rfl rfl ?_
  refine FW.seq ?_
  refine FW.region ?_
  refine U rfl rfl (V (x_asgV (v := .bool false) rfl) ?_)
  refine FW.seq ?_
  refine FW.region ?_
  refine U rfl rfl (V (x_movV (v := vx0) rfl) ?_)
  refine U rfl rfl (V (x_movV (v := .int .i64 x1) rfl) ?_)
  refine U rfl rfl (V (x_movV (v := vx2) rfl) ?_)
  obtain ⟨y1, hy2, H⟩ := obx H
  refine U rfl rfl (cl fb24 (@speculumref11_P_ends.ok k x0 x1 x2 _ _ _ _ _ _ hG S hx0 hx2 hy2) rfl ?_)
  rintro vy1_0 w ⟨vy1_0q, cy1_0, uy1_0, py1_0, J3, hJ4, rfl, hy1_0, my1_0, S⟩
  have hx0 := hx0.mono hJ4
  have hx2 := hx2.mono hJ4
  have hI := hI.trans hJ4
  have hG := hG.mono hJ4
  refine U rfl rfl (V (x_asgV (v := vy1_0) rfl) ?_)
  refine FW.seq ?_
  refine FW.seq ?_
  refine FW.region ?_
  refine U rfl rfl (V (x_asgV (v := .int .i64 0) rfl) ?_)
  refine FW.block ?_
  obtain ⟨o9, hl11, HO10⟩ := obx H
  refine FW.cutX 0 (fun σ w => ∃ (J12 : IMem), (.inr ()) = o9 ∧ Has σ [] ∧ J3.le J12 ∧ Own J12 w (F)) ?_ ?_
  ·
    refine FW.loop k (FL.ind (fun q σ w => ∃ (n6 : Int) (J5 : IMem), speculumref11_P_Match.l0 q y1 n6 = some o9 ∧ q ≤ k ∧ Has σ [(7, vy1_0), (8, .int .i64 n6)] ∧ J3.le J5 ∧ Own J5 w (.av vy1_0 64 1 cy1_0 :: .fam 4 1 py1_0 :: F)) ?_ ?_ k k _ _ (Nat.le_refl _) ⟨0, J3, hl11, Nat.le_refl _, ⟨rfl, rfl, trivial⟩, (IMem.le.refl _), S⟩)
    · rintro σ w ⟨n6, J5, H, _⟩; cases H
    · rintro q7 σ w ⟨n6, J5, H, hq13, hσ, hL8, S⟩
      have hy1_0 := hy1_0.mono hL8
      have my1_0 := my1_0.mono hL8
      have hI := hI.trans hL8
      have hG := hG.mono hL8
      rw [hσ.eq]
      rw [speculumref11_P_Match.l0] at H
      refine FW.seq ?_
      refine FW.seq ?_
      refine FW.region ?_
      refine U rfl rfl (V (x_movV (v := .int .i64 n6) rfl) ?_)
      refine U rfl rfl (V (x_movV (v := vy1_0) rfl) ?_)
      refine U rfl rfl (V (x_lenM tsl67 S 0 rfl hy1_0 my1_0) ?_)
      refine U rfl rfl (V (x_bin rfl rfl rfl) ?_)
      by_cases cc14 : n6 < (y1.length : Int)
      · rw [if_pos cc14] at H
        refine FW.condT rfl (deT cc14) ?_
        refine FW.skip ?_
        refine FW.seq ?_
        refine FW.block ?_
        refine FW.seq ?_
        refine FW.region ?_
        refine U rfl rfl (V (x_asgV (v := .int .i64 0) rfl) ?_)
        refine FW.block ?_
        obtain ⟨o19, hl21, HO20⟩ := obx H
        refine FW.cutX 2 (fun σ w => ∃ (J22 : IMem), (.inr ()) = o19 ∧ Has σ [(7, vy1_0), (8, .int .i64 n6)] ∧ J5.le J22 ∧ Own J22 w (.av vy1_0 64 1 cy1_0 :: .fam 4 1 py1_0 :: F)) ?_ ?_
        ·
          refine FW.loop q7 (FL.ind (fun q σ w => ∃ (n16 : Int) (J15 : IMem), speculumref11_P_Match.l1 q y1 n6 n16 = some o19 ∧ q ≤ q7 ∧ Has σ [(7, vy1_0), (8, .int .i64 n6), (9, .int .i64 n16)] ∧ J5.le J15 ∧ Own J15 w (.av vy1_0 64 1 cy1_0 :: .fam 4 1 py1_0 :: F)) ?_ ?_ q7 q7 _ _ (Nat.le_refl _) ⟨0, J5, hl21, Nat.le_refl _, ⟨rfl, rfl, rfl, trivial⟩, (IMem.le.refl _), S⟩)
          · rintro σ w ⟨n16, J15, H, _⟩; cases H
          · rintro q17 σ w ⟨n16, J15, H, hq23, hσ, hL18, S⟩
            have hy1_0 := hy1_0.mono hL18
            have my1_0 := my1_0.mono hL18
            have hI := hI.trans hL18
            have hL8 := hL8.trans hL18
            have hG := hG.mono hL18
            rw [hσ.eq]
            rw [speculumref11_P_Match.l1] at H
            refine FW.seq ?_
            refine FW.seq ?_
            refine FW.region ?_
            refine U rfl rfl (V (x_movV (v := .int .i64 n16) rfl) ?_)
            refine U rfl rfl (V (x_movV (v := vy1_0) rfl) ?_)
            refine U rfl rfl (V (x_lenM tsl67 S 0 rfl hy1_0 my1_0) ?_)
            refine U rfl rfl (V (x_bin rfl rfl rfl) ?_)
            by_cases cc24 : n16 < (y1.length : Int)
            · rw [if_pos cc24] at H
              refine FW.condT rfl (deT cc24) ?_
              refine FW.skip ?_
              refine FW.seq ?_
              refine FW.block ?_
              refine FW.seq ?_
              refine FW.region ?_
              refine U rfl rfl (V (x_movV (v := vy1_0) rfl) ?_)
              refine U rfl rfl (V (x_movV (v := .int .i64 n6) rfl) ?_)
              obtain ⟨y25, h26, H⟩ := obx H
              have S : Own J15 _ (.fam 4 1 py1_0 :: .av vy1_0 64 1 cy1_0 :: F) := (S.sel 2 [1, 0] rfl)
              obtain ⟨v27, a28, hl29, hp30, h31, S⟩ := mx_at S my1_0 h26
              refine U rfl rfl (o_iaV (r := tRaw) tsl67 rfl rfl S 2 rfl hy1_0 rfl hl29 fun b32 cs33 cc34 hv35 hr36 hc37 => ?_)
              obtain ⟨rfl, _⟩ := hr36
              refine U rfl rfl (V (x_ld tsc64 rfl (S.loadV 2 rfl hv35 (hc37 0 _ rfl))) ?_)
              refine U rfl rfl (V (x_movV (v := .int .i64 n16) rfl) ?_)
              obtain ⟨y38, h39, H⟩ := obx H
              refine U rfl rfl (o_iaV (r := tBool) tsl64 rfl rfl S 0 rfl h31 rfl h39 fun b40 cs41 cc42 hv43 hr44 hc45 => ?_)
              obtain rfl := hr44
              refine U rfl rfl (V (x_ld tsc4 rfl (S.loadV 0 rfl hv43 (hc45 0 _ rfl))) ?_)
              have S := mx_back0 S hp30
              by_cases cc46 : y38 = true
              · rw [if_pos cc46] at H
                refine FW.condT rfl cc46 ?_
                refine FW.seq ?_
                refine FW.anew [] trivial fun σ => ?_
                refine FW.region ?_
                refine U rfl rfl (V (x_asgV (v := .bool true) rfl) ?_)
                refine FW.ret ?_
                obtain rfl := Option.some.inj H
                obtain rfl := Option.some.inj HO20
                obtain rfl := Option.some.inj HO10
                exact ⟨_, ⟨_, rfl, rfl⟩, ⟨rfl, ((S.sel 2 [] rfl).weaken hI)⟩⟩
              · rw [if_neg cc46] at H
                refine FW.condF rfl (vaF cc46) ?_
                refine FW.skip ?_
                refine FW.anew [(7, vy1_0), (8, .int .i64 n6), (9, .int .i64 n16)] ⟨rfl, rfl, rfl, trivial⟩ fun σ => ?_
                refine FW.region ?_
                refine U rfl rfl (V (x_movV (v := .int .i64 n16) rfl) ?_)
                refine U rfl rfl (V (x_bin rfl rfl rfl) ?_)
                refine U rfl rfl (V (x_asgV (v := .int .i64 (i64 (n16 + 1))) rfl) ?_)
                exact ⟨q17, Nat.le_refl _, (i64 (n16 + 1)), J15, H, (Nat.le_of_succ_le hq23), ⟨rfl, rfl, rfl, trivial⟩, hL18, (S.sel 2 [1, 0] rfl)⟩
            · rw [if_neg cc24] at H
              refine FW.condF rfl (deF cc24) ?_
              refine FW.exit ?_
              exact ⟨J15, (Option.some.inj H), ⟨rfl, rfl, trivial⟩, hL18, S⟩
        · rintro σ w ⟨J22, ho, hσ, hL18, S⟩
          subst ho
          have H := HO20
          try dsimp only at H
          have hy1_0 := hy1_0.mono hL18
          have my1_0 := my1_0.mono hL18
          have hI := hI.trans hL18
          have hL8 := hL8.trans hL18
          have hG := hG.mono hL18
          rw [hσ.eq]
          refine FW.region ?_
          refine U rfl rfl (V (x_movV (v := .int .i64 n6) rfl) ?_)
          refine U rfl rfl (V (x_bin rfl rfl rfl) ?_)
          refine U rfl rfl (V (x_asgV (v := .int .i64 (i64 (n6 + 1))) rfl) ?_)
          exact ⟨q7, Nat.le_refl _, (i64 (n6 + 1)), J22, H, (Nat.le_of_succ_le hq13), ⟨rfl, rfl, trivial⟩, hL8, S⟩
      · rw [if_neg cc14] at H
        refine FW.condF rfl (deF cc14) ?_
        refine FW.exit ?_
        exact ⟨J5, (Option.some.inj H), trivial, hL8, (S.sel 2 [] rfl)⟩
  · rintro σ w ⟨J12, ho, hσ, hL8, S⟩
    subst ho
    have H := HO10
    try dsimp only at H
    have hI := hI.trans hL8
    have hG := hG.mono hL8
    rw [hσ.eq]
    refine FW.seq ?_
    refine FW.region ?_
    refine U rfl rfl (V (x_asgV (v := .bool false) rfl) ?_)
    refine FW.ret ?_
    obtain rfl := Option.some.inj H
    exact ⟨_, ⟨_, rfl, rfl⟩, ⟨rfl, (S.weaken hI)⟩⟩
def speculumlaw11_RegexMatches.f (k : Nat) (x0 : ByteArray) (x1 : (List Int)) : Option Bool := (if (x0.size : Int) > 200 then ((speculumlaw11_awake.f k).bind fun y2 => (some y2)) else (if (x1.length : Int) > 40 then ((speculumlaw11_awake.f k).bind fun y5 => (some y5)) else ((regex_Parse.f k x0).bind fun y7 => ((speculumref11_Parse.f k x0).bind fun y11 => (if y11.2.2 = 0 then ((regex_Expr_Match.f k y7.1 x1).bind fun y16 => ((speculumref11_P_Match.f k y11.1 y11.2.1 x1).bind fun y18 => (if y16 = y18 then ((speculumlaw11_awake.f k).bind fun y21 => (some y21)) else (some false)))) else ((regex_Expr_Match.f k y7.1 x1).bind fun y23 => (if y23 = true then (some false) else ((speculumlaw11_awake.f k).bind fun y26 => (some y26)))))))))
abbrev speculumlaw11_RegexMatches.C (k : Nat) : Prop := ∀ {x0 : ByteArray} {x1 : (List Int)} {vx1 : Value} {F : List It} {I : IMem} {w : World} {r : Bool}, Glob I → Own I w (F) → SlR (tInt' .u32) I vx1 x1 → speculumlaw11_RegexMatches.f k x0 x1 = some r →
    Calls Tryd.prog 3 #[.string x0, vx1] w fun e w' => ∃ v, e = .returned v ∧ v = .bool r ∧ Own I w' (F)
theorem speculumlaw11_RegexMatches.ok (k : Nat) : speculumlaw11_RegexMatches.C k := by
  intro x0 x1 vx1 F I w r hG S hx1 H
  have hI := IMem.le.refl I
  rw [speculumlaw11_RegexMatches.f] at H
  refine Calls.ofFW (args := [.string x0, vx1]) Tryd.func3 rfl rfl ?_
  refine FW.seq ?_
  refine FW.region ?_
  refine U rfl rfl (V (x_asgV (v := .bool false) rfl) ?_)
  refine FW.seq ?_
  refine FW.seq ?_
  refine FW.region ?_
  refine U rfl rfl (V (x_movV (v := .string x0) rfl) ?_)
  refine U rfl rfl (V (x_lens tstr9 rfl) ?_)
  refine U rfl rfl (V (x_bin rfl rfl rfl) ?_)
  refine U rfl rfl (V (x_movV (v := .bool (decide ((x0.size : Int) > 200))) rfl) ?_)
  by_cases cc1 : (x0.size : Int) > 200
  · rw [if_pos cc1] at H
    refine OK.gf rfl rfl rfl (deT cc1) ?_
    refine OK.gf rfl rfl rfl (deT cc1) ?_
    refine OK.gf rfl rfl rfl (deT cc1) ?_
    refine U rfl rfl (V (x_pickTV (v := .bool true) rfl (deT cc1) rfl) ?_)
    refine FW.condT rfl rfl ?_
    refine FW.seq ?_
    refine FW.region ?_
    obtain ⟨y2, hy3, H⟩ := obx H
    refine U rfl rfl (cl fb7 (@speculumlaw11_awake.ok k _ _ _ _ hG S hy3) rfl ?_)
    rintro _ w ⟨rfl, S⟩
    refine U rfl rfl (V (x_asgV (v := .bool y2) rfl) ?_)
    refine FW.ret ?_
    obtain rfl := Option.some.inj H
    exact ⟨_, ⟨_, rfl, rfl⟩, ⟨rfl, (S.weaken hI)⟩⟩
  · rw [if_neg cc1] at H
    refine OK.gt rfl rfl rfl (deF cc1) (V (x_movV (v := vx1) rfl) ?_)
    refine OK.gt rfl rfl rfl (deF cc1) (V (x_lenD (r := (tInt' .u32)) tsl22 hx1) ?_)
    refine OK.gt rfl rfl rfl (deF cc1) (V (x_bin rfl rfl rfl) ?_)
    refine U rfl rfl (V (x_pickFV (v := .bool (decide ((x1.length : Int) > 40))) rfl (deF cc1) rfl) ?_)
    by_cases cc4 : (x1.length : Int) > 40
    · rw [if_pos cc4] at H
      refine FW.condT rfl (deT cc4) ?_
      refine FW.seq ?_
      refine FW.anew [] trivial fun σ => ?_
      refine FW.region ?_
      obtain ⟨y5, hy6, H⟩ := obx H
      refine U rfl rfl (cl fb7 (@speculumlaw11_awake.ok k _ _ _ _ hG S hy6) rfl ?_)
      rintro _ w ⟨rfl, S⟩
      refine U rfl rfl (V (x_asgV (v := .bool y5) rfl) ?_)
      refine FW.ret ?_
      obtain rfl := Option.some.inj H
      exact ⟨_, ⟨_, rfl, rfl⟩, ⟨rfl, (S.weaken hI)⟩⟩
    · rw [if_neg cc4] at H
      refine FW.condF rfl (deF cc4) ?_
      refine FW.skip ?_
      refine FW.seq ?_
      refine FW.anew [(0, .string x0), (1, vx1)] ⟨rfl, rfl, trivial⟩ fun σ => ?_
      refine FW.region ?_
      refine U rfl rfl (V (x_movV (v := .string x0) rfl) ?_)
      obtain ⟨y7, hy8, H⟩ := obx H
      refine U rfl rfl (cl fb8 (@regex_Parse.ok k x0 _ _ _ _ hG S hy8) rfl ?_)
      rintro _ w ⟨vy7_0, J9, hJ10, rfl, hy7_0, S⟩
      have hx1 := hx1.mono hJ10
      have hI := hI.trans hJ10
      have hG := hG.mono hJ10
      refine U rfl rfl (V (x_movV (v := .tuple #[vy7_0, .int .i64 y7.2]) rfl) ?_)
      refine U rfl rfl (V (x_ext rfl rfl) ?_)
      refine U rfl rfl (V (x_ext rfl rfl) ?_)
      refine U rfl rfl (V (x_asgV (v := vy7_0) rfl) ?_)
      refine U rfl rfl (V (x_asgV (v := .int .i64 y7.2) rfl) ?_)
      refine FW.seq ?_
      refine FW.anew [(0, .string x0), (1, vx1), (5, vy7_0)] ⟨rfl, rfl, rfl, trivial⟩ fun σ => ?_
      refine FW.region ?_
      refine U rfl rfl (V (x_movV (v := .string x0) rfl) ?_)
      obtain ⟨y11, hy12, H⟩ := obx H
      refine U rfl rfl (cl fb9 (@speculumref11_Parse.ok k x0 _ _ _ _ hG S hy12) rfl ?_)
      rintro _ w ⟨vy11_0, J13, hJ14, rfl, hy11_0, S⟩
      have hx1 := hx1.mono hJ14
      have hy7_0 := hy7_0.mono hJ14
      have hI := hI.trans hJ14
      have hG := hG.mono hJ14
      refine U rfl rfl (V (x_movV (v := .tuple #[vy11_0, .int .i64 y11.2.1, .int .i64 y11.2.2]) rfl) ?_)
      refine U rfl rfl (V (x_ext rfl rfl) ?_)
      refine U rfl rfl (V (x_ext rfl rfl) ?_)
      refine U rfl rfl (V (x_ext rfl rfl) ?_)
      refine U rfl rfl (V (x_asgV (v := vy11_0) rfl) ?_)
      refine U rfl rfl (V (x_asgV (v := .int .i64 y11.2.1) rfl) ?_)
      refine U rfl rfl (V (x_asgV (v := .int .i64 y11.2.2) rfl) ?_)
      refine FW.seq ?_
      refine FW.seq ?_
      refine FW.anew [(1, vx1), (5, vy7_0), (7, vy11_0), (8, .int .i64 y11.2.1), (9, .int .i64 y11.2.2)] ⟨rfl, rfl, rfl, rfl, rfl, trivial⟩ fun σ => ?_
      refine FW.region ?_
      refine U rfl rfl (V (x_movV (v := .int .i64 y11.2.2) rfl) ?_)
      refine U rfl rfl (V (x_bin rfl rfl rfl) ?_)
      by_cases cc15 : y11.2.2 = 0
      · rw [if_pos cc15] at H
        refine FW.condF rfl (neF cc15) ?_
        refine FW.skip ?_
        refine FW.seq ?_
        refine FW.region ?_
        refine U rfl rfl (V (x_movV (v := vy7_0) rfl) ?_)
        refine U rfl rfl (V (x_movV (v := vx1) rfl) ?_)
        obtain ⟨y16, hy17, H⟩ := obx H
        refine U rfl rfl (cl fb10 (@regex_Expr_Match.ok k y7.1 x1 _ _ _ _ _ _ hG S hy7_0 hx1 hy17) rfl ?_)
        rintro _ w ⟨rfl, S⟩
        refine U rfl rfl (V (x_movV (v := vy11_0) rfl) ?_)
        refine U rfl rfl (V (x_movV (v := .int .i64 y11.2.1) rfl) ?_)
        refine U rfl rfl (V (x_movV (v := vx1) rfl) ?_)
        obtain ⟨y18, hy19, H⟩ := obx H
        refine U rfl rfl (cl fb11 (@speculumref11_P_Match.ok k y11.1 y11.2.1 x1 _ _ _ _ _ _ hG S hy11_0 hx1 hy19) rfl ?_)
        rintro _ w ⟨rfl, S⟩
        refine U rfl rfl (V (x_beq tbool4 rfl rfl) ?_)
        refine U rfl rfl (V (x_movV (v := .bool (y16 == y18)) rfl) ?_)
        by_cases cc20 : y16 = y18
        · rw [if_pos cc20] at H
          obtain ⟨y21, hy22, H⟩ := obx H
          refine OK.gt rfl rfl rfl (beT cc20) (cl fb7 (@speculumlaw11_awake.ok k _ _ _ _ hG S hy22) rfl ?_)
          rintro _ w ⟨rfl, S⟩
          refine U rfl rfl (V (x_pickTV (v := .bool y21) rfl (beT cc20) rfl) ?_)
          refine U rfl rfl (V (x_asgV (v := .bool y21) rfl) ?_)
          refine FW.ret ?_
          obtain rfl := Option.some.inj H
          exact ⟨_, ⟨_, rfl, rfl⟩, ⟨rfl, (S.weaken hI)⟩⟩
        · rw [if_neg cc20] at H
          refine OK.gf rfl rfl rfl (beF cc20) ?_
          refine U rfl rfl (V (x_pickFV (v := .bool false) rfl (beF cc20) rfl) ?_)
          refine U rfl rfl (V (x_asgV (v := .bool false) rfl) ?_)
          refine FW.ret ?_
          obtain rfl := Option.some.inj H
          exact ⟨_, ⟨_, rfl, rfl⟩, ⟨rfl, (S.weaken hI)⟩⟩
      · rw [if_neg cc15] at H
        refine FW.condT rfl (neT cc15) ?_
        refine FW.seq ?_
        refine FW.region ?_
        refine U rfl rfl (V (x_movV (v := vy7_0) rfl) ?_)
        refine U rfl rfl (V (x_movV (v := vx1) rfl) ?_)
        obtain ⟨y23, hy24, H⟩ := obx H
        refine U rfl rfl (cl fb10 (@regex_Expr_Match.ok k y7.1 x1 _ _ _ _ _ _ hG S hy7_0 hx1 hy24) rfl ?_)
        rintro _ w ⟨rfl, S⟩
        refine U rfl rfl (V (x_not' rfl) ?_)
        refine U rfl rfl (V (x_movV (v := .bool (!y23)) rfl) ?_)
        by_cases cc25 : y23 = true
        · rw [if_pos cc25] at H
          refine OK.gf rfl rfl rfl (noF cc25) ?_
          refine U rfl rfl (V (x_pickFV (v := .bool false) rfl (noF cc25) rfl) ?_)
          refine U rfl rfl (V (x_asgV (v := .bool false) rfl) ?_)
          refine FW.ret ?_
          obtain rfl := Option.some.inj H
          exact ⟨_, ⟨_, rfl, rfl⟩, ⟨rfl, (S.weaken hI)⟩⟩
        · rw [if_neg cc25] at H
          obtain ⟨y26, hy27, H⟩ := obx H
          refine OK.gt rfl rfl rfl (noT (vaF cc25)) (cl fb7 (@speculumlaw11_awake.ok k _ _ _ _ hG S hy27) rfl ?_)
          rintro _ w ⟨rfl, S⟩
          refine U rfl rfl (V (x_pickTV (v := .bool y26) rfl (noT (vaF cc25)) rfl) ?_)
          refine U rfl rfl (V (x_asgV (v := .bool y26) rfl) ?_)
          refine FW.ret ?_
          obtain rfl := Option.some.inj H
          exact ⟨_, ⟨_, rfl, rfl⟩, ⟨rfl, (S.weaken hI)⟩⟩
end Go.Proofs.YtkkflfmonidepaaDoor
namespace Go.Proofs.YtkkflfmonidepaaDoor
open Sp
set_option maxRecDepth 100000
set_option maxHeartbeats 4000000
theorem i64_id {n : Int} (h0 : -9223372036854775808 ≤ n) (h1 : n < 9223372036854775808) : i64 n = n := by
  unfold i64 Go.IntKind.wrap
  simp only [Go.IntKind.signed, Go.IntKind.bits]
  simp
  omega
theorem lat_nat {α : Type} (l : List α) (n : Nat) : lat l (n : Int) = l[n]? := by simp [lat]
theorem lat_lt {α : Type} {l : List α} {j : Int} (h0 : 0 ≤ j) (h1 : j < l.length) : ∃ x, lat l j = some x ∧ l[j.toNat]? = some x := by
  have h : j.toNat < l.length := by omega
  exact ⟨l[j.toNat], by simp [lat, h0, h], by simp [h]⟩
theorem app_small {α : Type} {b : Nat} {l m : List α} (h : (l.length + m.length) * b ≤ 140737488355328) (hb : 0 < b) : app b l m = some (l ++ m) := by
  unfold app
  rw [if_pos]
  refine ⟨h, ?_⟩
  have : l.length + m.length ≤ (l.length + m.length) * b := Nat.le_mul_of_pos_right _ hb
  unfold Go.maxLen
  omega
def dsp : List T_regex_sign → List T_regex_sign
  | [] => []
  | x :: l => if x.c = 32 then dsp l else x :: l
theorem dsp_len : ∀ l, (dsp l).length ≤ l.length
  | [] => Nat.le_refl _
  | x :: l => by unfold dsp; split; exact Nat.le_succ_of_le (dsp_len l); exact Nat.le_refl _
theorem dsp_head : ∀ {l x r}, dsp l = x :: r → ¬ x.c = 32
  | [], _, _, h => by cases h
  | y :: l, x, r, h => by
    unfold dsp at h; split at h
    · exact dsp_head h
    · obtain ⟨rfl, _⟩ := List.cons.inj h; assumption
def hd : List T_regex_sign → T_regex_sign
  | [] => ⟨0, 0, false⟩
  | x :: _ => x
theorem dsp_dsp : ∀ l, dsp (dsp l) = dsp l
  | [] => rfl
  | x :: l => by
    by_cases h : x.c = 32
    · simp [dsp, h, dsp_dsp l]
    · simp [dsp, h]
theorem peek_l0 : ∀ (k : Nat) (l : List T_regex_sign), l.length < k → regex_reader_peek.l0 k l = some (dsp l)
  | 0, _, h => by omega
  | k + 1, [], _ => by rw [regex_reader_peek.l0]; simp [dsp]
  | k + 1, x :: l, h => by
    rw [regex_reader_peek.l0]
    rw [if_pos (by simp)]
    have h1 : lat (x :: l) 0 = some x := rfl
    rw [h1]
    simp only [Option.bind_some]
    have h2 : cutL (x :: l) 1 = some l := by simp [cutL]; omega
    unfold dsp
    split
    · rw [h2]
      simp only [Option.bind_some]
      exact peek_l0 k l (by simp at h; omega)
    · rfl
theorem peek_eq {k : Nat} {l : List T_regex_sign} {b : Bool} (h : l.length < k) : regex_reader_peek.f k ⟨l, b⟩ = some (hd (dsp l), ⟨dsp l, b⟩) := by
  rw [regex_reader_peek.f, peek_l0 k l h]
  simp only [Option.bind_some]
  cases hd' : dsp l with
  | nil => simp [hd]
  | cons x r =>
    rw [if_neg (by simp; omega)]
    rfl
theorem next_eq {k : Nat} {l : List T_regex_sign} {b : Bool} (h : l.length < k) : regex_reader_next.f k ⟨l, b⟩ = some (hd (dsp l), ⟨(dsp l).tail, b⟩) := by
  rw [regex_reader_next.f, peek_eq h]
  simp only [Option.bind_some]
  cases hd' : dsp l with
  | nil => simp [hd]
  | cons x r =>
    rw [if_pos (by simp)]
    have h2 : cutL (x :: r) 1 = some r := by simp [cutL]; omega
    rw [h2]
    rfl
theorem tail_len (l : List T_regex_sign) : (dsp l).tail.length ≤ l.length := by
  have := dsp_len l
  simp; omega
mutual
def wt : T_regex_piece → Nat
  | ⟨_, ps, ss, _⟩ => 1 + wts ps + ss.length
def wts : List T_regex_piece → Nat
  | [] => 0
  | p :: ps => wt p + wts ps
end
theorem wts_app : ∀ a b, wts (a ++ b) = wts a + wts b
  | [], b => by simp [wts]
  | x :: a, b => by simp only [List.cons_append, wts, wts_app a b]; omega
theorem wts_len : ∀ l, l.length ≤ wts l
  | [] => Nat.le_refl _
  | ⟨_, _, _, _⟩ :: l => by simp only [wts, wt, List.length_cons]; have := wts_len l; omega
def num32 (n : Int) : Prop := 0 ≤ n ∧ n < 4294967296
def spanOk (s : T_regex_span) : Prop := num32 s.from_ ∧ num32 s.to_ ∧ s.from_ ≤ s.to_
inductive WF : Nat → T_regex_piece → Prop
  | num {n : Int} : num32 n → WF 0 ⟨2, [], [⟨n, n⟩], false⟩
  | any : WF 0 ⟨3, [], [], false⟩
  | start : WF 0 ⟨5, [], [], false⟩
  | stop : WF 0 ⟨6, [], [], false⟩
  | set {ss : List T_regex_span} {b : Bool} : ss ≠ [] → (∀ s ∈ ss, spanOk s) → WF 0 ⟨4, [], ss, b⟩
  | par {p : T_regex_piece} : WF 2 p → WF 0 p
  | rep {k : Int} {p : T_regex_piece} : (k = 7 ∨ k = 8 ∨ k = 9) → WF 0 p → WF 0 ⟨k, [p], [], false⟩
  | row {ps : List T_regex_piece} : (∀ x ∈ ps, WF 0 x) → WF 1 ⟨0, ps, [], false⟩
  | choice {ps : List T_regex_piece} : ps ≠ [] → (∀ x ∈ ps, WF 1 x) → WF 2 ⟨1, ps, [], false⟩
def signOk (x : T_regex_sign) : Prop := (x.digits = true → num32 x.n ∧ x.c = 0) ∧ (x.digits = false → ¬ x.c = 0)
def sgs (l : List T_regex_sign) : Prop := ∀ x ∈ l, signOk x
theorem sgs_dsp : ∀ {l}, sgs l → sgs (dsp l)
  | [], h => h
  | x :: l, h => by
    unfold dsp; split
    · exact sgs_dsp fun y hy => h y (List.mem_cons_of_mem _ hy)
    · exact h
theorem sgs_tail {l} (h : sgs l) : sgs (dsp l).tail := fun x hx => sgs_dsp h x (List.mem_of_mem_tail hx)
theorem repeats_l0 : ∀ (k : Nat) (p : T_regex_piece) (l : List T_regex_sign) (b : Bool), l.length + 1 < k → sgs l →
    ∃ q r, regex_reader_repeats.l0 k p.kind p.parts p.spans p.not l b = some (.inl (q, r)) ∧ r.rest.length ≤ l.length ∧ r.bad = b ∧ sgs r.rest ∧ wt q + r.rest.length ≤ wt p + l.length ∧ (WF 0 p → WF 0 q)
  | 0, _, _, _, h, _ => by omega
  | k + 1, p, l, b, h, hs => by
    rw [regex_reader_repeats.l0, peek_eq (by omega)]
    simp only [Option.bind_some]
    have hn : regex_reader_next.f k ⟨dsp l, b⟩ = some (hd (dsp (dsp l)), ⟨(dsp (dsp l)).tail, b⟩) := next_eq (by have := dsp_len l; omega)
    rw [dsp_dsp] at hn
    have hp : (⟨p.kind, p.parts, p.spans, p.not⟩ : T_regex_piece) = p := by cases p; rfl
    have step : ∀ c : Int, (c = 7 ∨ c = 8 ∨ c = 9) → (hd (dsp l)).c ≠ 0 → ∃ q r, regex_reader_repeats.l0 k c [p] [] false (dsp l).tail b = some (.inl (q, r)) ∧ r.rest.length ≤ l.length ∧ r.bad = b ∧ sgs r.rest ∧ wt q + r.rest.length ≤ wt p + l.length ∧ (WF 0 p → WF 0 q) := by
      intro c hc h0
      have hne : (dsp l).tail.length + 1 ≤ l.length := by
        cases hd' : dsp l with
        | nil => rw [hd'] at h0; exact absurd rfl h0
        | cons x r => have := dsp_len l; rw [hd'] at this; simpa using this
      obtain ⟨q, r, e, h1, h2, h3, h4, h5⟩ := repeats_l0 k ⟨c, [p], [], false⟩ (dsp l).tail b (by omega) (sgs_tail hs)
      refine ⟨q, r, e, by omega, h2, h3, ?_, fun hw => h5 (.rep hc hw)⟩
      simp only [wt, wts, List.length_nil] at h4
      omega
    rw [hp]
    split
    · rename_i hc
      rw [hn]; simp only [Option.bind_some]
      exact step 7 (.inl rfl) (by rw [hc]; decide)
    · split
      · rename_i hc
        rw [hn]; simp only [Option.bind_some]
        exact step 8 (.inr (.inl rfl)) (by rw [hc]; decide)
      · split
        · rename_i hc
          rw [hn]; simp only [Option.bind_some]
          exact step 9 (.inr (.inr rfl)) (by rw [hc]; decide)
        · exact ⟨p, ⟨dsp l, b⟩, rfl, dsp_len l, rfl, sgs_dsp hs, by have := dsp_len l; show wt p + (dsp l).length ≤ _; omega, id⟩
theorem repeats_ok {k : Nat} {p : T_regex_piece} {l : List T_regex_sign} {b : Bool} (h : l.length + 1 < k) (hs : sgs l) :
    ∃ q r, regex_reader_repeats.f k ⟨l, b⟩ p = some (q, r) ∧ r.rest.length ≤ l.length ∧ r.bad = b ∧ sgs r.rest ∧ wt q + r.rest.length ≤ wt p + l.length ∧ (WF 0 p → WF 0 q) := by
  obtain ⟨q, r, e, h'⟩ := repeats_l0 k p l b h hs
  exact ⟨q, r, by rw [regex_reader_repeats.f, e]; rfl, h'⟩
end Go.Proofs.YtkkflfmonidepaaDoor
namespace Go.Proofs.YtkkflfmonidepaaDoor
open Sp
set_option maxRecDepth 100000
set_option maxHeartbeats 4000000
theorem tail_lt {l : List T_regex_sign} (h : dsp l ≠ []) : (dsp l).tail.length + 1 ≤ l.length := by
  cases hd' : dsp l with
  | nil => exact absurd hd' h
  | cons x r => have := dsp_len l; rw [hd'] at this; simpa using this
theorem hd_ne {l : List T_regex_sign} (h : (hd l).c ≠ 0 ∨ (hd l).digits = true) : l ≠ [] := by
  rintro rfl
  rcases h with h | h
  · exact h rfl
  · exact absurd h (by decide)
theorem hd_ok {l : List T_regex_sign} (hs : sgs l) (h : l ≠ []) : signOk (hd l) := by
  cases l with
  | nil => exact absurd rfl h
  | cons x l => exact hs x (List.mem_cons_self ..)
theorem set_l1 : ∀ (k : Nat) (l : List T_regex_sign) (b : Bool), l.length + 1 < k → sgs l → ∃ r, regex_reader_set.l1 k l b = some (r, b) ∧ r.length ≤ l.length ∧ sgs r
  | 0, _, _, h, _ => by omega
  | k + 1, l, b, h, hs => by
    rw [regex_reader_set.l1, peek_eq (by omega)]
    simp only [Option.bind_some]
    split
    · rename_i hc
      rw [next_eq (by have := dsp_len l; omega), dsp_dsp]
      simp only [Option.bind_some]
      have hne := tail_lt (hd_ne (.inl (by rw [hc]; decide)))
      obtain ⟨r, e, h1, h2⟩ := set_l1 k (dsp l).tail b (by omega) (sgs_tail hs)
      exact ⟨r, e, by omega, h2⟩
    · exact ⟨dsp l, rfl, dsp_len l, sgs_dsp hs⟩
def Res (l : List T_regex_sign) (b : Bool) (kind c : Nat) (o : Option (T_regex_piece × T_regex_reader)) : Prop :=
  ∃ p r, o = some (p, r) ∧ r.rest.length ≤ l.length ∧ sgs r.rest ∧ wt p + 4 * r.rest.length ≤ 4 * l.length + c ∧ (r.bad = false → b = false ∧ WF kind p)
theorem set_l0 : ∀ (k : Nat) (nt : Bool) (l : List T_regex_sign) (b : Bool) (ss : List T_regex_span), l.length + 2 < k → sgs l → ss.length + l.length ≤ 1000000 →
    ∃ p r, regex_reader_set.l0 k nt l b ss = some (.inl (p, r)) ∧ r.rest.length ≤ l.length ∧ sgs r.rest ∧ wt p + r.rest.length ≤ 1 + ss.length + l.length ∧ (r.bad = false → b = false ∧ ((∀ s ∈ ss, spanOk s) → WF 0 p))
  | 0, _, _, _, _, h, _, _ => by omega
  | k + 1, nt, l, b, ss, h, hs, hb => by
    rw [regex_reader_set.l0]
    obtain ⟨l1, e1, h1, hs1⟩ := set_l1 k l b (by omega) hs
    rw [e1]
    simp only [Option.bind_some]
    rw [next_eq (by omega)]
    simp only [Option.bind_some]
    have hx := tail_len l1
    have hst := sgs_tail hs1
    have stop : ∀ (r : List T_regex_sign), r.length ≤ l.length → sgs r → ∃ p q, (some (.inl (⟨4, [], ss, nt⟩, ⟨r, true⟩)) : Option (Sum (T_regex_piece × T_regex_reader) Unit)) = some (.inl (p, q)) ∧ q.rest.length ≤ l.length ∧ sgs q.rest ∧ wt p + q.rest.length ≤ 1 + ss.length + l.length ∧ (q.bad = false → b = false ∧ ((∀ s ∈ ss, spanOk s) → WF 0 p)) :=
      fun r hr hsr => ⟨_, _, rfl, hr, hsr, by simp only [wt, wts]; omega, fun h => by cases h⟩
    have go : ∀ (r : List T_regex_sign) (s : T_regex_span) (b' : Bool), r.length + 1 ≤ l.length → sgs r → (b' = false → b = false ∧ spanOk s) → ∃ p q, (app 8 ss [s]).bind (fun l110 => regex_reader_set.l0 k nt r b' l110) = some (.inl (p, q)) ∧ q.rest.length ≤ l.length ∧ sgs q.rest ∧ wt p + q.rest.length ≤ 1 + ss.length + l.length ∧ (q.bad = false → b = false ∧ ((∀ s ∈ ss, spanOk s) → WF 0 p)) := by
      intro r s b' hr hsr hbs
      rw [app_small (by simp; omega) (by decide)]
      simp only [Option.bind_some]
      obtain ⟨p, q, e, k1, k2, k3, k4⟩ := set_l0 k nt r b' (ss ++ [s]) (by omega) hsr (by simp; omega)
      refine ⟨p, q, e, by omega, k2, by simp at k3; omega, fun hq => ?_⟩
      obtain ⟨j1, j2⟩ := k4 hq
      obtain ⟨j3, j4⟩ := hbs j1
      refine ⟨j3, fun hss => j2 fun x hx => ?_⟩
      rcases List.mem_append.1 hx with hx | hx
      · exact hss x hx
      · simp at hx; subst hx; exact j4
    by_cases hdg : (hd (dsp l1)).digits = true
    · rw [if_pos hdg]
      have hne := hd_ne (.inr hdg)
      have hlt := tail_lt hne
      have hok := (hd_ok (sgs_dsp hs1) hne).1 hdg
      have same : ∀ b' : Bool, b' = decide ((hd (dsp l1)).n > (hd (dsp l1)).n) → (b' = false → spanOk ⟨(hd (dsp l1)).n, (hd (dsp l1)).n⟩) := fun _ _ _ => ⟨hok.1, hok.1, Int.le_refl _⟩
      by_cases hr0 : (((dsp l1).tail.length : Nat) : Int) > 0
      · rw [if_pos hr0]
        cases ht : (dsp l1).tail with
        | nil => rw [ht] at hr0; exact absurd hr0 (by decide)
        | cons y t =>
          rw [ht] at hlt hst
          have hy : signOk y := hst y (List.mem_cons_self ..)
          have hlat : lat (y :: t) 0 = some y := rfl
          rw [hlat]
          simp only [Option.bind_some]
          by_cases hc : y.c = 45
          · rw [if_pos hc]
            have hdy : dsp (y :: t) = y :: t := by simp [dsp, hc]
            rw [next_eq (by omega), hdy]
            simp only [Option.bind_some, List.tail_cons]
            by_cases hz : ((t.length : Nat) : Int) = 0
            · rw [if_pos hz]
              simp only [Option.bind_some]
              exact stop t (by simp at hlt; omega) fun x hx => hst x (List.mem_cons_of_mem _ hx)
            · rw [if_neg hz]
              cases t with
              | nil => exact absurd rfl hz
              | cons z t2 =>
                have hz' : signOk z := hst z (by simp)
                have hlat2 : lat (z :: t2) 0 = some z := rfl
                rw [hlat2]
                simp only [Option.bind_some]
                by_cases hzd : z.digits = true
                · rw [if_pos hzd]
                  have hdz : dsp (z :: t2) = z :: t2 := by simp [dsp, (hz'.1 hzd).2]
                  rw [next_eq (by simp at hlt ⊢; omega), hdz]
                  simp only [Option.bind_some, List.tail_cons, hd]
                  have hst2 : sgs t2 := fun x hx => hst x (by simp [hx])
                  by_cases hbb : b = true
                  · rw [if_pos hbb]
                    exact go t2 _ true (by simp at hlt; omega) hst2 (fun h => by cases h)
                  · rw [if_neg hbb]
                    refine go t2 _ _ (by simp at hlt; omega) hst2 (fun h => ⟨by simpa using hbb, hok.1, (hz'.1 hzd).1, ?_⟩)
                    simpa using h
                · rw [if_neg hzd]
                  simp only [Option.bind_some]
                  exact stop _ (by simp at hlt ⊢; omega) fun x hx => hst x (List.mem_cons_of_mem _ hx)
          · rw [if_neg hc]
            simp only [Option.bind_some]
            by_cases hbb : b = true
            · rw [if_pos hbb]
              exact go _ _ true (by omega) hst (fun h => by cases h)
            · rw [if_neg hbb]
              exact go _ _ _ (by omega) hst (fun h => ⟨by simpa using hbb, hok.1, hok.1, Int.le_refl _⟩)
      · rw [if_neg hr0]
        by_cases hbb : b = true
        · rw [if_pos hbb]
          exact go _ _ true (by omega) hst (fun h => by cases h)
        · rw [if_neg hbb]
          exact go _ _ _ (by omega) hst (fun h => ⟨by simpa using hbb, hok.1, hok.1, Int.le_refl _⟩)
    · rw [if_neg hdg]
      split
      · exact stop _ (by omega) hst
      · rename_i hbb
        split
        · refine ⟨_, _, rfl, (by show (dsp l1).tail.length ≤ _; omega), hst, (by simp only [wt, wts]; show 1 + 0 + ss.length + (dsp l1).tail.length ≤ _; omega), fun hq => ⟨by simpa using hbb, fun hss => .set ?_ hss⟩⟩
          rintro rfl
          simp at hq
        · exact stop _ (by omega) hst
theorem set_ok {k : Nat} {l : List T_regex_sign} {b : Bool} (h : l.length + 3 < k) (hs : sgs l) (hb : l.length ≤ 100000) : Res l b 0 1 (regex_reader_set.f k ⟨l, b⟩) := by
  rw [regex_reader_set.f, peek_eq (by omega)]
  simp only [Option.bind_some]
  have key : ∀ (r : List T_regex_sign) (nt : Bool), r.length ≤ l.length → sgs r → Res l b 0 1 ((regex_reader_set.l0 k nt r b []).bind fun o => match o with | .inl r => some r | .inr _ => none) := by
    intro r nt hr hsr
    obtain ⟨p, q, e, h1, h2, h3, h4⟩ := set_l0 k nt r b [] (by omega) hsr (by simp; omega)
    refine ⟨p, q, by rw [e]; rfl, by omega, h2, by simp at h3; omega, fun hq => ?_⟩
    obtain ⟨j1, j2⟩ := h4 hq
    exact ⟨j1, j2 (fun _ h => by cases h)⟩
  split
  · rename_i hc
    rw [next_eq (by have := dsp_len l; omega), dsp_dsp]
    simp only [Option.bind_some]
    exact key _ _ (tail_len l) (sgs_tail hs)
  · simp only [Option.bind_some]
    exact key _ _ (dsp_len l) (sgs_dsp hs)
end Go.Proofs.YtkkflfmonidepaaDoor
namespace Go.Proofs.YtkkflfmonidepaaDoor
open Sp
set_option maxRecDepth 100000
set_option maxHeartbeats 4000000
def ResL (l : List T_regex_sign) (b : Bool) (ps : List T_regex_piece) (kind : Nat) (o : Option (List T_regex_piece × List T_regex_sign × Bool)) : Prop :=
  ∃ ps' l' b', o = some (ps', l', b') ∧ l'.length ≤ l.length ∧ sgs l' ∧ wts ps' + 4 * l'.length ≤ wts ps + 4 * l.length ∧ (ps ≠ [] → ps' ≠ []) ∧ (b' = false → b = false ∧ ((∀ x ∈ ps, WF kind x) → ∀ x ∈ ps', WF kind x))
def AllN (n : Nat) : Prop := ∀ (l : List T_regex_sign) (b : Bool), l.length = n → sgs l → l.length ≤ 100000 →
  (∀ k ps, 4 * n + 2 ≤ k → wts ps + 4 * n ≤ 1000000 → ResL l b ps 0 (regex_reader_row.l0 k ps l b)) ∧
  (∀ k, 4 * n + 3 ≤ k → Res l b 1 1 (regex_reader_row.f k ⟨l, b⟩)) ∧
  (∀ k ps, 4 * n + 2 ≤ k → wts ps + 4 * n ≤ 1000000 → ResL l b ps 1 (regex_reader_choices.l0 k ps l b)) ∧
  (∀ k, 4 * n + 4 ≤ k → Res l b 2 2 (regex_reader_choices.f k ⟨l, b⟩)) ∧
  (∀ k x, 4 * n + 5 ≤ k → signOk x → Res l b 0 3 (regex_reader_atom.f k ⟨l, b⟩ x))
theorem all_n (n : Nat) (ih : ∀ m, m < n → AllN m) : AllN n := by
  intro l b hn hs hb
  have dl := dsp_len l
  have hsd := sgs_dsp hs
  -- a row on the way
  have hrow0 : ∀ k ps, 4 * n + 2 ≤ k → wts ps + 4 * n ≤ 1000000 → ResL l b ps 0 (regex_reader_row.l0 k ps l b) := by
    intro k ps hk hw
    cases k with
    | zero => omega
    | succ k =>
      rw [regex_reader_row.l0]
      by_cases hbb : b = true
      · rw [if_pos hbb]
        exact ⟨ps, l, b, rfl, Nat.le_refl _, hs, Nat.le_refl _, id, fun h => ⟨h, id⟩⟩
      · rw [if_neg hbb, peek_eq (by omega)]
        simp only [Option.bind_some]
        rw [next_eq (by omega), dsp_dsp]
        simp only [Option.bind_some]
        have stay : ResL l b ps 0 (some (ps, dsp l, b)) := ⟨ps, dsp l, b, rfl, dl, hsd, by omega, id, fun h => ⟨h, id⟩⟩
        have go : dsp l ≠ [] → ResL l b ps 0 ((regex_reader_atom.f k ⟨(dsp l).tail, b⟩ (hd (dsp l))).bind fun y38 => ((regex_reader_repeats.f k y38.2 y38.1).bind fun y42 => ((app 64 ps [y42.1]).bind fun l50 => (regex_reader_row.l0 k l50 y42.2.rest y42.2.bad)))) := by
          intro hne
          have hlt := tail_lt hne
          obtain ⟨_, _, _, _, ha⟩ := ih _ (show (dsp l).tail.length < n by omega) (dsp l).tail b rfl (sgs_tail hs) (by omega)
          obtain ⟨p, r, e1, h1, h2, h3, h4⟩ := ha k (hd (dsp l)) (by omega) (hd_ok hsd hne)
          rw [e1]
          simp only [Option.bind_some]
          obtain ⟨q, r2, e2, j1, j2, j3, j4, j5⟩ := repeats_ok (k := k) (p := p) (l := r.rest) (b := r.bad) (by omega) h2
          rw [show (⟨r.rest, r.bad⟩ : T_regex_reader) = r from rfl] at e2
          rw [e2]
          simp only [Option.bind_some]
          have hpl := wts_len ps
          rw [app_small (by simp; omega) (by decide)]
          simp only [Option.bind_some]
          have hwq : wts (ps ++ [q]) = wts ps + wt q := by rw [wts_app]; simp [wts]
          obtain ⟨g, _, _, _, _⟩ := ih _ (show r2.rest.length < n by omega) r2.rest r2.bad rfl j3 (by omega)
          obtain ⟨ps', l', b', e3, g1, g2, g3, g4, g5⟩ := g k (ps ++ [q]) (by omega) (by omega)
          refine ⟨ps', l', b', e3, by omega, g2, by omega, fun _ => g4 (by simp), fun hb' => ?_⟩
          obtain ⟨k1, k2⟩ := g5 hb'
          rw [j2] at k1
          obtain ⟨k3, k4⟩ := h4 k1
          refine ⟨k3, fun hps => k2 fun x hx => ?_⟩
          rcases List.mem_append.1 hx with hx | hx
          · exact hps x hx
          · simp at hx; subst hx; exact j5 k4
        split
        · rename_i hdg
          exact go (hd_ne (.inr hdg))
        · split
          · exact stay
          · rename_i hc
            split
            · exact stay
            · split
              · exact stay
              · exact go (hd_ne (.inl hc))
  have hrow : ∀ k, 4 * n + 3 ≤ k → Res l b 1 1 (regex_reader_row.f k ⟨l, b⟩) := by
    intro k hk
    cases k with
    | zero => omega
    | succ k =>
      rw [regex_reader_row.f]
      obtain ⟨ps', l', b', e, h1, h2, h3, _, h5⟩ := hrow0 k [] (by omega) (by simp [wts]; omega)
      rw [e]
      simp only [Option.bind_some]
      refine ⟨_, _, rfl, h1, h2, ?_, fun hb' => ?_⟩
      · simp only [wt, wts, List.length_nil] at h3 ⊢; omega
      · obtain ⟨k1, k2⟩ := h5 hb'
        exact ⟨k1, .row (k2 (fun _ h => by cases h))⟩
  have hch0 : ∀ k ps, 4 * n + 2 ≤ k → wts ps + 4 * n ≤ 1000000 → ResL l b ps 1 (regex_reader_choices.l0 k ps l b) := by
    intro k ps hk hw
    cases k with
    | zero => omega
    | succ k =>
      rw [regex_reader_choices.l0]
      by_cases hbb : b = true
      · rw [if_pos hbb]
        exact ⟨ps, l, b, rfl, Nat.le_refl _, hs, Nat.le_refl _, id, fun h => ⟨h, id⟩⟩
      · rw [if_neg hbb, peek_eq (by omega)]
        simp only [Option.bind_some]
        split
        · rename_i hc
          rw [next_eq (by omega), dsp_dsp]
          simp only [Option.bind_some]
          have hlt := tail_lt (hd_ne (.inl (by rw [hc]; decide)))
          obtain ⟨_, hr, _, _, _⟩ := ih _ (show (dsp l).tail.length < n by omega) (dsp l).tail b rfl (sgs_tail hs) (by omega)
          obtain ⟨p, r, e1, h1, h2, h3, h4⟩ := hr k (by omega)
          rw [e1]
          simp only [Option.bind_some]
          have hpl := wts_len ps
          rw [app_small (by simp; omega) (by decide)]
          simp only [Option.bind_some]
          have hwq : wts (ps ++ [p]) = wts ps + wt p := by rw [wts_app]; simp [wts]
          obtain ⟨_, _, g, _, _⟩ := ih _ (show r.rest.length < n by omega) r.rest r.bad rfl h2 (by omega)
          obtain ⟨ps', l', b', e3, g1, g2, g3, g4, g5⟩ := g k (ps ++ [p]) (by omega) (by omega)
          refine ⟨ps', l', b', e3, by omega, g2, by omega, fun _ => g4 (by simp), fun hb' => ?_⟩
          obtain ⟨k1, k2⟩ := g5 hb'
          obtain ⟨k3, k4⟩ := h4 k1
          refine ⟨k3, fun hps => k2 fun x hx => ?_⟩
          rcases List.mem_append.1 hx with hx | hx
          · exact hps x hx
          · simp at hx; subst hx; exact k4
        · exact ⟨ps, dsp l, b, rfl, dl, hsd, by omega, id, fun h => ⟨h, id⟩⟩
  have hch : ∀ k, 4 * n + 4 ≤ k → Res l b 2 2 (regex_reader_choices.f k ⟨l, b⟩) := by
    intro k hk
    cases k with
    | zero => omega
    | succ k =>
      rw [regex_reader_choices.f]
      obtain ⟨p, r, e1, h1, h2, h3, h4⟩ := hrow k (by omega)
      rw [e1]
      simp only [Option.bind_some]
      have key : ResL r.rest r.bad [p] 1 (regex_reader_choices.l0 k [p] r.rest r.bad) := by
        by_cases hr : r.rest.length < n
        · obtain ⟨_, _, g, _, _⟩ := ih _ hr r.rest r.bad rfl h2 (by omega)
          exact g k [p] (by omega) (by simp only [wts]; omega)
        · -- nothing was taken: the same length
          have hl : r.rest.length = n := by omega
          clear hrow0 hrow hch0
          -- the loop by itself, at this length
          cases k with
          | zero => omega
          | succ k =>
            rw [regex_reader_choices.l0]
            have hbnd : wts [p] + 4 * r.rest.length ≤ 4 * l.length + 1 := by simp only [wts]; omega
            by_cases hbb : r.bad = true
            · rw [if_pos hbb]
              exact ⟨[p], r.rest, r.bad, rfl, Nat.le_refl _, h2, Nat.le_refl _, id, fun h => ⟨h, id⟩⟩
            · rw [if_neg hbb, peek_eq (by omega)]
              simp only [Option.bind_some]
              have dl2 := dsp_len r.rest
              split
              · rename_i hc
                rw [next_eq (by omega), dsp_dsp]
                simp only [Option.bind_some]
                have hlt := tail_lt (hd_ne (.inl (by rw [hc]; decide)))
                obtain ⟨_, hr2, _, _, _⟩ := ih _ (show (dsp r.rest).tail.length < n by omega) (dsp r.rest).tail r.bad rfl (sgs_tail h2) (by omega)
                obtain ⟨p2, r2, e2, i1, i2, i3, i4⟩ := hr2 k (by omega)
                rw [e2]
                simp only [Option.bind_some]
                rw [app_small (by simp) (by decide)]
                simp only [Option.bind_some]
                have hwq : wts ([p] ++ [p2]) = wts [p] + wt p2 := by rw [wts_app]; simp [wts]
                obtain ⟨_, _, g, _, _⟩ := ih _ (show r2.rest.length < n by omega) r2.rest r2.bad rfl i2 (by omega)
                obtain ⟨ps', l', b', e3, g1, g2, g3, g4, g5⟩ := g k ([p] ++ [p2]) (by omega) (by omega)
                refine ⟨ps', l', b', e3, by omega, g2, by omega, fun _ => g4 (by simp), fun hb' => ?_⟩
                obtain ⟨k1, k2⟩ := g5 hb'
                obtain ⟨k3, k4⟩ := i4 k1
                refine ⟨k3, fun hps => k2 fun x hx => ?_⟩
                rcases List.mem_append.1 hx with hx | hx
                · exact hps x hx
                · simp at hx; subst hx; exact k4
              · exact ⟨[p], dsp r.rest, r.bad, rfl, dl2, sgs_dsp h2, by omega, id, fun h => ⟨h, id⟩⟩
      obtain ⟨ps', l', b', e, j1, j2, j3, j4, j5⟩ := key
      rw [e]
      simp only [Option.bind_some]
      refine ⟨_, _, rfl, by show l'.length ≤ _; omega, j2, ?_, fun hb' => ?_⟩
      · simp only [wt, wts, List.length_nil] at j3 h3 ⊢; omega
      · obtain ⟨k1, k2⟩ := j5 hb'
        obtain ⟨k3, k4⟩ := h4 k1
        exact ⟨k3, .choice (j4 (by simp)) (k2 fun x hx => by simp at hx; subst hx; exact k4)⟩
  refine ⟨hrow0, hrow, hch0, hch, ?_⟩
  intro k x hk hx
  cases k with
  | zero => omega
  | succ k =>
    rw [regex_reader_atom.f]
    have one : ∀ (p : T_regex_piece), wt p ≤ 2 → WF 0 p → Res l b 0 3 (some (p, ⟨l, b⟩)) := fun p hp hw => ⟨p, ⟨l, b⟩, rfl, Nat.le_refl _, hs, by show wt p + 4 * l.length ≤ _; omega, fun h => ⟨h, hw⟩⟩
    split
    · rename_i hdg
      exact one _ (by simp [wt, wts]) (.num (hx.1 hdg).1)
    · split
      · exact one _ (by simp [wt, wts]) .any
      · split
        · exact one _ (by simp [wt, wts]) .start
        · split
          · exact one _ (by simp [wt, wts]) .stop
          · split
            · obtain ⟨p, r, e, h1, h2, h3, h4⟩ := set_ok (k := k) (l := l) (b := b) (by omega) hs hb
              rw [e]
              exact ⟨p, r, rfl, h1, h2, by omega, h4⟩
            · split
              · obtain ⟨p, r, e, h1, h2, h3, h4⟩ := hch k (by omega)
                rw [e]
                simp only [Option.bind_some]
                split
                · exact ⟨p, ⟨r.rest, true⟩, rfl, h1, h2, by show wt p + 4 * r.rest.length ≤ _; omega, fun h => by cases h⟩
                · rename_i hbb
                  have hn := next_eq (k := k) (l := r.rest) (b := r.bad) (by omega)
                  rw [show (⟨r.rest, r.bad⟩ : T_regex_reader) = r from rfl] at hn
                  rw [hn]
                  simp only [Option.bind_some]
                  have ht := tail_len r.rest
                  refine ⟨p, _, rfl, by show (dsp r.rest).tail.length ≤ _; omega, sgs_tail h2, by show wt p + 4 * (dsp r.rest).tail.length ≤ _; omega, fun _ => ?_⟩
                  obtain ⟨k1, k2⟩ := h4 (by simpa using hbb)
                  exact ⟨k1, .par k2⟩
              · exact ⟨⟨0, [], [], false⟩, ⟨l, true⟩, rfl, Nat.le_refl _, hs, by simp [wt, wts]; omega, fun h => by cases h⟩
theorem all_ok (n : Nat) : AllN n := Nat.strongRecOn n fun n ih => all_n n ih
theorem choices_ok {k : Nat} {l : List T_regex_sign} {b : Bool} (h : 4 * l.length + 4 ≤ k) (hs : sgs l) (hb : l.length ≤ 100000) : Res l b 2 2 (regex_reader_choices.f k ⟨l, b⟩) :=
  (all_ok l.length l b rfl hs hb).2.2.2.1 k h
end Go.Proofs.YtkkflfmonidepaaDoor
namespace Go.Proofs.YtkkflfmonidepaaDoor
open Sp
set_option maxRecDepth 100000
set_option maxHeartbeats 4000000
def stepOk (n : Nat) (s : T_regex_step) : Prop := ((s.op = 0 ∨ s.op = 1 ∨ s.op = 2 ∨ s.op = 3) ∧ s.spans.length ≤ 1000000) ∧ (0 ≤ s.to_.1 ∧ s.to_.1 ≤ n) ∧ (0 ≤ s.to_.2 ∧ s.to_.2 ≤ n)
def V (p : List T_regex_step) : Prop := ∀ s ∈ p, stepOk p.length s
theorem stepOk.mono {n m : Nat} {s : T_regex_step} (h : stepOk n s) (hn : n ≤ m) : stepOk m s := ⟨h.1, ⟨h.2.1.1, by have := h.2.1.2; omega⟩, ⟨h.2.2.1, by have := h.2.2.2; omega⟩⟩
theorem V.app {p : List T_regex_step} (h : V p) {s : T_regex_step} (hs : stepOk (p.length + 1) s) : V (p ++ [s]) := fun x hx => by
  rw [List.length_append]
  rcases List.mem_append.1 hx with hx | hx
  · exact (h x hx).mono (by omega)
  · simp at hx; subst hx; exact hs
theorem V.set {p : List T_regex_step} (h : V p) (i : Nat) {s : T_regex_step} (hs : stepOk p.length s) : V (p.set i s) := fun x hx => by
  rw [List.length_set]
  rcases List.mem_or_eq_of_mem_set hx with hx | rfl
  · exact h x hx
  · exact hs
theorem V.get {p : List T_regex_step} (h : V p) {i : Int} (h0 : 0 ≤ i) (h1 : i < p.length) : ∃ s, lat p i = some s ∧ stepOk p.length s := by
  obtain ⟨s, e, e2⟩ := lat_lt h0 h1
  exact ⟨s, e, h s (List.mem_of_getElem? e2)⟩
theorem peta (t : T_regex_piece) : (⟨t.kind, t.parts, t.spans, t.not⟩ : T_regex_piece) = t := by cases t; rfl
theorem put_ok {k : Nat} {t : T_regex_piece} {p : List T_regex_step} (s : T_regex_step) (h : p.length ≤ 1000000) : regex_Expr_put.f k ⟨t, p⟩ s = some ((p.length : Int), ⟨t, p ++ [s]⟩) := by
  rw [regex_Expr_put.f]
  have ha : Sp.app 56 p [s] = some (p ++ [s]) := app_small (by simp <;> omega) (by decide)
  simp only [ha, Option.bind_some]
  rw [show i64 (((p ++ [s]).length : Int) - 1) = (p.length : Int) by rw [List.length_append]; simp only [List.length_singleton]; rw [i64_id (by omega) (by omega)]; omega]
def Comp (t : T_regex_piece) (p : List T_regex_step) (w : Nat) (o : Option T_regex_Expr) : Prop :=
  ∃ q, o = some ⟨t, q⟩ ∧ V q ∧ p.length ≤ q.length ∧ q.length + 2 ≤ p.length + 4 * w
def CompAll (n : Nat) : Prop := ∀ (x : T_regex_piece) (j : Nat), WF j x → wt x ≤ n → ∀ (k : Nat) (t : T_regex_piece) (p : List T_regex_step), 4 * wt x ≤ k → V p → p.length + 4 * wt x ≤ 1000000 → Comp t p (wt x) (regex_Expr_compile.f k ⟨t, p⟩ x)
theorem wt_pos (x : T_regex_piece) : 1 ≤ wt x := by obtain ⟨_, _, _, _⟩ := x; simp only [wt]; omega
theorem wt_mem {x : T_regex_piece} : ∀ {l : List T_regex_piece}, x ∈ l → wt x ≤ wts l
  | y :: l, h => by
    simp only [wts]
    rcases List.mem_cons.1 h with rfl | h
    · omega
    · have := wt_mem h; omega
theorem wts_drop {l : List T_regex_piece} {i : Nat} {x : T_regex_piece} (h : l[i]? = some x) : wts (l.drop i) = wt x + wts (l.drop (i + 1)) := by
  have hlt := (List.getElem?_eq_some_iff.1 h).1
  have he : l[i] = x := by have := (List.getElem?_eq_some_iff.1 h).2; exact this
  rw [List.drop_eq_getElem_cons hlt, wts, he]
theorem comp_l0 {n : Nat} (ih : CompAll n) (x1 : T_regex_piece) {j : Nat} (hw : ∀ y ∈ x1.parts, WF j y) (hn : wts x1.parts ≤ n) (hlen : x1.parts.length ≤ 1000000) :
    ∀ (k i : Nat) (t : T_regex_piece) (p : List T_regex_step), i ≤ x1.parts.length → 4 * wts (x1.parts.drop i) + 1 ≤ k → V p → p.length + 4 * wts (x1.parts.drop i) ≤ 1000000 →
      ∃ q, regex_Expr_compile.l0 k x1 (i : Int) t.kind t.parts t.spans t.not p = some (t.kind, t.parts, t.spans, t.not, q) ∧ V q ∧ p.length ≤ q.length ∧ q.length ≤ p.length + 4 * wts (x1.parts.drop i)
  | 0, _, _, _, _, h, _, _ => by omega
  | k + 1, i, t, p, hi, hk, hV, hb => by
    rw [regex_Expr_compile.l0]
    by_cases hlt : i < x1.parts.length
    · rw [if_pos (by omega), lat_nat, List.getElem?_eq_getElem hlt]
      simp only [Option.bind_some]
      have hd := wts_drop (l := x1.parts) (i := i) (x := x1.parts[i]) (by simp [hlt])
      have hmem : x1.parts[i] ∈ x1.parts := List.getElem_mem hlt
      have hle := wt_mem hmem
      have hp1 := wt_pos x1.parts[i]
      obtain ⟨q, e, h1, h2, h3⟩ := ih x1.parts[i] j (hw _ hmem) (by omega) k ⟨t.kind, t.parts, t.spans, t.not⟩ p (by omega) hV (by omega)
      rw [e]
      simp only [Option.bind_some]
      rw [i64_id (by omega) (by omega), show ((i : Int) + 1) = ((i + 1 : Nat) : Int) by omega]
      obtain ⟨q2, e2, h4, h5, h6⟩ := comp_l0 ih x1 hw hn hlen k (i + 1) t q (by omega) (by omega) h1 (by omega)
      exact ⟨q2, e2, h4, by omega, by omega⟩
    · rw [if_neg (by omega)]
      exact ⟨p, rfl, hV, Nat.le_refl _, by omega⟩
theorem ch_l1 (js : List Int) : ∀ (k i : Nat) (p : List T_regex_step), i ≤ js.length → js.length < k + i → (∀ j ∈ js, 0 ≤ j ∧ j < p.length) → V p → p.length ≤ 1000000 → js.length ≤ 1000000 →
    ∃ q, regex_Expr_choices.l1 k js (i : Int) p = some q ∧ V q ∧ q.length = p.length
  | 0, _, _, _, h, _, _, _, _ => by omega
  | k + 1, i, p, hi, hk, hj, hV, hb, hb2 => by
    rw [regex_Expr_choices.l1]
    by_cases hlt : i < js.length
    · rw [if_pos (by omega), lat_nat, List.getElem?_eq_getElem hlt]
      simp only [Option.bind_some]
      obtain ⟨h0, h1⟩ := hj js[i] (List.getElem_mem hlt)
      obtain ⟨s, e, hs⟩ := hV.get h0 h1
      rw [e]
      simp only [Option.bind_some]
      rw [i64_id (by omega) (by omega), show ((i : Int) + 1) = ((i + 1 : Nat) : Int) by omega]
      have hV' : V (p.set (js[i]).toNat ⟨s.op, s.spans, s.all, s.not, ((p.length : Int), (p.length : Int))⟩) := hV.set _ ⟨hs.1, ⟨Int.natCast_nonneg _, by show (p.length : Int) ≤ _; omega⟩, ⟨Int.natCast_nonneg _, by show (p.length : Int) ≤ _; omega⟩⟩
      obtain ⟨q, e2, h2, h3⟩ := ch_l1 js k (i + 1) _ (by omega) (by omega) (fun j hjm => by rw [List.length_set]; exact hj j hjm) hV' (by rw [List.length_set]; exact hb) hb2
      exact ⟨q, e2, h2, by rw [h3, List.length_set]⟩
    · rw [if_neg (by omega)]
      exact ⟨p, rfl, hV, rfl⟩
theorem ch_l0 {n : Nat} (ih : CompAll n) (x1 : List T_regex_piece) (hw : ∀ y ∈ x1, WF 1 y) (hn : wts x1 ≤ n) (hlen : x1.length ≤ 1000000) :
    ∀ (k i : Nat) (js : List Int) (t : T_regex_piece) (p : List T_regex_step), i < x1.length → 4 * wts (x1.drop i) + 1 ≤ k → V p → p.length + 4 * wts (x1.drop i) ≤ 1000000 → (∀ j ∈ js, 0 ≤ j ∧ j < p.length) → js.length ≤ i →
      ∃ js' q, regex_Expr_choices.l0 k x1 js (i : Int) t.kind t.parts t.spans t.not p = some (js', t.kind, t.parts, t.spans, t.not, q) ∧ V q ∧ p.length ≤ q.length ∧ q.length ≤ p.length + 4 * wts (x1.drop i) ∧ (∀ j ∈ js', 0 ≤ j ∧ j < q.length) ∧ js'.length ≤ x1.length
  | 0, _, _, _, _, _, h, _, _, _, _ => by omega
  | k + 1, i, js, t, p, hi, hk, hV, hb, hj, hjl => by
    rw [regex_Expr_choices.l0, if_pos (by omega), lat_nat, List.getElem?_eq_getElem hi]
    simp only [Option.bind_some]
    have hd := wts_drop (l := x1) (i := i) (x := x1[i]) (by simp [hi])
    have hmem : x1[i] ∈ x1 := List.getElem_mem hi
    have hle := wt_mem hmem
    have hp1 := wt_pos x1[i]
    have hxl := wts_len (x1.drop i)
    rw [List.length_drop] at hxl
    have hxl2 := wts_len (x1.drop (i + 1))
    rw [List.length_drop] at hxl2
    rw [i64_id (by omega) (by omega)]
    by_cases hlast : (i : Int) = (x1.length : Int) - 1
    · rw [if_pos hlast]
      obtain ⟨q, e, h1, h2, h3⟩ := ih x1[i] 1 (hw _ hmem) (by omega) k ⟨t.kind, t.parts, t.spans, t.not⟩ p (by omega) hV (by omega)
      rw [e]
      exact ⟨js, q, rfl, h1, h2, by omega, fun j hjm => by have := hj j hjm; omega, by omega⟩
    · rw [if_neg hlast, put_ok _ (by omega)]
      simp only [Option.bind_some]
      have hV1 : V (p ++ [⟨1, [], false, false, (0, 0)⟩]) := hV.app ⟨⟨.inr (.inl rfl), Nat.zero_le _⟩, ⟨Int.le_refl _, Int.natCast_nonneg _⟩, ⟨Int.le_refl _, Int.natCast_nonneg _⟩⟩
      obtain ⟨s, e, hs⟩ := hV1.get (i := (p.length : Int)) (by omega) (by simp <;> omega)
      rw [e]
      simp only [Option.bind_some]
      have hV2 : V ((p ++ [(⟨1, [], false, false, (0, 0)⟩ : T_regex_step)]).set (p.length : Int).toNat ⟨s.op, s.spans, s.all, s.not, (((p ++ [(⟨1, [], false, false, (0, 0)⟩ : T_regex_step)]).length : Int), s.to_.2)⟩) :=
        hV1.set _ ⟨hs.1, ⟨Int.natCast_nonneg _, by show (((p ++ [_]).length : Nat) : Int) ≤ _; omega⟩, hs.2.2⟩
      obtain ⟨q, e1, h1, h2, h3⟩ := ih x1[i] 1 (hw _ hmem) (by omega) k ⟨t.kind, t.parts, t.spans, t.not⟩ _ (by omega) hV2 (by simp <;> omega)
      rw [List.length_set, List.length_append, List.length_singleton] at h2 h3
      rw [e1]
      simp only [Option.bind_some]
      rw [put_ok _ (by omega)]
      simp only [Option.bind_some]
      have hja : Sp.app 8 js [(q.length : Int)] = some (js ++ [(q.length : Int)]) := app_small (by simp <;> omega) (by decide)
      rw [hja]
      simp only [Option.bind_some]
      have hV3 : V (q ++ [⟨1, [], false, false, (0, 0)⟩]) := h1.app ⟨⟨.inr (.inl rfl), Nat.zero_le _⟩, ⟨Int.le_refl _, Int.natCast_nonneg _⟩, ⟨Int.le_refl _, Int.natCast_nonneg _⟩⟩
      obtain ⟨s2, e2, hs2⟩ := hV3.get (i := (p.length : Int)) (by omega) (by simp <;> omega)
      rw [e2]
      simp only [Option.bind_some]
      have hV4 : V ((q ++ [(⟨1, [], false, false, (0, 0)⟩ : T_regex_step)]).set (p.length : Int).toNat ⟨s2.op, s2.spans, s2.all, s2.not, (s2.to_.1, ((q ++ [(⟨1, [], false, false, (0, 0)⟩ : T_regex_step)]).length : Int))⟩) :=
        hV3.set _ ⟨hs2.1, hs2.2.1, ⟨Int.natCast_nonneg _, by show (((q ++ [_]).length : Nat) : Int) ≤ _; omega⟩⟩
      rw [i64_id (by omega) (by omega), show ((i : Int) + 1) = ((i + 1 : Nat) : Int) by omega]
      obtain ⟨js', q2, e3, h4, h5, h6, h7, h8⟩ := ch_l0 ih x1 hw hn hlen k (i + 1) (js ++ [(q.length : Int)]) ⟨t.kind, t.parts, t.spans, t.not⟩ _ (by omega) (by omega) hV4 (by simp <;> omega) (fun j hjm => by
        rw [List.length_set, List.length_append, List.length_singleton]
        rcases List.mem_append.1 hjm with hjm | hjm
        · have := hj j hjm; omega
        · simp at hjm; subst hjm; omega) (by simp <;> omega)
      rw [List.length_set, List.length_append, List.length_singleton] at h5 h6
      exact ⟨js', q2, e3, h4, by omega, by omega, h7, h8⟩
theorem ch_ok {n : Nat} (ih : CompAll n) {x1 : List T_regex_piece} (hne : x1 ≠ []) (hw : ∀ y ∈ x1, WF 1 y) (hn : wts x1 ≤ n) {k : Nat} {t : T_regex_piece} {p : List T_regex_step} (hk : 4 * wts x1 + 2 ≤ k) (hV : V p) (hb : p.length + 4 * wts x1 ≤ 1000000) :
    ∃ q, regex_Expr_choices.f k ⟨t, p⟩ x1 = some ⟨t, q⟩ ∧ V q ∧ p.length ≤ q.length ∧ q.length ≤ p.length + 4 * wts x1 := by
  cases k with
  | zero => omega
  | succ k =>
    rw [regex_Expr_choices.f]
    have hl : 0 < x1.length := List.length_pos_iff.2 hne
    have hxl := wts_len x1
    obtain ⟨js, q, e, h1, h2, h3, h4, h5⟩ := ch_l0 ih x1 hw hn (by omega) k 0 [] t p hl (by simp <;> omega) hV (by simpa using hb) (fun _ h => by cases h) (Nat.le_refl _)
    rw [List.drop_zero] at h3
    rw [show ((0 : Nat) : Int) = 0 from rfl] at e
    rw [e]
    simp only [Option.bind_some]
    obtain ⟨q2, e2, h6, h7⟩ := ch_l1 js k 0 q (Nat.zero_le _) (by omega) h4 h1 (by omega) (by omega)
    rw [show ((0 : Nat) : Int) = 0 from rfl] at e2
    rw [e2]
    refine ⟨q2, ?_, h6, by omega, by omega⟩
    simp only [Option.bind_some, peta]
theorem comp_n (n : Nat) (ih : CompAll n) : CompAll (n + 1) := by
  intro x j hx hn k t p hk hV hb
  have hp1 := wt_pos x
  cases k with
  | zero => omega
  | succ k =>
    rw [regex_Expr_compile.f]
    have put1 : ∀ (s : T_regex_step), stepOk (p.length + 1) s → Comp t p (wt x) ((regex_Expr_put.f k ⟨t, p⟩ s).bind fun y => some y.2) := by
      intro s hs
      rw [put_ok s (by omega)]
      exact ⟨_, rfl, hV.app hs, by simp, by simp <;> omega⟩
    have z : (0 : Int) ≤ ((p.length + 1 : Nat) : Int) := by omega
    cases hx with
    | num h => exact put1 _ ⟨⟨.inl rfl, by simp⟩, ⟨Int.le_refl _, z⟩, ⟨Int.le_refl _, z⟩⟩
    | any => exact put1 _ ⟨⟨.inl rfl, Nat.zero_le _⟩, ⟨Int.le_refl _, z⟩, ⟨Int.le_refl _, z⟩⟩
    | start => exact put1 _ ⟨⟨.inr (.inr (.inl rfl)), Nat.zero_le _⟩, ⟨Int.le_refl _, z⟩, ⟨Int.le_refl _, z⟩⟩
    | stop => exact put1 _ ⟨⟨.inr (.inr (.inr rfl)), Nat.zero_le _⟩, ⟨Int.le_refl _, z⟩, ⟨Int.le_refl _, z⟩⟩
    | @set ss _ h1 h2 => exact put1 _ ⟨⟨.inl rfl, by simp only [wt, wts] at hb; show ss.length ≤ _; omega⟩, ⟨Int.le_refl _, z⟩, ⟨Int.le_refl _, z⟩⟩
    | par h =>
      cases h with
      | choice hne hw =>
        rename_i ps
        simp only [wt, List.length_nil] at hn hk hb ⊢
        obtain ⟨q, e, h1, h2, h3⟩ := ch_ok ih hne hw (by omega) (k := k) (t := t) (p := p) (by omega) hV (by omega)
        have h01 : ¬ (1 : Int) = 0 := by decide
        simp only [if_neg h01, if_true, e, Option.bind_some]
        exact ⟨q, rfl, h1, h2, by omega⟩
    | choice hne hw =>
      rename_i ps
      simp only [wt, List.length_nil] at hn hk hb ⊢
      obtain ⟨q, e, h1, h2, h3⟩ := ch_ok ih hne hw (by omega) (k := k) (t := t) (p := p) (by omega) hV (by omega)
      have h01 : ¬ (1 : Int) = 0 := by decide
      simp only [if_neg h01, if_true, e, Option.bind_some]
      exact ⟨q, rfl, h1, h2, by omega⟩
    | row hw =>
      rename_i ps
      simp only [wt, List.length_nil] at hn hk hb ⊢
      obtain ⟨q, e, h1, h2, h3⟩ := comp_l0 ih ⟨0, ps, [], false⟩ hw (by show wts ps ≤ n; omega) (by have := wts_len ps; show ps.length ≤ _; omega) k 0 t p (Nat.zero_le _) (by show 4 * wts (ps.drop 0) + 1 ≤ k; rw [List.drop_zero]; omega) hV (by show p.length + 4 * wts (ps.drop 0) ≤ _; rw [List.drop_zero]; omega)
      rw [show ((0 : Nat) : Int) = 0 from rfl] at e
      simp only [if_true, e, Option.bind_some]
      have h3' : q.length ≤ p.length + 4 * wts ps := by simpa using h3
      exact ⟨q, by simp only [peta], h1, h2, by omega⟩
    | rep hkk hq =>
      rename_i c r
      simp only [wt, wts, List.length_nil] at hn hk hb ⊢
      have hr1 := wt_pos r
      have hsp : ∀ q : List T_regex_step, stepOk (q.length + 1) ⟨1, [], false, false, (0, 0)⟩ := fun q => ⟨⟨.inr (.inl rfl), Nat.zero_le _⟩, ⟨Int.le_refl _, Int.natCast_nonneg _⟩, ⟨Int.le_refl _, Int.natCast_nonneg _⟩⟩
      have hl0 : lat [r] 0 = some r := rfl
      by_cases h8 : c = 8
      · subst h8
        obtain ⟨q, e, h1, h2, h3⟩ := ih r 0 hq (by omega) k t p (by omega) hV (by omega)
        have f0 : ¬ (8 : Int) = 0 := by decide
        have f1 : ¬ (8 : Int) = 1 := by decide
        have f2 : ¬ (8 : Int) = 2 := by decide
        have f3 : ¬ (8 : Int) = 3 := by decide
        have f5 : ¬ (8 : Int) = 5 := by decide
        have f6 : ¬ (8 : Int) = 6 := by decide
        have f4 : ((8 : Int) == 4) = false := by decide
        simp only [if_neg f0, if_neg f1, if_neg f2, if_neg f3, if_neg f5, if_neg f6, f4, Option.bind_some, Bool.false_eq_true, if_false, if_true, hl0, e]
        rw [put_ok _ (by omega)]
        simp only [Option.bind_some]
        have hV1 : V (q ++ [⟨1, [], false, false, (0, 0)⟩]) := h1.app (hsp q)
        obtain ⟨s, e2, hs⟩ := hV1.get (i := (q.length : Int)) (by omega) (by simp <;> omega)
        rw [e2]
        refine ⟨_, rfl, hV1.set _ ⟨hs.1, ⟨Int.natCast_nonneg _, by show (p.length : Int) ≤ _; simp; omega⟩, ⟨Int.natCast_nonneg _, by show (((q ++ [_]).length : Nat) : Int) ≤ _; omega⟩⟩, by simp <;> omega, by simp <;> omega⟩
      · have hc79 : c = 7 ∨ c = 9 := by omega
        have f0 : ¬ c = 0 := by omega
        have f1 : ¬ c = 1 := by omega
        have f2 : ¬ c = 2 := by omega
        have f3 : ¬ c = 3 := by omega
        have f5 : ¬ c = 5 := by omega
        have f6 : ¬ c = 6 := by omega
        have f4 : (c == 4) = false := by simp <;> omega
        simp only [if_neg f0, if_neg f1, if_neg f2, if_neg f3, if_neg f5, if_neg f6, if_neg h8, f4, Option.bind_some, Bool.false_eq_true, if_false]
        rw [put_ok _ (by omega)]
        simp only [Option.bind_some]
        have hV1 : V (p ++ [⟨1, [], false, false, (0, 0)⟩]) := hV.app (hsp p)
        obtain ⟨s, e2, hs⟩ := hV1.get (i := (p.length : Int)) (by omega) (by simp <;> omega)
        rw [e2]
        simp only [Option.bind_some, hl0]
        have hV2 : V ((p ++ [(⟨1, [], false, false, (0, 0)⟩ : T_regex_step)]).set (p.length : Int).toNat ⟨s.op, s.spans, s.all, s.not, (((p ++ [(⟨1, [], false, false, (0, 0)⟩ : T_regex_step)]).length : Int), s.to_.2)⟩) :=
          hV1.set _ ⟨hs.1, ⟨Int.natCast_nonneg _, by show (((p ++ [_]).length : Nat) : Int) ≤ _; omega⟩, hs.2.2⟩
        obtain ⟨q, e, h1, h2, h3⟩ := ih r 0 hq (by omega) k t _ (by omega) hV2 (by simp <;> omega)
        rw [List.length_set, List.length_append, List.length_singleton] at h2 h3
        rw [e]
        simp only [Option.bind_some]
        have fin : ∀ q2 : List T_regex_step, V q2 → p.length + 1 ≤ q2.length → q2.length ≤ q.length + 1 → Comp t p (1 + (wt r + 0) + 0) ((lat q2 (p.length : Int)).bind fun y168 => some ⟨⟨t.kind, t.parts, t.spans, t.not⟩, q2.set (p.length : Int).toNat ⟨y168.op, y168.spans, y168.all, y168.not, (y168.to_.1, (q2.length : Int))⟩⟩) := by
          intro q2 hV3 hl1 hl2
          obtain ⟨s3, e3, hs3⟩ := hV3.get (i := (p.length : Int)) (by omega) (by omega)
          rw [e3]
          simp only [Option.bind_some, peta]
          exact ⟨_, rfl, hV3.set _ ⟨hs3.1, hs3.2.1, ⟨Int.natCast_nonneg _, Int.le_refl _⟩⟩, by simp <;> omega, by simp <;> omega⟩
        by_cases h7 : c = 7
        · rw [if_pos h7, put_ok _ (by omega)]
          simp only [Option.bind_some]
          have hV5 : V (q ++ [⟨1, [], false, false, (0, 0)⟩]) := h1.app (hsp q)
          obtain ⟨s5, e5, hs5⟩ := hV5.get (i := (q.length : Int)) (by omega) (by simp <;> omega)
          rw [e5]
          simp only [Option.bind_some]
          exact fin _ (hV5.set _ ⟨hs5.1, ⟨Int.natCast_nonneg _, by show (p.length : Int) ≤ _; simp; omega⟩, ⟨Int.natCast_nonneg _, by show (p.length : Int) ≤ _; simp; omega⟩⟩) (by simp <;> omega) (by simp)
        · rw [if_neg h7]
          simp only [Option.bind_some]
          exact fin q h1 (by omega) (by omega)
theorem comp_all : ∀ n, CompAll n
  | 0 => fun x _ _ h => by have := wt_pos x; omega
  | n + 1 => comp_n n (comp_all n)
theorem comp_ok {x : T_regex_piece} {j : Nat} (hx : WF j x) {k : Nat} {t : T_regex_piece} {p : List T_regex_step} (hk : 4 * wt x ≤ k) (hV : V p) (hb : p.length + 4 * wt x ≤ 1000000) : Comp t p (wt x) (regex_Expr_compile.f k ⟨t, p⟩ x) :=
  comp_all _ x j hx (Nat.le_refl _) k t p hk hV hb
end Go.Proofs.YtkkflfmonidepaaDoor
namespace Go.Proofs.YtkkflfmonidepaaDoor
open Sp
set_option maxRecDepth 100000
set_option maxHeartbeats 4000000
def lastStep : T_regex_step := ⟨4, [], false, false, (0, 0)⟩
def Val (p : List T_regex_step) : Prop := (∃ q, V q ∧ p = q ++ [lastStep]) ∧ p.length ≤ 1000000
theorem Val.at {p : List T_regex_step} (h : Val p) {i : Int} (h0 : 0 ≤ i) (h1 : i < p.length) :
    ∃ s, lat p i = some s ∧ (s.op = 1 → (0 ≤ s.to_.1 ∧ s.to_.1 < p.length) ∧ (0 ≤ s.to_.2 ∧ s.to_.2 < p.length)) ∧ (s.op = 0 ∨ s.op = 2 ∨ s.op = 3 → i + 1 < p.length) := by
  obtain ⟨⟨q, hV, rfl⟩, _⟩ := h
  have hl : (q ++ [lastStep]).length = q.length + 1 := by simp
  rw [hl] at h1 ⊢
  by_cases hi : i < q.length
  · obtain ⟨s, e, hs⟩ := hV.get h0 hi
    refine ⟨s, ?_, fun _ => ⟨⟨hs.2.1.1, by have := hs.2.1.2; omega⟩, ⟨hs.2.2.1, by have := hs.2.2.2; omega⟩⟩, fun _ => by omega⟩
    unfold lat at e ⊢
    rw [if_pos h0] at e ⊢
    rw [List.getElem?_append_left (by omega)]
    exact e
  · refine ⟨lastStep, ?_, fun h => absurd h (by decide), fun h => absurd h (by decide)⟩
    unfold lat
    rw [if_pos h0, List.getElem?_append_right (by omega), show i.toNat - q.length = 0 by omega]
    rfl
theorem Val.spans {p : List T_regex_step} (h : Val p) : ∀ s ∈ p, s.spans.length ≤ 1000000 := by
  obtain ⟨⟨q, hV, rfl⟩, _⟩ := h
  intro s hs
  rcases List.mem_append.1 hs with hs | hs
  · exact (hV s hs).1.2
  · simp at hs; subst hs; exact Nat.zero_le _
theorem Val.pos {p : List T_regex_step} (h : Val p) : 0 < p.length := by
  obtain ⟨⟨q, _, rfl⟩, _⟩ := h
  simp
def cf : List Bool → Nat
  | [] => 0
  | b :: l => (if b then 0 else 1) + cf l
theorem cf_set : ∀ {l : List Bool} {i : Nat}, l[i]? = some false → cf (l.set i true) + 1 = cf l
  | [], _, h => by simp at h
  | b :: l, 0, h => by
    simp at h; subst h
    simp [cf]; omega
  | b :: l, i + 1, h => by
    simp only [List.getElem?_cons_succ] at h
    have := cf_set h
    simp only [List.set_cons_succ, cf]
    omega
theorem cf_le : ∀ l : List Bool, cf l ≤ l.length
  | [] => Nat.le_refl _
  | b :: l => by simp only [cf, List.length_cons]; have := cf_le l; split <;> omega
theorem add_ok (e : T_regex_Expr) (hV : Val e.prog) (i n : Int) : ∀ (k : Nat) (set : List Bool) (a : Int), set.length = e.prog.length → 0 ≤ a → a < e.prog.length → cf set < k →
    ∃ s', regex_Expr_add.f k (some e) set a i n = some s' ∧ s'.length = set.length ∧ cf s' ≤ cf set
  | 0, _, _, _, _, _, h => by omega
  | k + 1, set, a, hl, h0, h1, hk => by
    rw [regex_Expr_add.f]
    obtain ⟨b, eb, eb2⟩ := lat_lt (l := set) h0 (by omega)
    rw [eb]
    simp only [Option.bind_some]
    have hlen : e.prog.length ≤ 1000000 := hV.2
    by_cases hb : b = true
    · rw [if_pos hb]
      exact ⟨set, rfl, rfl, Nat.le_refl _⟩
    · rw [if_neg hb]
      obtain ⟨s, es, hs1, hs2⟩ := hV.at h0 h1
      rw [es]
      simp only [Option.bind_some]
      have hbf : set[a.toNat]? = some false := by rw [eb2]; simpa using hb
      have hc := cf_set hbf
      have hl1 : (set.set a.toNat true).length = e.prog.length := by rw [List.length_set]; exact hl
      split
      · rename_i ho
        obtain ⟨⟨t1, t2⟩, t3, t4⟩ := hs1 ho
        obtain ⟨s1, e1, l1, c1'⟩ := add_ok e hV i n k (set.set a.toNat true) s.to_.1 hl1 t1 t2 (by omega)
        rw [e1]
        simp only [Option.bind_some]
        obtain ⟨s2, e2, l2, c2⟩ := add_ok e hV i n k s1 s.to_.2 (by rw [l1]; exact hl1) t3 t4 (by omega)
        rw [e2]
        exact ⟨s2, rfl, by rw [l2, l1, List.length_set], by omega⟩
      · have self : ∃ s', (some (set.set a.toNat true) : Option (List Bool)) = some s' ∧ s'.length = set.length ∧ cf s' ≤ cf set := ⟨_, rfl, List.length_set .., by omega⟩
        have go : (s.op = 0 ∨ s.op = 2 ∨ s.op = 3) → ∃ s', ((regex_Expr_add.f k (some e) (set.set a.toNat true) (i64 (a + 1)) i n).bind fun y => some y) = some s' ∧ s'.length = set.length ∧ cf s' ≤ cf set := by
          intro ho
          have := hs2 ho
          rw [i64_id (by omega) (by omega)]
          obtain ⟨s1, e1, l1, c1'⟩ := add_ok e hV i n k (set.set a.toNat true) (a + 1) hl1 (by omega) this (by omega)
          rw [e1]
          exact ⟨s1, rfl, by rw [l1, List.length_set], by omega⟩
        split
        · rename_i ho
          split
          · exact go (.inr (.inl ho))
          · exact self
        · split
          · rename_i ho
            split
            · exact go (.inr (.inr ho))
            · exact self
          · exact self
theorem takes_l0 (s : T_regex_step) (n : Int) (hb : s.spans.length ≤ 1000000000) : ∀ (k j : Nat), j ≤ s.spans.length → s.spans.length < k + j → ∃ r, regex_step_takes.l0 k s n (j : Int) = some r
  | 0, _, _, h => by omega
  | k + 1, j, hj, hk => by
    rw [regex_step_takes.l0]
    by_cases hlt : j < s.spans.length
    · rw [if_pos (by omega), lat_nat, List.getElem?_eq_getElem hlt]
      simp only [Option.bind_some]
      rw [i64_id (by omega) (by omega), show ((j : Int) + 1) = ((j + 1 : Nat) : Int) by omega]
      obtain ⟨r, e⟩ := takes_l0 s n hb k (j + 1) (by omega) (by omega)
      split
      · split
        · exact ⟨_, rfl⟩
        · exact ⟨r, e⟩
      · exact ⟨r, e⟩
    · rw [if_neg (by omega)]
      exact ⟨_, rfl⟩
theorem takes_ok {k : Nat} {s : T_regex_step} {n : Int} (hb : s.spans.length ≤ 1000000000) (hk : s.spans.length < k) : ∃ r, regex_step_takes.f k s n = some r := by
  rw [regex_step_takes.f]
  split
  · exact ⟨_, rfl⟩
  · obtain ⟨r, e⟩ := takes_l0 s n hb k 0 (Nat.zero_le _) (by omega)
    rw [show ((0 : Nat) : Int) = 0 from rfl] at e
    rw [e]
    cases r <;> exact ⟨_, rfl⟩
theorem match_l1 (e : T_regex_Expr) (hV : Val e.prog) (hsp : ∀ s ∈ e.prog, s.spans.length ≤ 1000000) (l : List Int) (i : Nat) (hi : i < l.length) (hll : l.length ≤ 1000000) (set : List Bool) (hset : set.length = e.prog.length) :
    ∀ (k j : Nat) (nx : List Bool), j ≤ set.length → set.length + 1000000 + 10 + e.prog.length < k + j → nx.length = e.prog.length →
      ∃ r, regex_Expr_Match.l1 k (some e) l e (i : Int) set nx (j : Int) = some r ∧ r.length = e.prog.length
  | 0, j, _, hj, h, _ => by omega
  | k + 1, j, nx, hj, hk, hn => by
    have hlen : e.prog.length ≤ 1000000 := hV.2
    rw [regex_Expr_Match.l1]
    by_cases hlt : j < set.length
    · rw [if_pos (by omega), lat_nat, List.getElem?_eq_getElem hlt]
      simp only [Option.bind_some]
      rw [i64_id (n := (j : Int) + 1) (by omega) (by omega), show ((j : Int) + 1) = ((j + 1 : Nat) : Int) by omega]
      have go : ∀ nx' : List Bool, nx'.length = e.prog.length → ∃ r, regex_Expr_Match.l1 k (some e) l e (i : Int) set nx' ((j + 1 : Nat) : Int) = some r ∧ r.length = e.prog.length := fun nx' h => match_l1 e hV hsp l i hi hll set hset k (j + 1) nx' (by omega) (by omega) h
      split
      · obtain ⟨s, es, hs1, hs2⟩ := hV.at (i := (j : Int)) (by omega) (by omega)
        rw [es]
        simp only [Option.bind_some]
        split
        · rename_i ho
          rw [lat_nat, List.getElem?_eq_getElem hi]
          simp only [Option.bind_some]
          have hsm : s ∈ e.prog := by
            have := (lat_ok es).2.2
            exact List.mem_of_getElem? this
          obtain ⟨b, eb⟩ := takes_ok (k := k) (s := s) (n := l[i]) (by have := hsp s hsm; omega) (by have := hsp s hsm; omega)
          rw [eb]
          simp only [Option.bind_some]
          split
          · have hj1 := hs2 (.inl ho)
            obtain ⟨nx', e1, h1, _⟩ := add_ok e hV (i64 ((i : Int) + 1)) (l.length : Int) k nx ((j + 1 : Nat) : Int) hn (by omega) (by omega) (by have := cf_le nx; omega)
            rw [e1]
            exact go nx' (by rw [h1, hn])
          · exact go nx hn
        · exact go nx hn
      · exact go nx hn
    · rw [if_neg (by omega)]
      exact ⟨nx, rfl, hn⟩
theorem made_ok (n : Nat) (h : n ≤ 1000000) : made 1 false (n : Int) = some (List.replicate n false) := by
  unfold made
  rw [if_pos]
  · simp
  · refine ⟨by omega, by omega, ?_⟩
    unfold Go.maxLen; omega
theorem match_l0 (e : T_regex_Expr) (hV : Val e.prog) (hsp : ∀ s ∈ e.prog, s.spans.length ≤ 1000000) (l : List Int) (hll : l.length ≤ 1000000) :
    ∀ (k i : Nat) (set : List Bool), i ≤ l.length → l.length + 2000000 + 10 + e.prog.length < k + i → set.length = e.prog.length → ∃ b, regex_Expr_Match.l0 k (some e) l e set (i : Int) = some (.inl b)
  | 0, _, _, _, h, _ => by omega
  | k + 1, i, set, hi, hk, hs => by
    have hlen : e.prog.length ≤ 1000000 := hV.2
    have hpos := hV.pos
    rw [regex_Expr_Match.l0]
    obtain ⟨s1, e1, h1, _⟩ := add_ok e hV (i : Int) (l.length : Int) k set 0 hs (Int.le_refl _) (by omega) (by have := cf_le set; omega)
    rw [e1]
    simp only [Option.bind_some]
    rw [i64_id (n := (e.prog.length : Int) - 1) (by omega) (by omega)]
    obtain ⟨b, eb, _⟩ := lat_lt (l := s1) (j := (e.prog.length : Int) - 1) (by omega) (by omega)
    rw [eb]
    simp only [Option.bind_some]
    split
    · exact ⟨_, rfl⟩
    · split
      · exact ⟨_, rfl⟩
      · rename_i hne
        rw [made_ok _ hlen]
        simp only [Option.bind_some]
        obtain ⟨nx, e2, h2⟩ := match_l1 e hV hsp l i (by omega) hll s1 (by rw [h1, hs]) k 0 (List.replicate e.prog.length false) (Nat.zero_le _) (by rw [h1, hs]; omega) (by simp)
        rw [show ((0 : Nat) : Int) = 0 from rfl] at e2
        rw [e2]
        simp only [Option.bind_some]
        rw [i64_id (by omega) (by omega), show ((i : Int) + 1) = ((i + 1 : Nat) : Int) by omega]
        exact match_l0 e hV hsp l hll k (i + 1) nx (by omega) (by omega) h2
theorem match_ok {k : Nat} (e : T_regex_Expr) (hV : Val e.prog) (hsp : ∀ s ∈ e.prog, s.spans.length ≤ 1000000) (l : List Int) (hll : l.length ≤ 1000000) (hk : 5000000 ≤ k) : ∃ b, regex_Expr_Match.f k (some e) l = some b := by
  have hlen : e.prog.length ≤ 1000000 := hV.2
  have hpos := hV.pos
  rw [regex_Expr_Match.f]
  simp only [Option.isNone_some, Bool.false_eq_true, if_false, Option.bind_some]
  rw [if_neg (by omega), made_ok _ hlen]
  simp only [Option.bind_some]
  obtain ⟨b, eb⟩ := match_l0 e hV hsp l hll k 0 (List.replicate e.prog.length false) (Nat.zero_le _) (by omega) (by simp)
  rw [show ((0 : Nat) : Int) = 0 from rfl] at eb
  rw [eb]
  exact ⟨b, rfl⟩
end Go.Proofs.YtkkflfmonidepaaDoor
namespace Go.Proofs.YtkkflfmonidepaaDoor
open Sp
set_option maxRecDepth 100000
set_option maxHeartbeats 4000000
abbrev B (l : List UInt8) : ByteArray := ⟨l.toArray⟩
def dec (n : Nat) : List UInt8 := if n < 10 then [UInt8.ofNat (48 + n)] else dec (n / 10) ++ [UInt8.ofNat (48 + n % 10)]
termination_by n
decreasing_by omega
def ints (l : List UInt8) : List Int := l.map fun c => (c.toNat : Int)
theorem ofB_go : ∀ (l : List UInt8) (a : ByteArray), (ints l).foldl (fun r n => r.push (UInt8.ofNat n.toNat)) a = ⟨a.data ++ l.toArray⟩
  | [], a => by simp [ints]
  | c :: l, a => by
    simp only [ints, List.map_cons, List.foldl_cons]
    have h := ofB_go l (a.push (UInt8.ofNat ((c.toNat : Int)).toNat))
    rw [ints] at h
    rw [h]
    have hc : UInt8.ofNat ((c.toNat : Int)).toNat = c := by simp
    rw [hc]
    congr 1
    simp [ByteArray.push]
theorem ofB_ints (l : List UInt8) : ofB (ints l) = B l := by
  unfold ofB
  rw [ofB_go]
  congr 1
  show #[] ++ l.toArray = l.toArray
  simp
theorem dec_len : ∀ (m n : Nat), n < 10 ^ (m + 1) → (dec n).length ≤ m + 1
  | 0, n, h => by
    rw [dec, if_pos (by simpa using h)]
    simp
  | m + 1, n, h => by
    rw [dec]
    split
    · simp
    · have := dec_len m (n / 10) (by rw [Nat.pow_succ] at h; omega)
      simp; omega
theorem dec_pos (n : Nat) : 0 < (dec n).length := by
  rw [dec]; split <;> simp
theorem digs_at : ∀ d : Nat, d < 10 → lat digs (d : Int) = some (48 + d : Int) := by
  have h : ∀ d : Fin 10, lat digs ((d.val : Nat) : Int) = some (48 + (d.val : Nat) : Int) := by decide
  intro d hd
  exact h ⟨d, hd⟩
theorem u8_dig (d : Nat) (h : d < 10) : ((UInt8.ofNat (48 + d)).toNat : Int) = 48 + d := by
  rw [UInt8.toNat_ofNat']
  omega
theorem u64_id {n : Int} (h0 : 0 ≤ n) (h1 : n < 18446744073709551616) : u64 n = n := by
  unfold u64 Go.IntKind.wrap
  simp only [Go.IntKind.signed, Go.IntKind.bits]
  simp
  omega
theorem text_l0 : ∀ (k n i : Nat) (l : List Int), (dec n).length < k → n < 9223372036854775808 → l.length = 20 → (dec n).length ≤ i → i ≤ 20 →
    ∃ l', octet_Text.l0 k (n : Int) (i : Int) l = some (((i - (dec n).length : Nat) : Int), l') ∧ l'.length = 20 ∧ l'.drop (i - (dec n).length) = ints (dec n) ++ l.drop i
  | 0, _, _, _, h, _, _, _, _ => by omega
  | k + 1, n, i, l, hk, hn, hl, hd, hi => by
    rw [octet_Text.l0]
    have hp := dec_pos n
    have hm : ((n : Int).tmod 10) = ((n % 10 : Nat) : Int) := rfl
    have hq : ((n : Int).tdiv 10) = ((n / 10 : Nat) : Int) := rfl
    rw [hm, hq, digs_at (n % 10) (Nat.mod_lt n (by decide))]
    simp only [Option.bind_some]
    rw [i64_id (by omega) (by omega), show (i : Int) - 1 = ((i - 1 : Nat) : Int) by omega, lat_nat, List.getElem?_eq_getElem (by omega)]
    simp only [Option.bind_some]
    rw [u64_id (by omega) (by omega), Int.toNat_natCast]
    have hset : (l.set (i - 1) (48 + ((n % 10 : Nat) : Int))).drop (i - 1) = (48 + ((n % 10 : Nat) : Int)) :: l.drop i := by
      rw [List.drop_set, if_neg (by omega), Nat.sub_self, List.drop_eq_getElem_cons (show i - 1 < l.length by omega), List.set_cons_zero, show i - 1 + 1 = i by omega]
    by_cases hz : n / 10 = 0
    · rw [if_pos (by omega)]
      have hdec : dec n = [UInt8.ofNat (48 + n)] := by rw [dec, if_pos (by omega)]
      refine ⟨l.set (i - 1) (48 + ((n % 10 : Nat) : Int)), ?_, ?_, ?_⟩
      · rw [hdec]; rfl
      · rw [List.length_set]; exact hl
      · rw [hdec]
        simp only [List.length_singleton]
        rw [hset, show n % 10 = n by omega]
        simp only [ints, List.map_cons, List.map_nil, List.singleton_append]
        rw [u8_dig n (by omega)]
    · rw [if_neg (by omega)]
      have hdec : dec n = dec (n / 10) ++ [UInt8.ofNat (48 + n % 10)] := by rw [dec, if_neg (by omega)]
      have hlen : (dec n).length = (dec (n / 10)).length + 1 := by rw [hdec]; simp
      obtain ⟨l', e, h1, h2⟩ := text_l0 k (n / 10) (i - 1) (l.set (i - 1) (48 + ((n % 10 : Nat) : Int))) (by omega) (by omega) (by rw [List.length_set]; exact hl) (by omega) (by omega)
      refine ⟨l', ?_, h1, ?_⟩
      · rw [e, hlen]
        congr 3
        omega
      · rw [hlen, show i - ((dec (n / 10)).length + 1) = i - 1 - (dec (n / 10)).length by omega, h2, hset, hdec]
        simp only [ints, List.map_append, List.map_cons, List.map_nil, List.append_assoc, List.singleton_append]
        rw [u8_dig (n % 10) (Nat.mod_lt n (by decide))]
theorem text_ok {k n : Nat} (hk : 20 < k) (hn : n < 9223372036854775808) : octet_Text.f k (n : Int) = some (B (dec n)) := by
  have hd := dec_len 18 n (by omega)
  obtain ⟨l', e, h1, h2⟩ := text_l0 k n 20 [0, 0, 0, 0, 0, 0, 0, 0, 0, 0, 0, 0, 0, 0, 0, 0, 0, 0, 0, 0] (by omega) hn rfl (by omega) (Nat.le_refl _)
  rw [octet_Text.f, if_neg (by omega), u64_id (by omega) (by omega)]
  simp only [Option.bind_some]
  rw [show (20 : Int) = ((20 : Nat) : Int) from rfl, e]
  simp only [Option.bind_some]
  rw [if_neg (by omega)]
  have hc : cutL l' ((20 - (dec n).length : Nat) : Int) = some (ints (dec n)) := by
    unfold cutL
    rw [if_pos ⟨by omega, by omega⟩, Int.toNat_natCast, h2]
    simp
  rw [hc]
  simp only [Option.bind_some, ofB_ints]
theorem value_l0 (d : Nat) (hd : d < 10) : ∀ (k j : Nat), j ≤ d → 16 < k + j → octet_value.l0 k ((48 + d : Nat) : Int) (j : Int) = some (.inl (d : Int))
  | 0, j, hj, hk => by omega
  | k + 1, j, hj, hk => by
    rw [octet_value.l0, if_pos (by omega), digs_at j (by omega)]
    simp only [Option.bind_some]
    by_cases e : j = d
    · subst e
      rw [if_pos (by omega)]
      have : u8 (j : Int) = (j : Int) := by
        unfold u8 Go.IntKind.wrap
        simp only [Go.IntKind.signed, Go.IntKind.bits]
        simp
        omega
      rw [this]
    · rw [if_neg (by omega), i64_id (by omega) (by omega), show (j : Int) + 1 = ((j + 1 : Nat) : Int) by omega]
      exact value_l0 d hd k (j + 1) (by omega) (by omega)
theorem value_ok {k d : Nat} (hk : 16 < k) (hd : d < 10) : octet_value.f k ((48 + d : Nat) : Int) = some (d : Int) := by
  rw [octet_value.f]
  have h := value_l0 d hd k 0 (Nat.zero_le _) (by omega)
  rw [show ((0 : Nat) : Int) = 0 from rfl] at h
  rw [h]; rfl
def dig (c : UInt8) : Prop := 48 ≤ c.toNat ∧ c.toNat ≤ 57
def nv (a : Nat) (l : List UInt8) : Nat := l.foldl (fun a c => 10 * a + (c.toNat - 48)) a
theorem nv_le : ∀ (l : List UInt8) (a : Nat), a ≤ nv a l
  | [], a => Nat.le_refl _
  | c :: l, a => by
    have := nv_le l (10 * a + (c.toNat - 48))
    simp only [nv, List.foldl_cons] at this ⊢
    omega
theorem nv_dec (n : Nat) : nv 0 (dec n) = n := by
  induction n using Nat.strongRecOn with
  | ind n ih =>
    rw [dec]
    split
    · rename_i h
      simp only [nv, List.foldl_cons, List.foldl_nil]
      have := u8_dig n h
      omega
    · have h1 := ih (n / 10) (by omega)
      unfold nv at h1 ⊢
      rw [List.foldl_append, h1]
      simp only [List.foldl_cons, List.foldl_nil]
      have := u8_dig (n % 10) (Nat.mod_lt n (by decide))
      omega
theorem dec_dig (n : Nat) : ∀ c ∈ dec n, dig c := by
  induction n using Nat.strongRecOn with
  | ind n ih =>
    rw [dec]
    split
    · rename_i h
      intro c hc
      rw [List.mem_singleton] at hc; subst hc
      have := u8_dig n h
      unfold dig; omega
    · intro c hc
      rcases List.mem_append.1 hc with hc | hc
      · exact ih (n / 10) (by omega) c hc
      · rw [List.mem_singleton] at hc; subst hc
        have := u8_dig (n % 10) (Nat.mod_lt n (by decide))
        unfold dig; omega
theorem sat_B (l : List UInt8) (i : Nat) : sat (B l) (i : Int) = (l[i]?).map fun c => (c.toNat : Int) := by
  unfold sat
  rw [if_pos (by omega), Int.toNat_natCast]
  congr 1
  by_cases h : i < l.length
  · have h' : i < (B l).size := by simp [B, ByteArray.size, h]
    rw [getElem?_pos (B l) i h', List.getElem?_eq_getElem h]
    rfl
  · have h' : ¬ i < (B l).size := by simp [B, ByteArray.size]; omega
    rw [getElem?_neg (B l) i h', List.getElem?_eq_none (by omega)]
theorem int_l0 (l : List UInt8) (hd : ∀ c ∈ l, dig c) (hl : l.length ≤ 1000000) : ∀ (k a i : Nat), i ≤ l.length → l.length + 20 < k + i → a ≤ 42949672959 →
    (nv a (l.drop i) ≤ 4294967295 → octet_Int.l0 k (B l) (a : Int) (i : Int) = some (.inr ((nv a (l.drop i) : Nat) : Int))) ∧
    (octet_Int.l0 k (B l) (a : Int) (i : Int) = some (.inl (0, false)) ∨ ∃ m : Nat, m ≤ 42949672959 ∧ octet_Int.l0 k (B l) (a : Int) (i : Int) = some (.inr (m : Int)))
  | 0, _, _, h, h2, _ => by omega
  | k + 1, a, i, hi, hk, ha => by
    rw [octet_Int.l0]
    have hsz : (B l).size = l.length := by simp [B, ByteArray.size]
    rw [hsz]
    by_cases hlt : i < l.length
    · rw [if_pos (by omega), sat_B, List.getElem?_eq_getElem hlt]
      simp only [Option.map_some, Option.bind_some]
      obtain ⟨d1, d2⟩ := hd l[i] (List.getElem_mem hlt)
      rw [show ((l[i].toNat : Nat) : Int) = ((48 + (l[i].toNat - 48) : Nat) : Int) by omega, value_ok (by omega) (by omega)]
      simp only [Option.bind_some]
      rw [if_neg (by omega)]
      have hdr : l.drop i = l[i] :: l.drop (i + 1) := List.drop_eq_getElem_cons hlt
      have hnv : nv a (l.drop i) = nv (10 * a + (l[i].toNat - 48)) (l.drop (i + 1)) := by rw [hdr]; rfl
      rw [hnv]
      have hle := nv_le (l.drop (i + 1)) (10 * a + (l[i].toNat - 48))
      by_cases hbig : (a : Int) > 4294967295
      · rw [if_pos hbig]
        exact ⟨fun h => by omega, .inl rfl⟩
      · rw [if_neg hbig]
        rw [i64_id (n := 10 * (a : Int)) (by omega) (by omega), i64_id (n := (((l[i].toNat - 48 : Nat)) : Int)) (by omega) (by omega), i64_id (by omega) (by omega), i64_id (by omega) (by omega)]
        rw [show 10 * (a : Int) + ((l[i].toNat - 48 : Nat) : Int) = ((10 * a + (l[i].toNat - 48) : Nat) : Int) by omega, show (i : Int) + 1 = ((i + 1 : Nat) : Int) by omega]
        exact int_l0 l hd hl k (10 * a + (l[i].toNat - 48)) (i + 1) (by omega) (by omega) (by omega)
    · rw [if_neg (by omega)]
      have hdr : l.drop i = [] := List.drop_eq_nil_of_le (by omega)
      rw [hdr]
      exact ⟨fun _ => rfl, .inr ⟨a, ha, rfl⟩⟩
theorem B_inj {a b : List UInt8} (h : B a = B b) : a = b := by
  have := congrArg ByteArray.data h
  simpa [B] using this
theorem int_ok {k : Nat} {l : List UInt8} (hd : ∀ c ∈ l, dig c) (hne : l ≠ []) (hl : l.length ≤ 1000000) (hk : l.length + 30 < k) :
    ∃ n ok, octet_Int.f k (B l) = some (n, ok) ∧ (ok = true → ∃ m : Nat, n = m ∧ m ≤ 4294967295 ∧ l = dec m) := by
  obtain ⟨_, h⟩ := int_l0 l hd hl k 0 0 (Nat.zero_le _) (by omega) (by omega)
  rw [octet_Int.f]
  rw [show ((0 : Nat) : Int) = 0 from rfl] at h
  rcases h with h | ⟨m, hm, h⟩
  · rw [h]
    exact ⟨0, false, rfl, fun h => by cases h⟩
  · rw [h]
    simp only [Option.bind_some]
    have hne' : ¬ B l = ⟨#[]⟩ := fun e => hne (B_inj (b := []) e)
    rw [if_neg hne']
    by_cases hbig : (m : Int) > 4294967295
    · rw [if_pos hbig]
      exact ⟨0, false, rfl, fun h => by cases h⟩
    · rw [if_neg hbig, text_ok (by omega) (by omega)]
      simp only [Option.bind_some]
      by_cases he : B (dec m) = B l
      · rw [if_pos he]
        exact ⟨m, true, rfl, fun _ => ⟨m, rfl, by omega, (B_inj he).symm⟩⟩
      · rw [if_neg he]
        exact ⟨0, false, rfl, fun h => by cases h⟩
theorem int_dec {k n : Nat} (hn : n ≤ 4294967295) (hk : 100 < k) : octet_Int.f k (B (dec n)) = some ((n : Int), true) := by
  have hlen := dec_len 18 n (by omega)
  have hp := dec_pos n
  obtain ⟨h, _⟩ := int_l0 (dec n) (dec_dig n) (by omega) k 0 0 (Nat.zero_le _) (by omega) (by omega)
  rw [List.drop_zero, nv_dec] at h
  rw [octet_Int.f]
  rw [show ((0 : Nat) : Int) = 0 from rfl] at h
  rw [h hn]
  simp only [Option.bind_some]
  have hne' : ¬ B (dec n) = ⟨#[]⟩ := fun e => by
    have := B_inj (b := []) e
    rw [this] at hp
    exact absurd hp (by decide)
  rw [if_neg hne', if_neg (by omega), text_ok (by omega) (by omega)]
  simp
end Go.Proofs.YtkkflfmonidepaaDoor
namespace Go.Proofs.YtkkflfmonidepaaDoor
open Sp
set_option maxRecDepth 100000
set_option maxHeartbeats 4000000
def punctI (r : Int) : Bool := r == 124 || r == 40 || r == 41 || r == 91 || r == 93 || r == 94 || r == 36 || r == 46 || r == 42 || r == 43 || r == 63 || r == 45 || r == 44
def numOf (l : List UInt8) : Option Nat := if nv 0 l ≤ 4294967295 ∧ dec (nv 0 l) = l then some (nv 0 l) else none
def flushS (pend : List UInt8) (acc : List T_regex_sign) : Option (List T_regex_sign) :=
  if pend = [] then some acc else (numOf pend).map fun m => acc ++ [⟨0, (m : Int), true⟩]
def lexS : List UInt8 → List UInt8 → List T_regex_sign → Option (List T_regex_sign)
  | [], pend, acc => flushS pend acc
  | c :: r, pend, acc =>
    if 48 ≤ c.toNat ∧ c.toNat ≤ 57 then lexS r (pend ++ [c]) acc
    else (flushS pend acc).bind fun acc' =>
      if c.toNat = 32 ∨ c.toNat = 95 then lexS r [] (acc' ++ [⟨32, 0, false⟩])
      else if punctI c.toNat then lexS r [] (acc' ++ [⟨(c.toNat : Int), 0, false⟩])
      else none
theorem B_size (l : List UInt8) : (B l).size = l.length := by simp [B, ByteArray.size]
theorem B_get (l : List UInt8) (p : Nat) (h : p < l.length) : (B l).get! p = l[p] := by
  have h' : p < (B l).size := by rw [B_size]; exact h
  show (B l).data[p]! = _
  simp [B, h]
theorem rune_low (l : List UInt8) (p : Nat) (h : p < l.length) (hc : l[p].toNat < 128) : runeAt (B l) p = (l[p].toNat : Int) ∧ runeW (B l) p = 1 := by
  unfold runeAt runeW Go.Utf8.decode
  simp only [Nat.add_zero, B_get l p h]
  rw [if_pos hc]
  exact ⟨rfl, rfl⟩
theorem rune_high (l : List UInt8) (p : Nat) (h : p < l.length) (hc : ¬ l[p].toNat < 128) : 128 ≤ runeAt (B l) p := by
  unfold runeAt Go.Utf8.decode
  simp only [Nat.add_zero, B_get l p h]
  rw [if_neg hc]
  split
  · split
    · rename_i hx
      show (128 : Int) ≤ ((_ : Nat) : Int)
      exact Int.ofNat_le.2 hx
    · simp [Go.Utf8.runeError]
  · split
    · split
      · rename_i hx
        simp only [Bool.and_eq_true, decide_eq_true_eq] at hx
        have h1 := hx.1
        show (128 : Int) ≤ ((_ : Nat) : Int)
        exact Int.ofNat_le.2 (Nat.le_trans (by decide) h1)
      · simp [Go.Utf8.runeError]
    · split
      · split
        · rename_i hx
          simp only [Bool.and_eq_true, decide_eq_true_eq] at hx
          have h1 := hx.1
          show (128 : Int) ≤ ((_ : Nat) : Int)
          exact Int.ofNat_le.2 (Nat.le_trans (by decide) h1)
        · simp [Go.Utf8.runeError]
      · simp [Go.Utf8.runeError]
theorem B_extract (l : List UInt8) (a b : Nat) : (B l).extract a b = B ((l.take b).drop a) := by
  apply ByteArray.ext
  rw [ByteArray.data_extract]
  simp [B, List.drop_take]
theorem u32_id {n : Int} (h0 : 0 ≤ n) (h1 : n < 4294967296) : u32 n = n := by
  unfold u32 Go.IntKind.wrap
  simp only [Go.IntKind.signed, Go.IntKind.bits]
  simp
  omega
def from_ (p : Nat) (pend : List UInt8) : Int := if pend = [] then -1 else ((p - pend.length : Nat) : Int)
theorem flush_eq {k : Nat} {l pend : List UInt8} {acc : List T_regex_sign} {p : Nat} (hp : p ≤ l.length) (hl : l.length ≤ 100000) (hpe : (l.take p).drop (p - pend.length) = pend) (hlen : pend.length ≤ p) (hd : ∀ c ∈ pend, dig c) (hk : 200000 ≤ k) (ha : acc.length ≤ 1000000) :
    ∃ ok acc', regex_signs_1.f k (p : Int) (from_ p pend) (B l) acc = some (ok, -1, acc') ∧ (ok = true → flushS pend acc = some acc') ∧ (ok = false → flushS pend acc = none) := by
  rw [regex_signs_1.f]
  by_cases h0 : pend = []
  · subst h0
    rw [if_pos (by simp [from_])]
    exact ⟨true, acc, by simp [from_], fun _ => by simp [flushS], fun h => by cases h⟩
  · have hf : from_ p pend = ((p - pend.length : Nat) : Int) := by simp [from_, h0]
    rw [hf, if_neg (by omega)]
    have hs : scutLR (B l) ((p - pend.length : Nat) : Int) (p : Int) = some (B pend) := by
      unfold scutLR
      rw [if_pos ⟨by omega, by omega, by rw [B_size]; omega⟩, Int.toNat_natCast, Int.toNat_natCast, B_extract, hpe]
    rw [hs]
    simp only [Option.bind_some]
    obtain ⟨n, ok, e, h1⟩ := int_ok (k := k) hd h0 (by omega) (by omega)
    rw [e]
    simp only [Option.bind_some]
    have hap : Sp.app 12 acc [⟨0, u32 n, true⟩] = some (acc ++ [⟨0, u32 n, true⟩]) := app_small (by simp; omega) (by decide)
    rw [hap]
    refine ⟨ok, _, rfl, fun hok => ?_, fun hok => ?_⟩
    · obtain ⟨m, rfl, hm, rfl⟩ := h1 hok
      rw [u32_id (by omega) (by omega)]
      simp only [flushS, if_neg h0, numOf, nv_dec]
      simp [hm]
    · simp only [flushS, if_neg h0, numOf]
      rw [if_neg]
      · rfl
      · rintro ⟨hm, hdec⟩
        have := int_dec (k := k) hm (by omega)
        rw [hdec, e] at this
        rw [hok] at this
        cases this
def fin (K : Nat) (x : ByteArray) (o : Option (Sum ((List T_regex_sign) × Bool) (Nat × Int × (List T_regex_sign)))) : Option ((List T_regex_sign) × Bool) :=
  o.bind fun o => match o with | .inl r => some r | .inr (_, n19, l20) => ((regex_signs_1.f K (x.size : Int) n19 x l20).bind fun y367 => (some (y367.2.2, y367.1)))
def LexOk (l pend : List UInt8) (p : Nat) (acc : List T_regex_sign) (o : Option ((List T_regex_sign) × Bool)) : Prop :=
  ∃ sg ok, o = some (sg, ok) ∧ (ok = true → lexS (l.drop p) pend acc = some sg) ∧ (ok = false → lexS (l.drop p) pend acc = none)
theorem signs_l0 (K : Nat) (hK : 200000 ≤ K) (l : List UInt8) (hl : l.length ≤ 100000) : ∀ (k p : Nat) (pend : List UInt8) (acc : List T_regex_sign), p ≤ l.length → 200000 + l.length < k + p →
    (l.take p).drop (p - pend.length) = pend → pend.length ≤ p → (∀ c ∈ pend, dig c) → acc.length + pend.length ≤ p →
    LexOk l pend p acc (fin K (B l) (regex_signs.l0 k (B l) p (from_ p pend) acc))
  | 0, p, _, _, hp, h, _, _, _, _ => by omega
  | k + 1, p, pend, acc, hp, hk, hpe, hlen, hd, ha => by
    rw [regex_signs.l0, B_size]
    by_cases hlt : p < l.length
    · rw [if_pos hlt]
      have hdr : l.drop p = l[p] :: l.drop (p + 1) := List.drop_eq_getElem_cons hlt
      have htk : l.take (p + 1) = l.take p ++ [l[p]] := by rw [List.take_succ_eq_append_getElem hlt]
      obtain ⟨ok, acc', ef, hf1, hf2⟩ := flush_eq (k := k) hp hl hpe hlen hd (by omega) (by omega) (acc := acc)
      by_cases hdg : 48 ≤ l[p].toNat ∧ l[p].toNat ≤ 57
      · obtain ⟨r1, r2⟩ := rune_low l p hlt (by omega)
        rw [r1, r2, if_pos (by omega), if_pos (by omega)]
        have hfrom : (if from_ p pend < 0 then some ((p : Nat) : Int) else some (from_ p pend)) = some (from_ (p + 1) (pend ++ [l[p]])) := by
          by_cases h0 : pend = []
          · subst h0
            simp [from_]
          · simp only [from_, if_neg h0]
            rw [if_neg (by omega)]
            simp <;> omega
        rw [hfrom]
        simp only [Option.bind_some]
        have h := signs_l0 K hK l hl k (p + 1) (pend ++ [l[p]]) acc (by omega) (by omega) (by
          rw [htk, List.length_append, List.length_singleton, show p + 1 - (pend.length + 1) = p - pend.length by omega, List.drop_append, hpe, List.length_take]
          congr 1
          rw [show p - pend.length - min p l.length = 0 by omega]; rfl) (by simp; omega) (fun c hc => by
            rcases List.mem_append.1 hc with hc | hc
            · exact hd c hc
            · rw [List.mem_singleton] at hc; subst hc; exact hdg) (by simp; omega)
        obtain ⟨sg, ok2, e, h1, h2⟩ := h
        have hls : lexS (l.drop p) pend acc = lexS (l.drop (p + 1)) (pend ++ [l[p]]) acc := by rw [hdr, lexS, if_pos hdg]
        exact ⟨sg, ok2, e, fun h => by rw [hls]; exact h1 h, fun h => by rw [hls]; exact h2 h⟩
      · have hls : lexS (l.drop p) pend acc = (flushS pend acc).bind fun acc' =>
            if l[p].toNat = 32 ∨ l[p].toNat = 95 then lexS (l.drop (p + 1)) [] (acc' ++ [⟨32, 0, false⟩])
            else if punctI l[p].toNat then lexS (l.drop (p + 1)) [] (acc' ++ [⟨(l[p].toNat : Int), 0, false⟩])
            else none := by rw [hdr, lexS, if_neg hdg]
        have hal : acc'.length ≤ p := by
          cases ok with
          | true =>
            have := hf1 rfl
            unfold flushS at this
            split at this
            · obtain rfl := Option.some.inj this; omega
            · rename_i h0
              obtain ⟨m, _, hm⟩ := Option.map_eq_some_iff.1 this
              rw [← hm]
              have := List.length_pos_iff.2 h0
              simp; omega
          | false =>
            rw [regex_signs_1.f] at ef
            by_cases hneg : from_ p pend < 0
            · rw [if_pos hneg] at ef
              simp at ef
            · rw [if_neg hneg] at ef
              obtain ⟨_, _, ef⟩ := obx ef
              obtain ⟨_, _, ef⟩ := obx ef
              obtain ⟨a, ea, ef⟩ := obx ef
              obtain ⟨_, _, ea⟩ := app_ok ea
              simp only [Option.some.injEq, Prod.mk.injEq] at ef
              rw [← ef.2.2, ea]
              have h0 : pend ≠ [] := by
                rintro rfl
                exact hneg (by simp [from_])
              have := List.length_pos_iff.2 h0
              simp; omega
        -- the loop goes on behind a sign
        have next : ∀ (x : T_regex_sign), lexS (l.drop p) pend acc = (flushS pend acc).bind (fun a => lexS (l.drop (p + 1)) [] (a ++ [x])) → ok = true → LexOk l pend p acc (fin K (B l) ((Sp.app 12 acc' [x]).bind fun a => regex_signs.l0 k (B l) (p + 1) (-1) a)) := by
          intro x hx hok
          have hap : Sp.app 12 acc' [x] = some (acc' ++ [x]) := app_small (by simp; omega) (by decide)
          rw [hap]
          simp only [Option.bind_some]
          have h := signs_l0 K hK l hl k (p + 1) [] (acc' ++ [x]) (by omega) (by omega) (by simp) (by simp) (fun _ h => by cases h) (by simp; omega)
          obtain ⟨sg, ok2, e, h1, h2⟩ := h
          have hff := hf1 hok
          rw [hff] at hx
          simp only [Option.bind_some] at hx
          exact ⟨sg, ok2, e, fun h => by rw [hx]; exact h1 h, fun h => by rw [hx]; exact h2 h⟩
        have stop : (lexS (l.drop p) pend acc = none) → LexOk l pend p acc (fin K (B l) (some (.inl ([], false)))) := fun h => ⟨[], false, rfl, fun h => (by cases h), fun _ => h⟩
        have nok : ok = false → lexS (l.drop p) pend acc = none := fun h => by rw [hls, hf2 h]; rfl
        by_cases hlow : l[p].toNat < 128
        · obtain ⟨r1, r2⟩ := rune_low l p hlt hlow
          rw [r1, r2]
          have hblank : (l[p].toNat = 32 ∨ l[p].toNat = 95) → lexS (l.drop p) pend acc = (flushS pend acc).bind (fun a => lexS (l.drop (p + 1)) [] (a ++ [⟨32, 0, false⟩])) := fun h => by
            rw [hls]
            congr 1
            funext a
            rw [if_pos h]
          have hpunct : ¬ (l[p].toNat = 32 ∨ l[p].toNat = 95) → punctI (l[p].toNat : Int) = true → lexS (l.drop p) pend acc = (flushS pend acc).bind (fun a => lexS (l.drop (p + 1)) [] (a ++ [⟨(l[p].toNat : Int), 0, false⟩])) := fun h h' => by
            rw [hls]
            congr 1
            funext a
            rw [if_neg h, if_pos h']
          have hother : ¬ (l[p].toNat = 32 ∨ l[p].toNat = 95) → punctI (l[p].toNat : Int) = false → lexS (l.drop p) pend acc = none := fun h h' => by
            rw [hls]
            cases flushS pend acc with
            | none => rfl
            | some a => simp only [Option.bind_some, if_neg h, h']; rfl
          generalize hc : l[p].toNat = c at *
          rw [ef]
          simp only [Option.bind_some]
          have body : LexOk l pend p acc (fin K (B l) (if ok = true then ((if (c : Int) = 32 then (some ((c : Int) == 32)) else (some ((c : Int) == 95))).bind fun b39 => (if b39 = true then ((Sp.app 12 acc' [(T_regex_sign.mk 32 0 false)]).bind fun l49 => (regex_signs.l0 k (B l) (p + 1) (-1) l49)) else (if (c : Int) = 124 then ((Sp.app 12 acc' [(T_regex_sign.mk (c : Int) 0 false)]).bind fun l60 => (regex_signs.l0 k (B l) (p + 1) (-1) l60)) else (if (c : Int) = 40 then ((Sp.app 12 acc' [(T_regex_sign.mk (c : Int) 0 false)]).bind fun l71 => (regex_signs.l0 k (B l) (p + 1) (-1) l71)) else (if (c : Int) = 41 then ((Sp.app 12 acc' [(T_regex_sign.mk (c : Int) 0 false)]).bind fun l82 => (regex_signs.l0 k (B l) (p + 1) (-1) l82)) else (if (c : Int) = 91 then ((Sp.app 12 acc' [(T_regex_sign.mk (c : Int) 0 false)]).bind fun l93 => (regex_signs.l0 k (B l) (p + 1) (-1) l93)) else (if (c : Int) = 93 then ((Sp.app 12 acc' [(T_regex_sign.mk (c : Int) 0 false)]).bind fun l104 => (regex_signs.l0 k (B l) (p + 1) (-1) l104)) else (if (c : Int) = 94 then ((Sp.app 12 acc' [(T_regex_sign.mk (c : Int) 0 false)]).bind fun l115 => (regex_signs.l0 k (B l) (p + 1) (-1) l115)) else (if (c : Int) = 36 then ((Sp.app 12 acc' [(T_regex_sign.mk (c : Int) 0 false)]).bind fun l126 => (regex_signs.l0 k (B l) (p + 1) (-1) l126)) else (if (c : Int) = 46 then ((Sp.app 12 acc' [(T_regex_sign.mk (c : Int) 0 false)]).bind fun l137 => (regex_signs.l0 k (B l) (p + 1) (-1) l137)) else (if (c : Int) = 42 then ((Sp.app 12 acc' [(T_regex_sign.mk (c : Int) 0 false)]).bind fun l148 => (regex_signs.l0 k (B l) (p + 1) (-1) l148)) else (if (c : Int) = 43 then ((Sp.app 12 acc' [(T_regex_sign.mk (c : Int) 0 false)]).bind fun l159 => (regex_signs.l0 k (B l) (p + 1) (-1) l159)) else (if (c : Int) = 63 then ((Sp.app 12 acc' [(T_regex_sign.mk (c : Int) 0 false)]).bind fun l170 => (regex_signs.l0 k (B l) (p + 1) (-1) l170)) else (if (c : Int) = 45 then ((Sp.app 12 acc' [(T_regex_sign.mk (c : Int) 0 false)]).bind fun l181 => (regex_signs.l0 k (B l) (p + 1) (-1) l181)) else (if (c : Int) = 44 then ((Sp.app 12 acc' [(T_regex_sign.mk (c : Int) 0 false)]).bind fun l192 => (regex_signs.l0 k (B l) (p + 1) (-1) l192)) else (some (.inl ([], false)))))))))))))))))) else (some (.inl ([], false))))) := by
            by_cases hok : ok = true
            · rw [if_pos hok]
              by_cases hb : c = 32 ∨ c = 95
              · have e : (if (c : Int) = 32 then (some ((c : Int) == 32)) else (some ((c : Int) == 95))) = some true := by
                  rcases hb with rfl | rfl <;> rfl
                rw [e]
                simp only [Option.bind_some, if_true]
                exact next _ (hblank hb) hok
              · have e : (if (c : Int) = 32 then (some ((c : Int) == 32)) else (some ((c : Int) == 95))) = some false := by
                  rw [if_neg (by omega)]
                  congr 1
                  simp; omega
                rw [e]
                simp only [Option.bind_some, Bool.false_eq_true, if_false]
                cases hpp : punctI (c : Int) with
                | true =>
                  have hn := next _ (hpunct hb hpp) hok
                  simp only [punctI, Bool.or_eq_true, beq_iff_eq] at hpp
                  rcases hpp with (((((((((((h | h) | h) | h) | h) | h) | h) | h) | h) | h) | h) | h) | h <;> (rw [h] at hn ⊢; exact hn)
                | false =>
                  have hnone := hother hb hpp
                  simp only [punctI, Bool.or_eq_false_iff, beq_eq_false_iff_ne, ne_eq] at hpp
                  obtain ⟨⟨⟨⟨⟨⟨⟨⟨⟨⟨⟨⟨q1, q2⟩, q3⟩, q4⟩, q5⟩, q6⟩, q7⟩, q8⟩, q9⟩, q10⟩, q11⟩, q12⟩, q13⟩ := hpp
                  simp only [if_neg q1, if_neg q2, if_neg q3, if_neg q4, if_neg q5, if_neg q6, if_neg q7, if_neg q8, if_neg q9, if_neg q10, if_neg q11, if_neg q12, if_neg q13]
                  exact stop hnone
            · rw [if_neg hok]
              exact stop (nok (by simpa using hok))
          by_cases h48 : (c : Int) ≥ 48
          · rw [if_pos h48, if_neg (by omega)]
            exact body
          · rw [if_neg h48]
            exact body
        · have hr := rune_high l p hlt hlow
          have hnone : lexS (l.drop p) pend acc = none := by
            rw [hls]
            cases flushS pend acc with
            | none => rfl
            | some a =>
              have h1 : ¬ (l[p].toNat = 32 ∨ l[p].toNat = 95) := by omega
              have h2 : punctI (l[p].toNat : Int) = false := by
                simp only [punctI, Bool.or_eq_false_iff, beq_eq_false_iff_ne, ne_eq]
                omega
              simp only [Option.bind_some, if_neg h1, h2]; rfl
          generalize runeAt (B l) p = c at *
          rw [if_pos (show c ≥ 48 by omega), if_neg (show ¬ c ≤ 57 by omega), ef, Option.bind_some]
          by_cases hok : ok = true
          · have e : ((c : Int) == 95) = false := by simp; omega
            rw [if_pos hok, if_neg (show ¬ c = 32 by omega), e, Option.bind_some, if_neg (show ¬ false = true by decide), if_neg (show ¬ c = 124 by omega), if_neg (show ¬ c = 40 by omega), if_neg (show ¬ c = 41 by omega), if_neg (show ¬ c = 91 by omega), if_neg (show ¬ c = 93 by omega), if_neg (show ¬ c = 94 by omega), if_neg (show ¬ c = 36 by omega), if_neg (show ¬ c = 46 by omega), if_neg (show ¬ c = 42 by omega), if_neg (show ¬ c = 43 by omega), if_neg (show ¬ c = 63 by omega), if_neg (show ¬ c = 45 by omega), if_neg (show ¬ c = 44 by omega)]
            exact stop hnone
          · rw [if_neg hok]
            exact stop hnone
    · rw [if_neg hlt]
      have hpl : p = l.length := by omega
      have hdr : l.drop p = [] := List.drop_eq_nil_of_le (by omega)
      obtain ⟨ok, acc', ef, hf1, hf2⟩ := flush_eq (k := K) hp hl hpe hlen hd (by omega) (by omega) (acc := acc)
      unfold fin
      simp only [Option.bind_some]
      rw [B_size, ← hpl, ef]
      exact ⟨acc', ok, rfl, fun h => by rw [hdr, lexS]; exact hf1 h, fun h => by rw [hdr, lexS]; exact hf2 h⟩
theorem signs_ok {k : Nat} {l : List UInt8} (hk : 400000 ≤ k) (hl : l.length ≤ 100000) : ∃ sg ok, regex_signs.f k (B l) = some (sg, ok) ∧ (ok = true → lexS l [] [] = some sg) ∧ (ok = false → lexS l [] [] = none) := by
  have h := signs_l0 k (by omega) l hl k 0 [] [] (Nat.zero_le _) (by omega) (by simp) (by simp) (fun _ h => by cases h) (by simp)
  obtain ⟨sg, ok, e, h1, h2⟩ := h
  exact ⟨sg, ok, by rw [regex_signs.f]; exact e, h1, h2⟩
theorem flush_sgs {pend : List UInt8} {acc r : List T_regex_sign} (h : flushS pend acc = some r) (hs : sgs acc) : sgs r ∧ r.length ≤ acc.length + pend.length := by
  unfold flushS at h
  split at h
  · obtain rfl := Option.some.inj h
    exact ⟨hs, by omega⟩
  · rename_i h0
    obtain ⟨m, hm, rfl⟩ := Option.map_eq_some_iff.1 h
    have hm' : m ≤ 4294967295 := by
      unfold numOf at hm
      split at hm
      · rename_i hh
        obtain rfl := Option.some.inj hm
        exact hh.1
      · cases hm
    refine ⟨fun x hx => ?_, ?_⟩
    · rcases List.mem_append.1 hx with hx | hx
      · exact hs x hx
      · rw [List.mem_singleton] at hx; subst hx
        exact ⟨fun _ => ⟨⟨by show (0 : Int) ≤ (m : Int); omega, by show (m : Int) < 4294967296; omega⟩, rfl⟩, fun h => by cases h⟩
    · have := List.length_pos_iff.2 h0
      simp; omega
theorem lex_sgs : ∀ (l pend : List UInt8) (acc r : List T_regex_sign), lexS l pend acc = some r → sgs acc → sgs r ∧ r.length ≤ acc.length + pend.length + l.length
  | [], pend, acc, r, h, hs => by
    rw [lexS] at h
    have := flush_sgs h hs
    exact ⟨this.1, by simpa using this.2⟩
  | c :: l, pend, acc, r, h, hs => by
    rw [lexS] at h
    split at h
    · have := lex_sgs l _ _ _ h hs
      refine ⟨this.1, ?_⟩
      have h2 := this.2
      simp at h2 ⊢; omega
    · obtain ⟨a, ha, h⟩ := obx h
      obtain ⟨f1, f2⟩ := flush_sgs ha hs
      have addx : ∀ x : T_regex_sign, signOk x → sgs (a ++ [x]) := fun x hx y hy => by
        rcases List.mem_append.1 hy with hy | hy
        · exact f1 y hy
        · rw [List.mem_singleton] at hy; subst hy; exact hx
      split at h
      · have := lex_sgs l _ _ _ h (addx _ ⟨fun h => (by cases h), fun _ => by decide⟩)
        refine ⟨this.1, ?_⟩
        have h2 := this.2
        simp at h2 ⊢; omega
      · split at h
        · rename_i hp
          have := lex_sgs l _ _ _ h (addx _ ⟨fun h => (by cases h), fun _ h0 => by
            simp only at h0
            rw [h0] at hp
            exact absurd hp (by decide)⟩)
          refine ⟨this.1, ?_⟩
          have h2 := this.2
          simp at h2 ⊢; omega
        · cases h
end Go.Proofs.YtkkflfmonidepaaDoor
namespace Go.Proofs.YtkkflfmonidepaaDoor
open Sp
set_option maxRecDepth 100000
set_option maxHeartbeats 4000000
theorem B_data (x : ByteArray) : B x.data.toList = x := by
  obtain ⟨d⟩ := x
  show (⟨d.toList.toArray⟩ : ByteArray) = ⟨d⟩
  rw [Array.toArray_toList]
theorem size_data (x : ByteArray) : x.data.toList.length = x.size := by
  show x.data.toList.length = x.data.size
  exact Array.length_toList
def Pat (k : Nat) (e : T_regex_Expr) : Prop :=
  WF 2 e.top ∧ wt e.top ≤ 1000 ∧ Val e.prog ∧ ∃ q, regex_Expr_compile.f k ⟨e.top, []⟩ e.top = some ⟨e.top, q⟩ ∧ V q ∧ q.length ≤ 4000 ∧ e.prog = q ++ [lastStep]
end Go.Proofs.YtkkflfmonidepaaDoor
namespace Go.Proofs.YtkkflfmonidepaaDoor
open Sp
set_option maxRecDepth 100000
set_option maxHeartbeats 4000000
def tk (s : T_regex_step) (x : Int) : Bool := s.all || (if s.spans.any (fun y => decide (x ≥ y.from_) && decide (x ≤ y.to_)) then !s.not else s.not)
theorem takes_l0_eq (s : T_regex_step) (n : Int) (hb : s.spans.length ≤ 1000000000) : ∀ (k j : Nat), j ≤ s.spans.length → s.spans.length < k + j →
    regex_step_takes.l0 k s n (j : Int) = some (if (s.spans.drop j).any (fun y => decide (n ≥ y.from_) && decide (n ≤ y.to_)) then .inl (!s.not) else .inr ())
  | 0, _, _, h => by omega
  | k + 1, j, hj, hk => by
    rw [regex_step_takes.l0]
    by_cases hlt : j < s.spans.length
    · rw [if_pos (by omega), lat_nat, List.getElem?_eq_getElem hlt, Option.bind_some]
      rw [i64_id (by omega) (by omega), show ((j : Int) + 1) = ((j + 1 : Nat) : Int) by omega, takes_l0_eq s n hb k (j + 1) (by omega) (by omega)]
      rw [List.drop_eq_getElem_cons hlt, List.any_cons]
      by_cases h1 : n ≥ s.spans[j].from_
      · by_cases h2 : n ≤ s.spans[j].to_
        · simp [h1, h2]
        · simp [h1, h2]
      · simp [h1]
    · rw [if_neg (by omega)]
      have : s.spans.drop j = [] := List.drop_eq_nil_of_le (by omega)
      rw [this]; rfl
theorem takes_eq {k : Nat} {s : T_regex_step} {n : Int} (hb : s.spans.length ≤ 1000000000) (hk : s.spans.length < k) : regex_step_takes.f k s n = some (tk s n) := by
  rw [regex_step_takes.f]
  unfold tk
  cases ha : s.all with
  | true => simp
  | false =>
    rw [if_neg (by decide)]
    have e := takes_l0_eq s n hb k 0 (Nat.zero_le _) (by omega)
    rw [show ((0 : Nat) : Int) = 0 from rfl, List.drop_zero] at e
    rw [e]
    simp only [Option.bind_some, Bool.false_or]
    by_cases h : s.spans.any (fun y => decide (n ≥ y.from_) && decide (n ≤ y.to_)) = true
    · rw [if_pos h, if_pos h]
    · rw [if_neg h, if_neg h]
def eps (p : List T_regex_step) (i n : Int) (a b : Nat) : Prop := ∃ s, p[a]? = some s ∧ ((s.op = 1 ∧ (s.to_.1 = (b : Int) ∨ s.to_.2 = (b : Int))) ∨ (s.op = 2 ∧ i = 0 ∧ b = a + 1) ∨ (s.op = 3 ∧ i = n ∧ b = a + 1))
inductive Rch (p : List T_regex_step) (i n : Int) : Nat → Nat → Prop
  | refl (a : Nat) : Rch p i n a a
  | step {a b c : Nat} : eps p i n a b → Rch p i n b c → Rch p i n a c
def mem (s : List Bool) (a : Nat) : Prop := s[a]? = some true
theorem mem_set {s : List Bool} {a q : Nat} (h : mem (s.set a true) q) : mem s q ∨ q = a := by
  unfold mem at h ⊢
  rw [List.getElem?_set] at h
  split at h
  · right; omega
  · left; exact h
theorem set_mem {s : List Bool} {a q : Nat} (h : mem s q) : mem (s.set a true) q := by
  unfold mem at h ⊢
  rw [List.getElem?_set]
  split
  · have := (List.getElem?_eq_some_iff.1 h).1
    rename_i e; subst e
    rw [if_pos this]
  · exact h
theorem set_self {s : List Bool} {a : Nat} (h : a < s.length) : mem (s.set a true) a := by
  unfold mem
  rw [List.getElem?_set, if_pos rfl, if_pos h]
def Added (p : List T_regex_step) (i n : Int) (s : List Bool) (a : Nat) (s' : List Bool) : Prop :=
  (∀ q, mem s q → mem s' q) ∧ mem s' a ∧ ∀ q, mem s' q → mem s q ∨ (Rch p i n a q ∧ ∀ b, eps p i n q b → mem s' b)
theorem add_spec (e : T_regex_Expr) (hV : Val e.prog) (i n : Int) : ∀ (k : Nat) (s : List Bool) (a : Nat) (s' : List Bool), s.length = e.prog.length → a < e.prog.length → regex_Expr_add.f k (some e) s (a : Int) i n = some s' → Added e.prog i n s a s' ∧ s'.length = s.length
  | 0, _, _, _, _, _, h => by rw [regex_Expr_add.f] at h; cases h
  | k + 1, s, a, s', hl, ha, h => by
    have hlen : e.prog.length ≤ 1000000 := hV.2
    rw [regex_Expr_add.f, lat_nat, List.getElem?_eq_getElem (by omega), Option.bind_some] at h
    by_cases hb : s[a] = true
    · rw [if_pos hb] at h
      obtain rfl := Option.some.inj h
      refine ⟨⟨fun q hq => hq, ?_, fun q hq => .inl hq⟩, rfl⟩
      unfold mem; rw [List.getElem?_eq_getElem (by omega), hb]
    · rw [if_neg hb, Option.bind_some, Option.bind_some, lat_nat, List.getElem?_eq_getElem ha, Option.bind_some, Int.toNat_natCast] at h
      have hst : e.prog[a]? = some e.prog[a] := List.getElem?_eq_getElem ha
      obtain ⟨st, hst1, hst2, hst3⟩ := hV.at (i := (a : Int)) (by omega) (by omega)
      rw [lat_nat, hst] at hst1
      obtain rfl := Option.some.inj hst1
      generalize hg : e.prog[a] = st at *
      have hl1 : (s.set a true).length = e.prog.length := by rw [List.length_set]; exact hl
      -- nothing more
      have self : (∀ b, ¬ eps e.prog i n a b) → some (s.set a true) = some s' → Added e.prog i n s a s' ∧ s'.length = s.length := by
        intro hno hs
        obtain rfl := Option.some.inj hs
        refine ⟨⟨fun q hq => set_mem hq, set_self (by omega), fun q hq => ?_⟩, List.length_set ..⟩
        rcases mem_set hq with hq | rfl
        · exact .inl hq
        · exact .inr ⟨.refl _, fun b hb => absurd hb (hno b)⟩
      -- one more
      have one : (∀ b, eps e.prog i n a b ↔ b = a + 1) → a + 1 < e.prog.length → ((regex_Expr_add.f k (some e) (s.set a true) (i64 ((a : Int) + 1)) i n).bind fun y => some y) = some s' → Added e.prog i n s a s' ∧ s'.length = s.length := by
        intro hone ha1 hs
        rw [i64_id (by omega) (by omega), show (a : Int) + 1 = ((a + 1 : Nat) : Int) by omega] at hs
        obtain ⟨s1, e1, hs⟩ := obx hs
        obtain rfl := Option.some.inj hs
        obtain ⟨⟨k1, k2, k3⟩, k4⟩ := add_spec e hV i n k (s.set a true) (a + 1) s1 hl1 ha1 e1
        refine ⟨⟨fun q hq => k1 q (set_mem hq), k1 a (set_self (by omega)), fun q hq => ?_⟩, by rw [k4, List.length_set]⟩
        rcases k3 q hq with hq | ⟨hq, hq2⟩
        · rcases mem_set hq with hq | rfl
          · exact .inl hq
          · exact .inr ⟨.refl _, fun b hb => by rw [(hone b).1 hb]; exact k2⟩
        · exact .inr ⟨.step ((hone _).2 rfl) hq, hq2⟩
      have epsA : ∀ b, eps e.prog i n a b ↔ ((st.op = 1 ∧ (st.to_.1 = (b : Int) ∨ st.to_.2 = (b : Int))) ∨ (st.op = 2 ∧ i = 0 ∧ b = a + 1) ∨ (st.op = 3 ∧ i = n ∧ b = a + 1)) := fun b => by
        constructor
        · rintro ⟨s2, h2, h3⟩
          rw [hst] at h2
          obtain rfl := Option.some.inj h2
          exact h3
        · intro h3; exact ⟨st, hst, h3⟩
      split at h
      · rename_i ho
        obtain ⟨⟨t1, t2⟩, t3, t4⟩ := hst2 ho
        obtain ⟨s1, e1, h⟩ := obx h
        obtain ⟨s2, e2, h⟩ := obx h
        obtain rfl := Option.some.inj h
        obtain ⟨b1, hb1⟩ := Int.eq_ofNat_of_zero_le t1
        obtain ⟨b2, hb2⟩ := Int.eq_ofNat_of_zero_le t3
        rw [hb1] at e1
        rw [hb2] at e2
        obtain ⟨⟨k1, k2, k3⟩, k4⟩ := add_spec e hV i n k (s.set a true) b1 s1 hl1 (by omega) e1
        obtain ⟨⟨j1, j2, j3⟩, j4⟩ := add_spec e hV i n k s1 b2 s2 (by rw [k4, hl1]) (by omega) e2
        refine ⟨⟨fun q hq => j1 q (k1 q (set_mem hq)), j1 a (k1 a (set_self (by omega))), fun q hq => ?_⟩, by rw [j4, k4, List.length_set]⟩
        rcases j3 q hq with hq | ⟨hq, hq2⟩
        · rcases k3 q hq with hq | ⟨hq, hq2⟩
          · rcases mem_set hq with hq | rfl
            · exact .inl hq
            · refine .inr ⟨.refl _, fun b hb => ?_⟩
              rcases (epsA b).1 hb with ⟨_, h | h⟩ | ⟨h, _⟩ | ⟨h, _⟩
              · rw [hb1] at h
                obtain rfl : b1 = b := by exact_mod_cast h
                exact j1 _ k2
              · rw [hb2] at h
                obtain rfl : b2 = b := by exact_mod_cast h
                exact j2
              · rw [ho] at h; exact absurd h (by decide)
              · rw [ho] at h; exact absurd h (by decide)
          · exact .inr ⟨.step ((epsA b1).2 (.inl ⟨ho, .inl hb1⟩)) hq, fun b hb => j1 b (hq2 b hb)⟩
        · exact .inr ⟨.step ((epsA b2).2 (.inl ⟨ho, .inr hb2⟩)) hq, hq2⟩
      · rename_i h1
        split at h
        · rename_i ho
          split at h
          · rename_i hi
            refine one (fun b => ?_) ?_ h
            · rw [epsA]
              constructor
              · rintro (⟨h, _⟩ | ⟨_, _, h⟩ | ⟨h, _⟩)
                · exact absurd h h1
                · exact h
                · rw [ho] at h; exact absurd h (by decide)
              · intro h; exact .inr (.inl ⟨ho, hi, h⟩)
            · have := hst3 (.inr (.inl ho)); omega
          · rename_i hi
            refine self (fun b hb => ?_) h
            rcases (epsA b).1 hb with ⟨h, _⟩ | ⟨_, h, _⟩ | ⟨h, _⟩
            · exact h1 h
            · exact hi h
            · rw [ho] at h; exact absurd h (by decide)
        · rename_i h2
          split at h
          · rename_i ho
            split at h
            · rename_i hi
              refine one (fun b => ?_) ?_ h
              · rw [epsA]
                constructor
                · rintro (⟨h, _⟩ | ⟨h, _⟩ | ⟨_, _, h⟩)
                  · exact absurd h h1
                  · exact absurd h h2
                  · exact h
                · intro h; exact .inr (.inr ⟨ho, hi, h⟩)
              · have := hst3 (.inr (.inr ho)); omega
            · rename_i hi
              refine self (fun b hb => ?_) h
              rcases (epsA b).1 hb with ⟨h, _⟩ | ⟨h, _⟩ | ⟨_, h, _⟩
              · exact h1 h
              · exact h2 h
              · exact hi h
          · rename_i h3
            refine self (fun b hb => ?_) h
            rcases (epsA b).1 hb with ⟨h, _⟩ | ⟨h, _⟩ | ⟨h, _⟩
            · exact h1 h
            · exact h2 h
            · exact h3 h
inductive Cfg (p : List T_regex_step) (l : List Int) : Nat → Nat → Prop
  | start {i : Nat} : i ≤ l.length → Cfg p l i 0
  | eps {i a b : Nat} : Cfg p l i a → eps p (i : Int) (l.length : Int) a b → Cfg p l i b
  | take {i a : Nat} {s : T_regex_step} {x : Int} : Cfg p l i a → p[a]? = some s → s.op = 0 → l[i]? = some x → tk s x = true → Cfg p l (i + 1) (a + 1)
theorem Cfg.rch {p : List T_regex_step} {l : List Int} {i a b : Nat} (h : Cfg p l i a) (hr : Rch p (i : Int) (l.length : Int) a b) : Cfg p l i b := by
  induction hr with
  | refl => exact h
  | step he _ ih => exact ih (h.eps he)
def SetOk (p : List T_regex_step) (l : List Int) (i : Nat) (s : List Bool) : Prop :=
  s.length = p.length ∧ (∀ q, mem s q → Cfg p l i q) ∧ ∀ q, mem s q → ∀ b, eps p (i : Int) (l.length : Int) q b → mem s b
theorem SetOk.add {e : T_regex_Expr} (hV : Val e.prog) {l : List Int} {i a k : Nat} {s s' : List Bool} (h : SetOk e.prog l i s) (ha : a < e.prog.length) (hc : Cfg e.prog l i a) (hs : regex_Expr_add.f k (some e) s (a : Int) (i : Int) (l.length : Int) = some s') :
    SetOk e.prog l i s' ∧ mem s' a ∧ ∀ q, mem s q → mem s' q := by
  obtain ⟨h1, h2, h3⟩ := h
  obtain ⟨⟨k1, k2, k3⟩, k4⟩ := add_spec e hV _ _ k s a s' h1 ha hs
  refine ⟨⟨by rw [k4, h1], fun q hq => ?_, fun q hq b hb => ?_⟩, k2, k1⟩
  · rcases k3 q hq with hq | ⟨hq, _⟩
    · exact h2 q hq
    · exact hc.rch hq
  · rcases k3 q hq with hq | ⟨_, hq⟩
    · exact k1 b (h3 q hq b hb)
    · exact hq b hb
def Has (p : List T_regex_step) (l : List Int) (i : Nat) (s : List Bool) : Prop := ∀ j a st x, i = j + 1 → Cfg p l j a → p[a]? = some st → st.op = 0 → l[j]? = some x → tk st x = true → mem s (a + 1)
theorem set_all {p : List T_regex_step} {l : List Int} {i : Nat} {s : List Bool} (h : SetOk p l i s) (h0 : mem s 0) (hh : Has p l i s) {q : Nat} (hq : Cfg p l i q) : mem s q := by
  generalize hi : i = i' at hq
  induction hq with
  | start => exact h0
  | eps _ he ih => subst hi; exact h.2.2 _ (ih rfl) _ he
  | take hc h1 h2 h3 h4 _ => exact hh _ _ _ _ hi hc h1 h2 h3 h4
theorem l1_spec (e : T_regex_Expr) (hV : Val e.prog) (l : List Int) (hll : l.length ≤ 1000000) (i : Nat) (hi : i < l.length) (set : List Bool) (hs : SetOk e.prog l i set) :
    ∀ (k j : Nat) (nx r : List Bool), j ≤ set.length → 3000000 ≤ k + j → SetOk e.prog l (i + 1) nx → (∀ a st, a < j → mem set a → e.prog[a]? = some st → st.op = 0 → tk st l[i] = true → mem nx (a + 1)) →
      regex_Expr_Match.l1 k (some e) l e (i : Int) set nx (j : Int) = some r → SetOk e.prog l (i + 1) r ∧ ∀ a st, mem set a → e.prog[a]? = some st → st.op = 0 → tk st l[i] = true → mem r (a + 1)
  | 0, _, _, _, _, _, _, _, h => by rw [regex_Expr_Match.l1] at h; cases h
  | k + 1, j, nx, r, hj, hk, hn, hd, h => by
    have hlen : e.prog.length ≤ 1000000 := hV.2
    have hsl := hs.1
    rw [regex_Expr_Match.l1] at h
    by_cases hlt : j < set.length
    · rw [if_pos (by omega), lat_nat, List.getElem?_eq_getElem hlt, Option.bind_some] at h
      rw [i64_id (n := (j : Int) + 1) (by omega) (by omega), show ((j : Int) + 1) = ((j + 1 : Nat) : Int) by omega, i64_id (n := (i : Int) + 1) (by omega) (by omega), show ((i : Int) + 1) = ((i + 1 : Nat) : Int) by omega] at h
      have hst : e.prog[j]? = some e.prog[j] := List.getElem?_eq_getElem (by omega)
      have skip : (mem set j → ∀ st, e.prog[j]? = some st → st.op = 0 → tk st l[i] = true → False) → ∀ a st, a < j + 1 → mem set a → e.prog[a]? = some st → st.op = 0 → tk st l[i] = true → mem nx (a + 1) := by
        intro hno a st ha hm h1 h2 h3
        by_cases haj : a < j
        · exact hd a st haj hm h1 h2 h3
        · obtain rfl : a = j := by omega
          exact (hno hm st h1 h2 h3).elim
      split at h
      · rename_i hset
        have hmj : mem set j := by unfold mem; rw [List.getElem?_eq_getElem hlt, hset]
        rw [lat_nat, hst, Option.bind_some] at h
        split at h
        · rename_i ho
          rw [Option.bind_some, lat_nat, List.getElem?_eq_getElem hi, Option.bind_some] at h
          have hsp := hV.spans e.prog[j] (List.getElem_mem _)
          by_cases hk2 : k ≤ 1000000
          · omega
          rw [takes_eq (by omega) (by omega), Option.bind_some] at h
          split at h
          · rename_i htk
            obtain ⟨nx', ea, h⟩ := obx h
            have hcfg : Cfg e.prog l (i + 1) (j + 1) := .take (hs.2.1 j hmj) hst ho (List.getElem?_eq_getElem hi) htk
            have hjl : j + 1 < e.prog.length := by
              obtain ⟨st, q1, _, q3⟩ := hV.at (i := (j : Int)) (by omega) (by omega)
              rw [lat_nat, hst] at q1
              obtain rfl := Option.some.inj q1
              have := q3 (.inl ho); omega
            obtain ⟨g1, g2, g3⟩ := hn.add hV hjl hcfg ea
            refine l1_spec e hV l hll i hi set hs k (j + 1) nx' r (by omega) (by omega) g1 (fun a st ha hm h1 h2 h3 => ?_) h
            by_cases haj : a < j
            · exact g3 _ (hd a st haj hm h1 h2 h3)
            · obtain rfl : a = j := by omega
              exact g2
          · rename_i htk
            refine l1_spec e hV l hll i hi set hs k (j + 1) nx r (by omega) (by omega) hn (skip fun _ st h1 _ h3 => ?_) h
            rw [hst] at h1
            obtain rfl := Option.some.inj h1
            exact htk h3
        · rename_i ho
          refine l1_spec e hV l hll i hi set hs k (j + 1) nx r (by omega) (by omega) hn (skip fun _ st h1 h2 _ => ?_) h
          rw [hst] at h1
          obtain rfl := Option.some.inj h1
          exact ho h2
      · rename_i hset
        refine l1_spec e hV l hll i hi set hs k (j + 1) nx r (by omega) (by omega) hn (skip fun hm _ _ _ _ => ?_) h
        unfold mem at hm
        rw [List.getElem?_eq_getElem hlt] at hm
        exact hset (Option.some.inj hm)
    · rw [if_neg (by omega)] at h
      obtain rfl := Option.some.inj h
      refine ⟨hn, fun a st hm h1 h2 h3 => hd a st ?_ hm h1 h2 h3⟩
      have := (List.getElem?_eq_some_iff.1 hm).1
      omega
theorem empty_ok (p : List T_regex_step) (l : List Int) (i : Nat) : SetOk p l i (List.replicate p.length false) := by
  have hno : ∀ q, ¬ mem (List.replicate p.length false) q := fun q h => by
    unfold mem at h
    rw [List.getElem?_replicate] at h
    split at h
    · cases h
    · cases h
  exact ⟨List.length_replicate, fun q h => (hno q h).elim, fun q h => (hno q h).elim⟩
theorem l0_spec (e : T_regex_Expr) (hV : Val e.prog) (l : List Int) (hll : l.length ≤ 1000000) :
    ∀ (k i : Nat) (set : List Bool) (b : Bool), i ≤ l.length → 4500000 ≤ k + i → SetOk e.prog l i set → Has e.prog l i set → (∀ j, j < i → ¬ Cfg e.prog l j (e.prog.length - 1)) →
      regex_Expr_Match.l0 k (some e) l e set (i : Int) = some (.inl b) → (b = true ↔ ∃ j, j ≤ l.length ∧ Cfg e.prog l j (e.prog.length - 1))
  | 0, _, _, _, _, _, _, _, _, h => by rw [regex_Expr_Match.l0] at h; cases h
  | k + 1, i, set, b, hi, hk, hs, hh, hno, h => by
    have hlen : e.prog.length ≤ 1000000 := hV.2
    have hpos := hV.pos
    rw [regex_Expr_Match.l0] at h
    obtain ⟨s1, ea, h⟩ := obx h
    rw [show (0 : Int) = ((0 : Nat) : Int) from rfl] at ea
    obtain ⟨g1, g2, g3⟩ := hs.add hV hpos (.start hi) ea
    rw [i64_id (n := (e.prog.length : Int) - 1) (by omega) (by omega), show (e.prog.length : Int) - 1 = ((e.prog.length - 1 : Nat) : Int) by omega, lat_nat, List.getElem?_eq_getElem (by rw [g1.1]; omega), Option.bind_some] at h
    have hall : ∀ q, Cfg e.prog l i q → mem s1 q := fun q hq => set_all g1 g2 (fun j a st x hj hc h1 h2 h3 h4 => g3 _ (hh j a st x hj hc h1 h2 h3 h4)) hq
    have hm : mem s1 (e.prog.length - 1) ↔ s1[e.prog.length - 1]'(by rw [g1.1]; omega) = true := by
      unfold mem
      rw [List.getElem?_eq_getElem (by rw [g1.1]; omega)]
      exact ⟨fun h => Option.some.inj h, fun h => by rw [h]⟩
    have dbl : ∀ {o : Option (Sum Bool Unit)} {c : Bool}, ((some c).bind fun y : Bool => (some (Sum.inl y) : Option (Sum Bool Unit))) = some (.inl b) → c = b := fun h => by
      simpa using h
    split at h
    · rename_i ht
      rw [Option.bind_some] at h
      obtain rfl : _ = b := by simpa using h
      exact ⟨fun _ => ⟨i, hi, g1.2.1 _ (hm.2 ht)⟩, fun _ => ht⟩
    · rename_i hf
      split at h
      · rename_i hil
        rw [Option.bind_some] at h
        obtain rfl : _ = b := by simpa using h
        refine ⟨fun ht => absurd ht hf, fun ⟨j, hj, hc⟩ => ?_⟩
        by_cases hji : j < i
        · exact absurd hc (hno j hji)
        · obtain rfl : j = i := by omega
          exact hm.1 (hall _ hc)
      · rename_i hil
        rw [made_ok _ hlen, Option.bind_some] at h
        obtain ⟨nx, e1, h⟩ := obx h
        rw [show (0 : Int) = ((0 : Nat) : Int) from rfl] at e1
        have hlt : i < l.length := by omega
        obtain ⟨q1, q2⟩ := l1_spec e hV l hll i hlt s1 g1 k 0 _ nx (Nat.zero_le _) (by omega) (empty_ok _ _ _) (fun a st ha => by omega) e1
        rw [i64_id (by omega) (by omega), show ((i : Int) + 1) = ((i + 1 : Nat) : Int) by omega] at h
        refine l0_spec e hV l hll k (i + 1) nx b (by omega) (by omega) q1 (fun j a st x hj hc h1 h2 h3 h4 => ?_) (fun j hj hc => ?_) h
        · obtain rfl : j = i := by omega
          rw [List.getElem?_eq_getElem hlt] at h3
          obtain rfl := Option.some.inj h3
          exact q2 a st (hall _ hc) h1 h2 h4
        · by_cases hji : j < i
          · exact hno j hji hc
          · obtain rfl : j = i := by omega
            exact hf (hm.1 (hall _ hc))
theorem match_spec {k : Nat} (e : T_regex_Expr) (hV : Val e.prog) (l : List Int) (hll : l.length ≤ 1000000) (hk : 5000000 ≤ k) : ∃ b, regex_Expr_Match.f k (some e) l = some b ∧ (b = true ↔ ∃ j, j ≤ l.length ∧ Cfg e.prog l j (e.prog.length - 1)) := by
  obtain ⟨b, hb⟩ := match_ok (k := k) e hV hV.spans l hll hk
  refine ⟨b, hb, ?_⟩
  have hlen : e.prog.length ≤ 1000000 := hV.2
  have hpos := hV.pos
  rw [regex_Expr_Match.f] at hb
  simp only [Option.isNone_some, Bool.false_eq_true, if_false, Option.bind_some] at hb
  rw [if_neg (by omega), made_ok _ hlen, Option.bind_some] at hb
  obtain ⟨o, ho, hb⟩ := obx hb
  cases o with
  | inr _ => cases hb
  | inl b' =>
    obtain rfl := Option.some.inj hb
    rw [show (0 : Int) = ((0 : Nat) : Int) from rfl] at ho
    exact l0_spec e hV l hll k 0 _ b' (Nat.zero_le _) (by omega) (empty_ok _ _ _) (fun j a st x hj => by omega) (fun j hj => by omega) ho
end Go.Proofs.YtkkflfmonidepaaDoor
namespace Go.Proofs.YtkkflfmonidepaaDoor
open Sp
set_option maxRecDepth 100000
set_option maxHeartbeats 4000000
def split (p : List T_regex_step) (a b c : Nat) : Prop := ∃ s, p[a]? = some s ∧ s.op = 1 ∧ s.to_ = ((b : Int), (c : Int))
def chain (F : T_regex_piece → Nat → Nat → Prop) : List T_regex_piece → Nat → Nat → Prop
  | [], a, e => a = e
  | x :: xs, a, e => ∃ m, F x a m ∧ chain F xs m e
def alts (p : List T_regex_step) (F : T_regex_piece → Nat → Nat → Prop) : List T_regex_piece → Nat → Nat → Prop
  | [], _, _ => False
  | [x], a, e => F x a e
  | x :: y :: r, a, e => ∃ m, split p a (a + 1) (m + 1) ∧ F x (a + 1) m ∧ split p m e e ∧ alts p F (y :: r) (m + 1) e
def Frag : Nat → List T_regex_step → T_regex_piece → Nat → Nat → Prop
  | 0, _, _, _, _ => False
  | n + 1, p, x, a, e =>
    (x.kind = 0 ∧ chain (Frag n p) x.parts a e) ∨
    (x.kind = 1 ∧ alts p (Frag n p) x.parts a e) ∨
    ((x.kind = 2 ∨ x.kind = 4) ∧ e = a + 1 ∧ ∃ s, p[a]? = some s ∧ s.op = 0 ∧ s.spans = x.spans ∧ s.all = false ∧ s.not = x.not) ∨
    (x.kind = 3 ∧ e = a + 1 ∧ ∃ s, p[a]? = some s ∧ s.op = 0 ∧ s.all = true) ∨
    (x.kind = 5 ∧ e = a + 1 ∧ ∃ s, p[a]? = some s ∧ s.op = 2) ∨
    (x.kind = 6 ∧ e = a + 1 ∧ ∃ s, p[a]? = some s ∧ s.op = 3) ∨
    (x.kind = 8 ∧ ∃ q m, x.parts = [q] ∧ Frag n p q a m ∧ split p m a (m + 1) ∧ e = m + 1) ∨
    (x.kind = 7 ∧ ∃ q m, x.parts = [q] ∧ split p a (a + 1) (m + 1) ∧ Frag n p q (a + 1) m ∧ split p m a a ∧ e = m + 1) ∨
    (x.kind = 9 ∧ ∃ q, x.parts = [q] ∧ split p a (a + 1) e ∧ Frag n p q (a + 1) e)
theorem chain_le {F : T_regex_piece → Nat → Nat → Prop} (hF : ∀ x a e, F x a e → a ≤ e) : ∀ {l a e}, chain F l a e → a ≤ e
  | [], _, _, h => Nat.le_of_eq h
  | _ :: _, _, _, ⟨_, h1, h2⟩ => Nat.le_trans (hF _ _ _ h1) (chain_le hF h2)
theorem alts_le {p : List T_regex_step} {F : T_regex_piece → Nat → Nat → Prop} (hF : ∀ x a e, F x a e → a ≤ e) : ∀ {l a e}, alts p F l a e → a ≤ e
  | [], _, _, h => h.elim
  | [x], _, _, h => hF _ _ _ h
  | x :: y :: r, _, _, ⟨m, _, h1, _, h2⟩ => by
    have := hF _ _ _ h1
    have := alts_le hF h2
    omega
theorem frag_le {p : List T_regex_step} : ∀ (n : Nat) (x : T_regex_piece) (a e : Nat), Frag n p x a e → a ≤ e
  | 0, _, _, _, h => h.elim
  | n + 1, x, a, e, h => by
    rcases h with ⟨_, h⟩ | ⟨_, h⟩ | ⟨_, h, _⟩ | ⟨_, h, _⟩ | ⟨_, h, _⟩ | ⟨_, h, _⟩ | ⟨_, q, m, _, h, _, h2⟩ | ⟨_, q, m, _, _, h, _, h2⟩ | ⟨_, q, _, _, h⟩
    · exact chain_le (frag_le n) h
    · exact alts_le (frag_le n) h
    · omega
    · omega
    · omega
    · omega
    · have := frag_le n _ _ _ h; omega
    · have := frag_le n _ _ _ h; omega
    · have := frag_le n _ _ _ h; omega
def Alike (p q : List T_regex_step) (a e : Nat) : Prop := ∀ i, a ≤ i → i < e → q[i]? = p[i]?
theorem Alike.sub {p q : List T_regex_step} {a e b f : Nat} (h : Alike p q a e) (h1 : a ≤ b) (h2 : f ≤ e) : Alike p q b f := fun i hi hj => h i (by omega) (by omega)
theorem split.alike {p q : List T_regex_step} {a e x b c : Nat} (h : split p x b c) (hq : Alike p q a e) (h1 : a ≤ x) (h2 : x < e) : split q x b c := by
  obtain ⟨s, e1, e2⟩ := h
  exact ⟨s, by rw [hq x h1 h2]; exact e1, e2⟩
theorem chain_alike {F G : T_regex_piece → Nat → Nat → Prop} {p q : List T_regex_step} (hF : ∀ x a e, F x a e → a ≤ e) (h : ∀ x a e, F x a e → Alike p q a e → G x a e) : ∀ {l a e}, chain F l a e → Alike p q a e → chain G l a e
  | [], _, _, hc, _ => hc
  | _ :: _, _, _, ⟨m, h1, h2⟩, ha => ⟨m, h _ _ _ h1 (ha.sub (Nat.le_refl _) (chain_le hF h2)), chain_alike hF h h2 (ha.sub (hF _ _ _ h1) (Nat.le_refl _))⟩
theorem alts_alike {F G : T_regex_piece → Nat → Nat → Prop} {p q : List T_regex_step} (hF : ∀ x a e, F x a e → a ≤ e) (h : ∀ x a e, F x a e → Alike p q a e → G x a e) : ∀ {l a e}, alts p F l a e → Alike p q a e → alts q G l a e
  | [], _, _, hc, _ => hc
  | [x], _, _, hc, ha => h _ _ _ hc ha
  | x :: y :: r, a, e, ⟨m, s1, h1, s2, h2⟩, ha => by
    have l1 := hF _ _ _ h1
    have l2 := alts_le hF h2
    exact ⟨m, s1.alike ha (Nat.le_refl _) (by omega), h _ _ _ h1 (ha.sub (by omega) (by omega)), s2.alike ha (by omega) (by omega), alts_alike hF h h2 (ha.sub (by omega) (Nat.le_refl _))⟩
theorem frag_alike {p q : List T_regex_step} : ∀ (n : Nat) (x : T_regex_piece) (a e : Nat), Frag n p x a e → Alike p q a e → Frag n q x a e
  | 0, _, _, _, h, _ => h.elim
  | n + 1, x, a, e, h, ha => by
    have one : ∀ {Q : T_regex_step → Prop}, e = a + 1 → (∃ s, p[a]? = some s ∧ Q s) → ∃ s, q[a]? = some s ∧ Q s := fun he ⟨s, h1, h2⟩ => ⟨s, by rw [ha a (Nat.le_refl _) (by omega)]; exact h1, h2⟩
    rcases h with ⟨k, h⟩ | ⟨k, h⟩ | ⟨k, h, h'⟩ | ⟨k, h, h'⟩ | ⟨k, h, h'⟩ | ⟨k, h, h'⟩ | ⟨k, r, m, hp, h, s, h2⟩ | ⟨k, r, m, hp, s1, h, s2, h2⟩ | ⟨k, r, hp, s1, h⟩
    · exact .inl ⟨k, chain_alike (frag_le n) (frag_alike n) h ha⟩
    · exact .inr (.inl ⟨k, alts_alike (frag_le n) (frag_alike n) h ha⟩)
    · exact .inr (.inr (.inl ⟨k, h, one h h'⟩))
    · exact .inr (.inr (.inr (.inl ⟨k, h, one h h'⟩)))
    · exact .inr (.inr (.inr (.inr (.inl ⟨k, h, one h h'⟩))))
    · exact .inr (.inr (.inr (.inr (.inr (.inl ⟨k, h, one h h'⟩)))))
    · have := frag_le n _ _ _ h
      exact .inr (.inr (.inr (.inr (.inr (.inr (.inl ⟨k, r, m, hp, frag_alike n _ _ _ h (ha.sub (Nat.le_refl _) (by omega)), s.alike ha (by omega) (by omega), h2⟩))))))
    · have := frag_le n _ _ _ h
      exact .inr (.inr (.inr (.inr (.inr (.inr (.inr (.inl ⟨k, r, m, hp, s1.alike ha (Nat.le_refl _) (by omega), frag_alike n _ _ _ h (ha.sub (by omega) (by omega)), s2.alike ha (by omega) (by omega), h2⟩)))))))
    · have := frag_le n _ _ _ h
      exact .inr (.inr (.inr (.inr (.inr (.inr (.inr (.inr ⟨k, r, hp, s1.alike ha (Nat.le_refl _) (by omega), frag_alike n _ _ _ h (ha.sub (by omega) (Nat.le_refl _))⟩)))))))
def Laid (n : Nat) (p : List T_regex_step) (x : T_regex_piece) (q : List T_regex_step) : Prop := Alike p q 0 p.length ∧ Frag n q x p.length q.length
def LaidAll (n : Nat) : Prop := ∀ (x : T_regex_piece) (j : Nat), WF j x → wt x ≤ n → ∀ (k : Nat) (t t' : T_regex_piece) (p q : List T_regex_step), V p → p.length + 4 * wt x ≤ 1000000 → 4 * wt x ≤ k → regex_Expr_compile.f k ⟨t, p⟩ x = some ⟨t', q⟩ → Laid n p x q
theorem alike_refl (p : List T_regex_step) (a e : Nat) : Alike p p a e := fun _ _ _ => rfl
theorem Alike.trans {p q r : List T_regex_step} {a e : Nat} (h : Alike p q a e) (h2 : Alike q r a e) : Alike p r a e := fun i h3 h4 => (h2 i h3 h4).trans (h i h3 h4)
theorem alike_app (p : List T_regex_step) (s : List T_regex_step) : Alike p (p ++ s) 0 p.length := fun i _ hi => List.getElem?_append_left hi
theorem alike_set (p : List T_regex_step) (j : Nat) (s : T_regex_step) {a e : Nat} (h : j < a ∨ e ≤ j) : Alike p (p.set j s) a e := fun i h1 h2 => by
  rw [List.getElem?_set, if_neg (by omega)]
theorem laid_l0 {n : Nat} (ih : LaidAll n) (x1 : T_regex_piece) {j : Nat} (hw : ∀ y ∈ x1.parts, WF j y) (hn : wts x1.parts ≤ n) (hlen : x1.parts.length ≤ 1000000) :
    ∀ (k i : Nat) (t : T_regex_piece) (p : List T_regex_step), i ≤ x1.parts.length → 4 * wts (x1.parts.drop i) + 1 ≤ k → V p → p.length + 4 * wts (x1.parts.drop i) ≤ 1000000 →
      ∃ q, regex_Expr_compile.l0 k x1 (i : Int) t.kind t.parts t.spans t.not p = some (t.kind, t.parts, t.spans, t.not, q) ∧ Alike p q 0 p.length ∧ chain (Frag n q) (x1.parts.drop i) p.length q.length
  | 0, _, _, _, _, h, _, _ => by omega
  | k + 1, i, t, p, hi, hk, hV, hb => by
    rw [regex_Expr_compile.l0]
    by_cases hlt : i < x1.parts.length
    · rw [if_pos (by omega), lat_nat, List.getElem?_eq_getElem hlt]
      simp only [Option.bind_some]
      have hd := wts_drop (l := x1.parts) (i := i) (x := x1.parts[i]) (by simp [hlt])
      have hmem : x1.parts[i] ∈ x1.parts := List.getElem_mem hlt
      have hle := wt_mem hmem
      have hp1 := wt_pos x1.parts[i]
      obtain ⟨q, e, h1, h2, h3⟩ := comp_ok (hw _ hmem) (k := k) (t := ⟨t.kind, t.parts, t.spans, t.not⟩) (p := p) (by omega) hV (by omega)
      obtain ⟨a1, a2⟩ := ih x1.parts[i] j (hw _ hmem) (by omega) k _ _ p q hV (by omega) (by omega) e
      rw [e]
      simp only [Option.bind_some]
      rw [i64_id (by omega) (by omega), show ((i : Int) + 1) = ((i + 1 : Nat) : Int) by omega]
      obtain ⟨q2, e2, h4, h5⟩ := laid_l0 ih x1 hw hn hlen k (i + 1) t q (by omega) (by omega) h1 (by omega)
      refine ⟨q2, e2, a1.trans (h4.sub (Nat.le_refl _) h2), ?_⟩
      rw [List.drop_eq_getElem_cons hlt]
      exact ⟨q.length, frag_alike n _ _ _ a2 (h4.sub (Nat.zero_le _) (Nat.le_refl _)), h5⟩
    · rw [if_neg (by omega)]
      refine ⟨p, rfl, alike_refl _ _ _, ?_⟩
      rw [List.drop_eq_nil_of_le (by omega)]
      rfl
def altsJ (p : List T_regex_step) (F : T_regex_piece → Nat → Nat → Prop) : List T_regex_piece → Nat → Nat → List Nat → Prop
  | [], _, _, _ => False
  | [x], a, e, js => js = [] ∧ F x a e
  | x :: y :: r, a, e, js => ∃ m js', js = m :: js' ∧ split p a (a + 1) (m + 1) ∧ F x (a + 1) m ∧ (∃ s, p[m]? = some s ∧ s.op = 1) ∧ altsJ p F (y :: r) (m + 1) e js'
theorem altsJ_js {p : List T_regex_step} {F : T_regex_piece → Nat → Nat → Prop} (hF : ∀ x a e, F x a e → a ≤ e) : ∀ {l a e js}, altsJ p F l a e js → a ≤ e ∧ ∀ j ∈ js, a < j ∧ j < e
  | [], _, _, _, h => h.elim
  | [x], _, _, _, ⟨h1, h2⟩ => by subst h1; exact ⟨hF _ _ _ h2, fun _ h => by cases h⟩
  | x :: y :: r, a, e, js, ⟨m, js', h1, _, h2, _, h3⟩ => by
    subst h1
    have l1 := hF _ _ _ h2
    obtain ⟨l2, l3⟩ := altsJ_js hF h3
    refine ⟨by omega, fun j hj => ?_⟩
    rcases List.mem_cons.1 hj with rfl | hj
    · omega
    · have := l3 j hj; omega
def Patched (q q' : List T_regex_step) (js : List Nat) (E : Nat) : Prop := q'.length = q.length ∧ (∀ i, i ∉ js → q'[i]? = q[i]?) ∧ ∀ m ∈ js, ∀ s, q[m]? = some s → ∃ s', q'[m]? = some s' ∧ s'.op = s.op ∧ s'.to_ = ((E : Int), (E : Int))
theorem altsJ_patch {q q' : List T_regex_step} {E : Nat} {F G : T_regex_piece → Nat → Nat → Prop} (hF : ∀ x a e, F x a e → a ≤ e) (hG : ∀ x a e, F x a e → Alike q q' a e → G x a e) :
    ∀ {l a js js0}, altsJ q F l a E js → Patched q q' js0 E → (∀ j ∈ js, j ∈ js0) → (∀ j ∈ js0, j ∈ js ∨ j < a) → alts q' G l a E
  | [], _, _, _, h, _, _, _ => h.elim
  | [x], a, js, js0, ⟨h1, h2⟩, hp, _, h4 => by
    subst h1
    refine hG _ _ _ h2 fun i hi _ => hp.2.1 i fun hj => ?_
    rcases h4 i hj with h | h
    · cases h
    · omega
  | x :: y :: r, a, js, js0, ⟨m, js', h1, ⟨s, s1, s2⟩, h2, ⟨u, u1, u2⟩, h3⟩, hp, h4, h5 => by
    subst h1
    have l1 := hF _ _ _ h2
    obtain ⟨l2, l3⟩ := altsJ_js hF h3
    have out : ∀ i, a ≤ i → i < m → i ∉ js0 := fun i hi him hj => by
      rcases h5 i hj with h | h
      · rcases List.mem_cons.1 h with rfl | h
        · omega
        · have := l3 i h; omega
      · omega
    refine ⟨m, ⟨s, by rw [hp.2.1 a (out a (Nat.le_refl _) (by omega))]; exact s1, s2⟩, hG _ _ _ h2 (fun i hi him => hp.2.1 i (out i (by omega) him)), ?_, altsJ_patch hF hG h3 hp (fun j hj => h4 j (List.mem_cons_of_mem _ hj)) (fun j hj => ?_)⟩
    · obtain ⟨u', v1, v2, v3⟩ := hp.2.2 m (h4 m (List.mem_cons_self ..)) u u1
      exact ⟨u', v1, by rw [v2, u2], v3⟩
    · rcases h5 j hj with h | h
      · rcases List.mem_cons.1 h with rfl | h
        · exact .inr (by omega)
        · exact .inl h
      · exact .inr (by omega)
theorem patch_l1 (js : List Nat) (hnd : js.Nodup) : ∀ (k i : Nat) (p q0 : List T_regex_step), i ≤ js.length → js.length < k + i → (∀ j ∈ js, j < p.length) → p.length ≤ 1000000 → js.length ≤ 1000000 → Patched q0 p (js.take i) p.length →
    ∃ q, regex_Expr_choices.l1 k (js.map fun (j : Nat) => (j : Int)) (i : Int) p = some q ∧ Patched q0 q js p.length
  | 0, _, _, _, _, h, _, _, _, _ => by omega
  | k + 1, i, p, q0, hi, hk, hj, hb, hb2, hp => by
    rw [regex_Expr_choices.l1, List.length_map]
    by_cases hlt : i < js.length
    · rw [if_pos (by omega), lat_nat, List.getElem?_eq_getElem (by rw [List.length_map]; exact hlt), Option.bind_some, List.getElem_map]
      have h1 := hj js[i] (List.getElem_mem hlt)
      rw [lat_nat, List.getElem?_eq_getElem h1, Option.bind_some, Int.toNat_natCast]
      rw [i64_id (by omega) (by omega), show ((i : Int) + 1) = ((i + 1 : Nat) : Int) by omega]
      have htk : js.take (i + 1) = js.take i ++ [js[i]] := by rw [List.take_succ_eq_append_getElem hlt]
      have hni : js[i] ∉ js.take i := by
        intro hm
        obtain ⟨m, hm1, hm2⟩ := List.getElem_of_mem hm
        rw [List.length_take] at hm1
        rw [List.getElem_take] at hm2
        exact List.pairwise_iff_getElem.1 hnd m i (by omega) hlt (by omega) hm2
      obtain ⟨q, e2, h2⟩ := patch_l1 js hnd k (i + 1) (p.set js[i] ⟨p[js[i]].op, p[js[i]].spans, p[js[i]].all, p[js[i]].not, ((p.length : Int), (p.length : Int))⟩) q0 (by omega) (by omega) (fun j hjm => by rw [List.length_set]; exact hj j hjm) (by rw [List.length_set]; exact hb) hb2 (by
        rw [List.length_set]
        refine ⟨by rw [List.length_set]; exact hp.1, fun x hx => ?_, fun m hm s hs => ?_⟩
        · rw [htk, List.mem_append, List.mem_singleton] at hx
          rw [List.getElem?_set, if_neg (fun h => hx (.inr h.symm))]
          exact hp.2.1 x fun h => hx (.inl h)
        · rw [htk, List.mem_append, List.mem_singleton] at hm
          by_cases hmi : m = js[i]
          · subst hmi
            have hpe : p[js[i]]? = q0[js[i]]? := hp.2.1 _ hni
            rw [hs, List.getElem?_eq_getElem h1] at hpe
            refine ⟨_, by rw [List.getElem?_set, if_pos rfl, if_pos h1], ?_, rfl⟩
            rw [Option.some.inj hpe]
          · rw [List.getElem?_set, if_neg (fun h => hmi h.symm)]
            exact hp.2.2 m (hm.resolve_right hmi) s hs)
      rw [List.length_set] at h2
      exact ⟨q, e2, h2⟩
    · rw [if_neg (by omega)]
      rw [List.take_of_length_le (by omega)] at hp
      exact ⟨p, rfl, hp⟩
theorem laid_ch0 {n : Nat} (ih : LaidAll n) (x1 : List T_regex_piece) (hw : ∀ y ∈ x1, WF 1 y) (hn : wts x1 ≤ n) (hlen : x1.length ≤ 1000000) :
    ∀ (k i : Nat) (js : List Nat) (t : T_regex_piece) (p : List T_regex_step), i < x1.length → 4 * wts (x1.drop i) + 1 ≤ k → V p → p.length + 4 * wts (x1.drop i) ≤ 1000000 → js.length ≤ i →
      ∃ js' q, regex_Expr_choices.l0 k x1 (js.map fun (j : Nat) => (j : Int)) (i : Int) t.kind t.parts t.spans t.not p = some ((js ++ js').map (fun (j : Nat) => (j : Int)), t.kind, t.parts, t.spans, t.not, q) ∧ V q ∧ q.length ≤ p.length + 4 * wts (x1.drop i) ∧ Alike p q 0 p.length ∧ altsJ q (Frag n q) (x1.drop i) p.length q.length js' ∧ js'.length ≤ x1.length
  | 0, _, _, _, _, _, h, _, _, _ => by omega
  | k + 1, i, js, t, p, hi, hk, hV, hb, hjl => by
    rw [regex_Expr_choices.l0, if_pos (by omega), lat_nat, List.getElem?_eq_getElem hi]
    simp only [Option.bind_some]
    have hd := wts_drop (l := x1) (i := i) (x := x1[i]) (by simp [hi])
    have hmem : x1[i] ∈ x1 := List.getElem_mem hi
    have hle := wt_mem hmem
    have hp1 := wt_pos x1[i]
    have hxl := wts_len (x1.drop i)
    rw [List.length_drop] at hxl
    have hxl2 := wts_len (x1.drop (i + 1))
    rw [List.length_drop] at hxl2
    rw [i64_id (by omega) (by omega)]
    have hdr : x1.drop i = x1[i] :: x1.drop (i + 1) := List.drop_eq_getElem_cons hi
    by_cases hlast : (i : Int) = (x1.length : Int) - 1
    · rw [if_pos hlast]
      obtain ⟨q, e, h1, h2, h3⟩ := comp_ok (hw _ hmem) (k := k) (t := ⟨t.kind, t.parts, t.spans, t.not⟩) (p := p) (by omega) hV (by omega)
      obtain ⟨a1, a2⟩ := ih x1[i] 1 (hw _ hmem) (by omega) k _ _ p q hV (by omega) (by omega) e
      rw [e]
      have hnil : x1.drop (i + 1) = [] := List.drop_eq_nil_of_le (by omega)
      exact ⟨[], q, by rw [List.append_nil]; rfl, h1, by omega, a1, by rw [hdr, hnil]; exact ⟨rfl, a2⟩, Nat.zero_le _⟩
    · rw [if_neg hlast, put_ok _ (by omega)]
      simp only [Option.bind_some]
      have hV1 : V (p ++ [⟨1, [], false, false, (0, 0)⟩]) := hV.app ⟨⟨.inr (.inl rfl), Nat.zero_le _⟩, ⟨Int.le_refl _, Int.natCast_nonneg _⟩, ⟨Int.le_refl _, Int.natCast_nonneg _⟩⟩
      have e1 : lat (p ++ [(⟨1, [], false, false, (0, 0)⟩ : T_regex_step)]) (p.length : Int) = some ⟨1, [], false, false, (0, 0)⟩ := by
        rw [lat_nat, List.getElem?_append_right (Nat.le_refl _), Nat.sub_self]; rfl
      rw [e1]
      simp only [Option.bind_some, Int.toNat_natCast]
      have hset : (p ++ [(⟨1, [], false, false, (0, 0)⟩ : T_regex_step)]).set p.length ⟨1, [], false, false, (((p ++ [(⟨1, [], false, false, (0, 0)⟩ : T_regex_step)]).length : Int), 0)⟩ = p ++ [⟨1, [], false, false, ((p.length + 1 : Nat), 0)⟩] := by
        rw [List.set_append_right _ _ (Nat.le_refl _), Nat.sub_self]
        simp
      rw [hset]
      have hV2 : V (p ++ [(⟨1, [], false, false, ((p.length + 1 : Nat), 0)⟩ : T_regex_step)]) := hV.app ⟨⟨.inr (.inl rfl), Nat.zero_le _⟩, ⟨Int.natCast_nonneg _, Int.le_refl _⟩, ⟨Int.le_refl _, Int.natCast_nonneg _⟩⟩
      obtain ⟨q, e2, h1, h2, h3⟩ := comp_ok (hw _ hmem) (k := k) (t := ⟨t.kind, t.parts, t.spans, t.not⟩) (p := p ++ [⟨1, [], false, false, ((p.length + 1 : Nat), 0)⟩]) (by omega) hV2 (by simp; omega)
      obtain ⟨a1, a2⟩ := ih x1[i] 1 (hw _ hmem) (by omega) k _ _ _ q hV2 (by simp; omega) (by omega) e2
      rw [List.length_append, List.length_singleton] at h2 h3 a1 a2
      rw [e2]
      simp only [Option.bind_some]
      rw [put_ok _ (by omega)]
      simp only [Option.bind_some]
      have hja : Sp.app 8 (js.map fun (j : Nat) => (j : Int)) [(q.length : Int)] = some ((js ++ [q.length]).map fun (j : Nat) => (j : Int)) := by
        rw [app_small (by simp; omega) (by decide)]
        simp
      rw [hja]
      simp only [Option.bind_some]
      have hV3 : V (q ++ [⟨1, [], false, false, (0, 0)⟩]) := h1.app ⟨⟨.inr (.inl rfl), Nat.zero_le _⟩, ⟨Int.le_refl _, Int.natCast_nonneg _⟩, ⟨Int.le_refl _, Int.natCast_nonneg _⟩⟩
      have hq0 : q[p.length]? = some ⟨1, [], false, false, ((p.length + 1 : Nat), 0)⟩ := by
        rw [a1 p.length (Nat.zero_le _) (by omega), List.getElem?_append_right (Nat.le_refl _), Nat.sub_self]; rfl
      have e4 : lat (q ++ [(⟨1, [], false, false, (0, 0)⟩ : T_regex_step)]) (p.length : Int) = some ⟨1, [], false, false, ((p.length + 1 : Nat), 0)⟩ := by
        rw [lat_nat, List.getElem?_append_left (by omega)]; exact hq0
      rw [e4]
      simp only [Option.bind_some]
      rw [i64_id (by omega) (by omega), show ((i : Int) + 1) = ((i + 1 : Nat) : Int) by omega]
      generalize hp4 : (q ++ [(⟨1, [], false, false, (0, 0)⟩ : T_regex_step)]).set p.length ⟨1, [], false, false, (((p.length + 1 : Nat) : Int), ((q ++ [(⟨1, [], false, false, (0, 0)⟩ : T_regex_step)]).length : Int))⟩ = p4
      have hl4 : p4.length = q.length + 1 := by rw [← hp4, List.length_set, List.length_append, List.length_singleton]
      have hV4 : V p4 := by
        rw [← hp4]
        exact hV3.set _ ⟨⟨.inr (.inl rfl), Nat.zero_le _⟩, ⟨Int.natCast_nonneg _, by show (((p.length + 1 : Nat)) : Int) ≤ _; rw [List.length_append, List.length_singleton]; omega⟩, ⟨Int.natCast_nonneg _, Int.le_refl _⟩⟩
      obtain ⟨js', q2, e3, h4, h5, h6, h7, h8⟩ := laid_ch0 ih x1 hw hn hlen k (i + 1) (js ++ [q.length]) ⟨t.kind, t.parts, t.spans, t.not⟩ p4 (by omega) (by omega) hV4 (by omega) (by simp; omega)
      have al1 : Alike q p4 (p.length + 1) q.length := by
        rw [← hp4]
        exact ((alike_app q _).sub (Nat.zero_le _) (Nat.le_refl _)).trans (alike_set _ _ _ (.inl (by omega)))
      have al0 : Alike p q2 0 p.length := by
        refine Alike.trans (alike_app p [⟨1, [], false, false, ((p.length + 1 : Nat), 0)⟩]) ((a1.sub (Nat.le_refl _) (by omega)).trans ?_)
        refine Alike.trans ((alike_app q [(⟨1, [], false, false, (0, 0)⟩ : T_regex_step)]).sub (Nat.le_refl _) (by omega)) ?_
        refine Alike.trans (alike_set _ p.length ⟨1, [], false, false, (((p.length + 1 : Nat) : Int), ((q ++ [(⟨1, [], false, false, (0, 0)⟩ : T_regex_step)]).length : Int))⟩ (.inr (Nat.le_refl _))) ?_
        rw [hp4]
        exact h6.sub (Nat.le_refl _) (by omega)
      have hget1 : q2[p.length]? = some ⟨1, [], false, false, (((p.length + 1 : Nat) : Int), ((q.length + 1 : Nat) : Int))⟩ := by
        rw [h6 p.length (Nat.zero_le _) (by omega), ← hp4, List.getElem?_set, if_pos rfl, if_pos (by simp; omega)]
        simp
      have hget2 : q2[q.length]? = some ⟨1, [], false, false, (0, 0)⟩ := by
        rw [h6 q.length (Nat.zero_le _) (by omega), ← hp4, List.getElem?_set, if_neg (by omega), List.getElem?_append_right (Nat.le_refl _), Nat.sub_self]
        rfl
      refine ⟨q.length :: js', q2, ?_, h4, by omega, al0, ?_, ?_⟩
      · rw [e3]
        simp
      · rw [hdr]
        cases hcs : x1.drop (i + 1) with
        | nil =>
          have := congrArg List.length hcs
          rw [List.length_drop] at this
          simp at this
          omega
        | cons y r =>
          rw [hcs, hl4] at h7
          exact ⟨q.length, js', rfl, ⟨_, hget1, rfl, rfl⟩, frag_alike n _ _ _ a2 (al1.trans (h6.sub (Nat.zero_le _) (by omega))), ⟨_, hget2, rfl⟩, h7⟩
      · have : js'.length ≤ x1.length - (i + 1) := by
          have key : ∀ (l : List T_regex_piece) (a e : Nat) (js : List Nat), altsJ q2 (Frag n q2) l a e js → js.length + 1 ≤ l.length := by
            intro l
            induction l with
            | nil => intro a e js h; exact h.elim
            | cons x l ihl =>
              intro a e js h
              cases l with
              | nil => obtain ⟨rfl, _⟩ := h; simp
              | cons y r =>
                obtain ⟨m, js', rfl, _, _, _, h3⟩ := h
                have := ihl _ _ _ h3
                simp at this ⊢; omega
          have := key _ _ _ _ h7
          rw [List.length_drop] at this
          omega
        simp; omega
theorem altsJ_nodup {p : List T_regex_step} {F : T_regex_piece → Nat → Nat → Prop} (hF : ∀ x a e, F x a e → a ≤ e) : ∀ {l a e js}, altsJ p F l a e js → js.Nodup
  | [], _, _, _, h => h.elim
  | [x], _, _, _, ⟨h1, _⟩ => by subst h1; exact List.nodup_nil
  | x :: y :: r, a, e, js, ⟨m, js', h1, _, h2, _, h3⟩ => by
    subst h1
    refine List.nodup_cons.2 ⟨fun hm => ?_, altsJ_nodup hF h3⟩
    have := (altsJ_js hF h3).2 m hm
    omega
theorem laid_ch {n : Nat} (ih : LaidAll n) {x1 : List T_regex_piece} (hne : x1 ≠ []) (hw : ∀ y ∈ x1, WF 1 y) (hn : wts x1 ≤ n) {k : Nat} {t : T_regex_piece} {p : List T_regex_step} (hk : 4 * wts x1 + 2 ≤ k) (hV : V p) (hb : p.length + 4 * wts x1 ≤ 1000000) :
    ∃ q, regex_Expr_choices.f k ⟨t, p⟩ x1 = some ⟨t, q⟩ ∧ Alike p q 0 p.length ∧ alts q (Frag n q) x1 p.length q.length := by
  cases k with
  | zero => omega
  | succ k =>
    rw [regex_Expr_choices.f]
    have hl : 0 < x1.length := List.length_pos_iff.2 hne
    have hxl := wts_len x1
    obtain ⟨js, q, e, h1, h2, h3, h4, h5⟩ := laid_ch0 ih x1 hw hn (by omega) k 0 [] t p hl (by simp; omega) hV (by simpa using hb) (Nat.le_refl _)
    rw [List.drop_zero] at h2 h4
    rw [show ((0 : Nat) : Int) = 0 from rfl, List.map_nil, List.nil_append] at e
    rw [e]
    simp only [Option.bind_some]
    have hjs := altsJ_js (frag_le n) h4
    obtain ⟨q2, e2, h6⟩ := patch_l1 js (altsJ_nodup (frag_le n) h4) k 0 q q (Nat.zero_le _) (by omega) (fun j hj => (hjs.2 j hj).2) (by omega) (by omega) ⟨rfl, fun _ _ => rfl, fun _ h => by cases h⟩
    rw [show ((0 : Nat) : Int) = 0 from rfl] at e2
    rw [e2]
    refine ⟨q2, ?_, ?_, ?_⟩
    · simp only [Option.bind_some, peta]
    · refine h3.trans fun i _ hi => h6.2.1 i fun hj => ?_
      have := (hjs.2 i hj).1
      omega
    · rw [h6.1]
      exact altsJ_patch (frag_le n) (fun x a e hf ha => frag_alike n x a e hf ha) h4 h6 (fun _ h => h) (fun j hj => .inl hj)
theorem laid_n (n : Nat) (ih : LaidAll n) : LaidAll (n + 1) := by
  intro x j hx hn k t t' p q hV hb hk h
  have hp1 := wt_pos x
  cases k with
  | zero => omega
  | succ k =>
    rw [regex_Expr_compile.f] at h
    have put1 : ∀ (s : T_regex_step), ((regex_Expr_put.f k ⟨t, p⟩ s).bind fun y => some y.2) = some ⟨t', q⟩ → Alike p q 0 p.length ∧ q.length = p.length + 1 ∧ q[p.length]? = some s := by
      intro s h
      rw [put_ok s (by omega)] at h
      simp only [Option.bind_some, Option.some.injEq, T_regex_Expr.mk.injEq] at h
      obtain ⟨_, rfl⟩ := h
      exact ⟨alike_app _ _, by simp, by rw [List.getElem?_append_right (Nat.le_refl _), Nat.sub_self]; rfl⟩
    have chs : ∀ ps : List T_regex_piece, ps ≠ [] → (∀ y ∈ ps, WF 1 y) → wts ps ≤ n → 4 * wts ps + 2 ≤ k → p.length + 4 * wts ps ≤ 1000000 → ((regex_Expr_choices.f k ⟨t, p⟩ ps).bind fun y => some y) = some ⟨t', q⟩ → Alike p q 0 p.length ∧ alts q (Frag n q) ps p.length q.length := by
      intro ps hne hw hn' hk' hb' h
      obtain ⟨q', e, h1, h2⟩ := laid_ch ih hne hw hn' hk' hV hb' (t := t)
      rw [e] at h
      simp only [Option.bind_some, Option.some.injEq, T_regex_Expr.mk.injEq] at h
      obtain ⟨_, rfl⟩ := h
      exact ⟨h1, h2⟩
    have n01 : ¬ (1 : Int) = 0 := by decide
    cases hx with
    | num hm =>
      obtain ⟨h1, h2, h3⟩ := put1 _ h
      exact ⟨h1, .inr (.inr (.inl ⟨.inl rfl, h2, _, h3, rfl, rfl, rfl, rfl⟩))⟩
    | any =>
      obtain ⟨h1, h2, h3⟩ := put1 _ h
      exact ⟨h1, .inr (.inr (.inr (.inl ⟨rfl, h2, _, h3, rfl, rfl⟩)))⟩
    | start =>
      obtain ⟨h1, h2, h3⟩ := put1 _ h
      exact ⟨h1, .inr (.inr (.inr (.inr (.inl ⟨rfl, h2, _, h3, rfl⟩))))⟩
    | stop =>
      obtain ⟨h1, h2, h3⟩ := put1 _ h
      exact ⟨h1, .inr (.inr (.inr (.inr (.inr (.inl ⟨rfl, h2, _, h3, rfl⟩)))))⟩
    | set hs1 hs2 =>
      obtain ⟨h1, h2, h3⟩ := put1 _ h
      exact ⟨h1, .inr (.inr (.inl ⟨.inr rfl, h2, _, h3, rfl, rfl, rfl, rfl⟩))⟩
    | par hc =>
      cases hc with
      | choice hne hw =>
        rename_i ps
        simp only [wt, List.length_nil] at hn hk hb
        simp only [if_neg n01, if_true] at h
        obtain ⟨h1, h2⟩ := chs ps hne hw (by omega) (by omega) (by omega) h
        exact ⟨h1, .inr (.inl ⟨rfl, h2⟩)⟩
    | choice hne hw =>
      rename_i ps
      simp only [wt, List.length_nil] at hn hk hb
      simp only [if_neg n01, if_true] at h
      obtain ⟨h1, h2⟩ := chs ps hne hw (by omega) (by omega) (by omega) h
      exact ⟨h1, .inr (.inl ⟨rfl, h2⟩)⟩
    | row hw =>
      rename_i ps
      simp only [wt, List.length_nil] at hn hk hb
      obtain ⟨q', e, h1, h2⟩ := laid_l0 ih ⟨0, ps, [], false⟩ hw (by show wts ps ≤ n; omega) (by have := wts_len ps; show ps.length ≤ _; omega) k 0 t p (Nat.zero_le _) (by show 4 * wts (ps.drop 0) + 1 ≤ k; rw [List.drop_zero]; omega) hV (by show p.length + 4 * wts (ps.drop 0) ≤ _; rw [List.drop_zero]; omega)
      rw [show ((0 : Nat) : Int) = 0 from rfl] at e
      simp only [if_true, e, Option.bind_some, Option.some.injEq, T_regex_Expr.mk.injEq] at h
      obtain ⟨_, rfl⟩ := h
      rw [List.drop_zero] at h2
      exact ⟨h1, .inl ⟨rfl, h2⟩⟩
    | rep hkk hq =>
      rename_i c r
      simp only [wt, wts, List.length_nil] at hn hk hb
      have hr1 := wt_pos r
      have hl0 : lat [r] 0 = some r := rfl
      have e0 : ∀ q : List T_regex_step, ∀ s : T_regex_step, lat (q ++ [s]) (q.length : Int) = some s := fun q s => by
        rw [lat_nat, List.getElem?_append_right (Nat.le_refl _), Nat.sub_self]; rfl
      have eset : ∀ (q : List T_regex_step) (u s : T_regex_step), (q ++ [u]).set q.length s = q ++ [s] := fun q u s => by
        rw [List.set_append_right _ _ (Nat.le_refl _), Nat.sub_self]; rfl
      by_cases h8 : c = 8
      · subst h8
        obtain ⟨q1, e, h1, h2, h3⟩ := comp_ok hq (k := k) (t := t) (p := p) (by omega) hV (by omega)
        obtain ⟨a1, a2⟩ := ih r 0 hq (by omega) k _ _ p q1 hV (by omega) (by omega) e
        have f0 : ¬ (8 : Int) = 0 := by decide
        have f1 : ¬ (8 : Int) = 1 := by decide
        have f2 : ¬ (8 : Int) = 2 := by decide
        have f3 : ¬ (8 : Int) = 3 := by decide
        have f5 : ¬ (8 : Int) = 5 := by decide
        have f6 : ¬ (8 : Int) = 6 := by decide
        have f4 : ((8 : Int) == 4) = false := by decide
        simp only [if_neg f0, if_neg f1, if_neg f2, if_neg f3, if_neg f5, if_neg f6, f4, Option.bind_some, Bool.false_eq_true, if_false, if_true, hl0, e] at h
        rw [put_ok _ (by omega)] at h
        simp only [Option.bind_some, e0, Int.toNat_natCast, eset, Option.some.injEq, T_regex_Expr.mk.injEq] at h
        obtain ⟨_, rfl⟩ := h
        refine ⟨a1.trans ((alike_app q1 _).sub (Nat.le_refl _) h2), .inr (.inr (.inr (.inr (.inr (.inr (.inl ⟨rfl, r, q1.length, rfl, frag_alike n _ _ _ a2 ((alike_app q1 _).sub (Nat.zero_le _) (Nat.le_refl _)), ⟨_, by rw [List.getElem?_append_right (Nat.le_refl _), Nat.sub_self]; rfl, rfl, ?_⟩, by simp⟩))))))⟩
        simp
      · have hc79 : c = 7 ∨ c = 9 := by omega
        have f0 : ¬ c = 0 := by omega
        have f1 : ¬ c = 1 := by omega
        have f2 : ¬ c = 2 := by omega
        have f3 : ¬ c = 3 := by omega
        have f5 : ¬ c = 5 := by omega
        have f6 : ¬ c = 6 := by omega
        have f4 : (c == 4) = false := by simp; omega
        simp only [if_neg f0, if_neg f1, if_neg f2, if_neg f3, if_neg f5, if_neg f6, if_neg h8, f4, Option.bind_some, Bool.false_eq_true, if_false] at h
        rw [put_ok _ (by omega)] at h
        simp only [Option.bind_some, e0, Int.toNat_natCast, eset, hl0] at h
        have hlen1 : ((p ++ [(⟨1, [], false, false, (0, 0)⟩ : T_regex_step)]).length : Int) = ((p.length + 1 : Nat) : Int) := by simp
        rw [hlen1] at h
        have hV2 : V (p ++ [(⟨1, [], false, false, ((p.length + 1 : Nat), 0)⟩ : T_regex_step)]) := hV.app ⟨⟨.inr (.inl rfl), Nat.zero_le _⟩, ⟨Int.natCast_nonneg _, Int.le_refl _⟩, ⟨Int.le_refl _, Int.natCast_nonneg _⟩⟩
        obtain ⟨q1, e, h1, h2, h3⟩ := comp_ok hq (k := k) (t := t) (p := p ++ [⟨1, [], false, false, ((p.length + 1 : Nat), 0)⟩]) (by omega) hV2 (by simp; omega)
        obtain ⟨a1, a2⟩ := ih r 0 hq (by omega) k _ _ _ q1 hV2 (by simp; omega) (by omega) e
        rw [List.length_append, List.length_singleton] at h2 h3 a1 a2
        rw [e, Option.bind_some] at h
        have hq1 : q1[p.length]? = some ⟨1, [], false, false, ((p.length + 1 : Nat), 0)⟩ := by
          rw [a1 p.length (Nat.zero_le _) (by omega), List.getElem?_append_right (Nat.le_refl _), Nat.sub_self]; rfl
        have al0 : Alike p q1 0 p.length := (alike_app p _).trans (a1.sub (Nat.le_refl _) (by omega))
        by_cases h7 : c = 7
        · subst h7
          rw [if_pos rfl, put_ok _ (by omega)] at h
          simp only [Option.bind_some, e0, Int.toNat_natCast, eset] at h
          have e5 : lat (q1 ++ [(⟨1, [], false, false, ((p.length : Int), (p.length : Int))⟩ : T_regex_step)]) (p.length : Int) = some ⟨1, [], false, false, ((p.length + 1 : Nat), 0)⟩ := by
            rw [lat_nat, List.getElem?_append_left (by omega)]; exact hq1
          rw [e5] at h
          simp only [Option.bind_some, Option.some.injEq, T_regex_Expr.mk.injEq] at h
          obtain ⟨_, rfl⟩ := h
          generalize hs0 : (⟨1, [], false, false, (((p.length + 1 : Nat) : Int), ((q1 ++ [(⟨1, [], false, false, ((p.length : Int), (p.length : Int))⟩ : T_regex_step)]).length : Int))⟩ : T_regex_step) = s0
          have g1 : ((q1 ++ [(⟨1, [], false, false, ((p.length : Int), (p.length : Int))⟩ : T_regex_step)]).set p.length s0)[p.length]? = some s0 := by
            rw [List.getElem?_set, if_pos rfl, if_pos (by simp; omega)]
          have g2 : ((q1 ++ [(⟨1, [], false, false, ((p.length : Int), (p.length : Int))⟩ : T_regex_step)]).set p.length s0)[q1.length]? = some ⟨1, [], false, false, ((p.length : Int), (p.length : Int))⟩ := by
            rw [List.getElem?_set, if_neg (by omega), List.getElem?_append_right (Nat.le_refl _), Nat.sub_self]; rfl
          refine ⟨al0.trans (((alike_app q1 _).sub (Nat.le_refl _) (by omega)).trans (alike_set _ _ _ (.inr (Nat.le_refl _)))), .inr (.inr (.inr (.inr (.inr (.inr (.inr (.inl ⟨rfl, r, q1.length, rfl, ⟨s0, g1, by rw [← hs0], by rw [← hs0]; simp⟩, frag_alike n _ _ _ a2 (((alike_app q1 _).sub (Nat.zero_le _) (Nat.le_refl _)).trans (alike_set _ _ _ (.inl (by omega)))), ⟨_, g2, rfl, rfl⟩, by simp⟩)))))))⟩
        · obtain rfl : c = 9 := by omega
          rw [if_neg h7] at h
          simp only [Option.bind_some] at h
          have e5 : lat q1 (p.length : Int) = some ⟨1, [], false, false, ((p.length + 1 : Nat), 0)⟩ := by rw [lat_nat]; exact hq1
          rw [e5] at h
          simp only [Option.bind_some, Int.toNat_natCast, Option.some.injEq, T_regex_Expr.mk.injEq] at h
          obtain ⟨_, rfl⟩ := h
          generalize hs0 : (⟨1, [], false, false, (((p.length + 1 : Nat) : Int), (q1.length : Int))⟩ : T_regex_step) = s0
          have g1 : (q1.set p.length s0)[p.length]? = some s0 := by
            rw [List.getElem?_set, if_pos rfl, if_pos (by omega)]
          refine ⟨al0.trans (alike_set _ _ _ (.inr (Nat.le_refl _))), .inr (.inr (.inr (.inr (.inr (.inr (.inr (.inr ⟨rfl, r, rfl, ⟨s0, g1, by rw [← hs0], by rw [← hs0, List.length_set]⟩, ?_⟩)))))))⟩
          rw [List.length_set]
          exact frag_alike n _ _ _ a2 (alike_set _ _ _ (.inl (by omega)))
theorem laid_all : ∀ n, LaidAll n
  | 0 => fun x _ _ h => by have := wt_pos x; omega
  | n + 1 => laid_n n (laid_all n)
end Go.Proofs.YtkkflfmonidepaaDoor
namespace Go.Proofs.YtkkflfmonidepaaDoor
open Sp
set_option maxRecDepth 100000
set_option maxHeartbeats 4000000
inductive Star (R : Nat → Nat → Prop) : Nat → Nat → Prop
  | refl (i : Nat) : Star R i i
  | step {i j k : Nat} : R i j → Star R j k → Star R i k
def schain (S : T_regex_piece → Nat → Nat → Prop) : List T_regex_piece → Nat → Nat → Prop
  | [], i, j => i = j
  | x :: xs, i, j => ∃ m, S x i m ∧ schain S xs m j
def inS (x : T_regex_piece) (v : Int) : Bool := if x.spans.any (fun y => decide (v ≥ y.from_) && decide (v ≤ y.to_)) then !x.not else x.not
def Sem : Nat → List Int → T_regex_piece → Nat → Nat → Prop
  | 0, _, _, _, _ => False
  | n + 1, l, x, i, j =>
    (x.kind = 0 ∧ schain (Sem n l) x.parts i j) ∨
    (x.kind = 1 ∧ ∃ y ∈ x.parts, Sem n l y i j) ∨
    ((x.kind = 2 ∨ x.kind = 4) ∧ j = i + 1 ∧ ∃ v, l[i]? = some v ∧ inS x v = true) ∨
    (x.kind = 3 ∧ j = i + 1 ∧ i < l.length) ∨
    (x.kind = 5 ∧ j = i ∧ i = 0) ∨
    (x.kind = 6 ∧ j = i ∧ i = l.length) ∨
    (x.kind = 8 ∧ ∃ q m, x.parts = [q] ∧ Sem n l q i m ∧ Star (Sem n l q) m j) ∨
    (x.kind = 7 ∧ ∃ q, x.parts = [q] ∧ Star (Sem n l q) i j) ∨
    (x.kind = 9 ∧ ∃ q, x.parts = [q] ∧ (i = j ∨ Sem n l q i j))
def St (p : List T_regex_step) (l : List Int) (a i b j : Nat) : Prop :=
  (j = i ∧ eps p (i : Int) (l.length : Int) a b) ∨ (j = i + 1 ∧ b = a + 1 ∧ ∃ s x, p[a]? = some s ∧ s.op = 0 ∧ l[i]? = some x ∧ tk s x = true)
inductive Pa (p : List T_regex_step) (l : List Int) : Nat → Nat → Nat → Nat → Nat → Prop
  | nil (a i : Nat) : Pa p l 0 a i a i
  | cons {N a i b j c k : Nat} : St p l a i b j → Pa p l N b j c k → Pa p l (N + 1) a i c k
theorem Pa.trans {p : List T_regex_step} {l : List Int} {N M a i b j c k : Nat} (h : Pa p l N a i b j) (h2 : Pa p l M b j c k) : Pa p l (N + M) a i c k := by
  induction h with
  | nil => rw [Nat.zero_add]; exact h2
  | cons h1 _ ih =>
    rename_i N' _ _ _ _ _ _ _
    rw [show N' + 1 + M = (N' + M) + 1 by omega]
    exact .cons h1 (ih h2)
theorem Pa.one {p : List T_regex_step} {l : List Int} {a i b j : Nat} (h : St p l a i b j) : Pa p l 1 a i b j := .cons h (.nil _ _)
theorem St.split {p : List T_regex_step} {l : List Int} {a b c : Nat} (h : split p a b c) {i d j : Nat} : St p l a i d j ↔ i = j ∧ (d = b ∨ d = c) := by
  obtain ⟨s, h1, h2, h3⟩ := h
  constructor
  · rintro (⟨rfl, u, e1, e2⟩ | ⟨_, _, u, _, e1, e2, _⟩)
    · rw [h1] at e1
      obtain rfl := Option.some.inj e1
      refine ⟨rfl, ?_⟩
      rcases e2 with ⟨_, e2⟩ | ⟨e2, _⟩ | ⟨e2, _⟩
      · rw [h3] at e2
        rcases e2 with e2 | e2
        · left; simp only at e2; omega
        · right; simp only at e2; omega
      · rw [h2] at e2; exact absurd e2 (by decide)
      · rw [h2] at e2; exact absurd e2 (by decide)
    · rw [h1] at e1
      obtain rfl := Option.some.inj e1
      rw [h2] at e2; exact absurd e2 (by decide)
  · rintro ⟨rfl, hd⟩
    refine .inl ⟨rfl, s, h1, .inl ⟨h2, ?_⟩⟩
    rw [h3]
    rcases hd with rfl | rfl
    · exact .inl rfl
    · exact .inr rfl
theorem St.op0 {p : List T_regex_step} {l : List Int} {a : Nat} {s : T_regex_step} (h1 : p[a]? = some s) (h2 : s.op = 0) {i d j : Nat} : St p l a i d j ↔ j = i + 1 ∧ d = a + 1 ∧ ∃ x, l[i]? = some x ∧ tk s x = true := by
  constructor
  · rintro (⟨_, u, e1, e2⟩ | ⟨e0, e1, u, x, e2, _, e3, e4⟩)
    · rw [h1] at e1
      obtain rfl := Option.some.inj e1
      rcases e2 with ⟨e2, _⟩ | ⟨e2, _⟩ | ⟨e2, _⟩ <;> (rw [h2] at e2; exact absurd e2 (by decide))
    · rw [h1] at e2
      obtain rfl := Option.some.inj e2
      exact ⟨e0, e1, x, e3, e4⟩
  · rintro ⟨e0, e1, x, e3, e4⟩
    exact .inr ⟨e0, e1, s, x, h1, h2, e3, e4⟩
theorem St.op2 {p : List T_regex_step} {l : List Int} {a : Nat} {s : T_regex_step} (h1 : p[a]? = some s) (h2 : s.op = 2) {i d j : Nat} : St p l a i d j ↔ j = i ∧ d = a + 1 ∧ i = 0 := by
  constructor
  · rintro (⟨e0, u, e1, e2⟩ | ⟨_, _, u, x, e2, e3, _⟩)
    · rw [h1] at e1
      obtain rfl := Option.some.inj e1
      rcases e2 with ⟨e2, _⟩ | ⟨_, e2, e3⟩ | ⟨e2, _⟩
      · rw [h2] at e2; exact absurd e2 (by decide)
      · exact ⟨e0, e3, by omega⟩
      · rw [h2] at e2; exact absurd e2 (by decide)
    · rw [h1] at e2
      obtain rfl := Option.some.inj e2
      rw [h2] at e3; exact absurd e3 (by decide)
  · rintro ⟨e0, e1, e2⟩
    exact .inl ⟨e0, s, h1, .inr (.inl ⟨h2, by omega, e1⟩)⟩
theorem St.op3 {p : List T_regex_step} {l : List Int} {a : Nat} {s : T_regex_step} (h1 : p[a]? = some s) (h2 : s.op = 3) {i d j : Nat} : St p l a i d j ↔ j = i ∧ d = a + 1 ∧ i = l.length := by
  constructor
  · rintro (⟨e0, u, e1, e2⟩ | ⟨_, _, u, x, e2, e3, _⟩)
    · rw [h1] at e1
      obtain rfl := Option.some.inj e1
      rcases e2 with ⟨e2, _⟩ | ⟨e2, _⟩ | ⟨_, e2, e3⟩
      · rw [h2] at e2; exact absurd e2 (by decide)
      · rw [h2] at e2; exact absurd e2 (by decide)
      · exact ⟨e0, e3, by omega⟩
    · rw [h1] at e2
      obtain rfl := Option.some.inj e2
      rw [h2] at e3; exact absurd e3 (by decide)
  · rintro ⟨e0, e1, e2⟩
    exact .inl ⟨e0, s, h1, .inr (.inr ⟨h2, by omega, e1⟩)⟩
theorem Pa.first {p : List T_regex_step} {l : List Int} {N a i d k : Nat} (h : Pa p l N a i d k) (hd : d ≠ a) : ∃ M b j, N = M + 1 ∧ St p l a i b j ∧ Pa p l M b j d k := by
  cases h with
  | nil => exact absurd rfl hd
  | cons h1 h2 => exact ⟨_, _, _, rfl, h1, h2⟩
def Out (p : List T_regex_step) (l : List Int) (F : T_regex_piece → Nat → Nat → Prop) (S : T_regex_piece → Nat → Nat → Prop) : Prop :=
  ∀ x a e, F x a e → ∀ N i d k, Pa p l N a i d k → (d < a ∨ e ≤ d) → ∃ j M, M ≤ N ∧ S x i j ∧ Pa p l M e j d k
theorem out_chain {p : List T_regex_step} {l : List Int} {F S : T_regex_piece → Nat → Nat → Prop} (hF : ∀ x a e, F x a e → a ≤ e) (h : Out p l F S) : ∀ (xs : List T_regex_piece) (a e : Nat), chain F xs a e → ∀ N i d k, Pa p l N a i d k → (d < a ∨ e ≤ d) → ∃ j M, M ≤ N ∧ schain S xs i j ∧ Pa p l M e j d k
  | [], a, e, hc, N, i, d, k, hp, _ => by
    obtain rfl : a = e := hc
    exact ⟨i, N, Nat.le_refl _, rfl, hp⟩
  | x :: xs, a, e, ⟨m, h1, h2⟩, N, i, d, k, hp, hd => by
    have l1 := hF _ _ _ h1
    have l2 := chain_le hF h2
    obtain ⟨j, M, e1, e2, e3⟩ := h x a m h1 N i d k hp (by omega)
    obtain ⟨j2, M2, f1, f2, f3⟩ := out_chain hF h xs m e h2 M j d k e3 (by omega)
    exact ⟨j2, M2, by omega, ⟨j, e2, f2⟩, f3⟩
theorem out_alts {p : List T_regex_step} {l : List Int} {F S : T_regex_piece → Nat → Nat → Prop} (hF : ∀ x a e, F x a e → a ≤ e) (h : Out p l F S) : ∀ (xs : List T_regex_piece) (a e : Nat), alts p F xs a e → ∀ N i d k, Pa p l N a i d k → (d < a ∨ e ≤ d) → ∃ j M, M ≤ N ∧ (∃ y ∈ xs, S y i j) ∧ Pa p l M e j d k
  | [], _, _, hc, _, _, _, _, _, _ => hc.elim
  | [x], a, e, hc, N, i, d, k, hp, hd => by
    obtain ⟨j, M, e1, e2, e3⟩ := h x a e hc N i d k hp hd
    exact ⟨j, M, e1, ⟨x, List.mem_cons_self .., e2⟩, e3⟩
  | x :: y :: r, a, e, ⟨m, s1, h1, s2, h2⟩, N, i, d, k, hp, hd => by
    have l1 := hF _ _ _ h1
    have l2 := alts_le hF h2
    obtain ⟨M, b, j, rfl, hs, hp2⟩ := hp.first (by omega)
    obtain ⟨rfl, hb⟩ := (St.split s1).1 hs
    rcases hb with rfl | rfl
    · obtain ⟨j, M1, e1, e2, e3⟩ := h x (a + 1) m h1 M i d k hp2 (by omega)
      obtain ⟨M2, b, j', rfl, hs2, hp3⟩ := e3.first (by omega)
      obtain ⟨rfl, hb⟩ := (St.split s2).1 hs2
      obtain rfl : b = e := by omega
      exact ⟨j, M2, by omega, ⟨x, List.mem_cons_self .., e2⟩, hp3⟩
    · obtain ⟨j, M1, e1, ⟨z, hz, e2⟩, e3⟩ := out_alts hF h (y :: r) (m + 1) e h2 M i d k hp2 (by omega)
      exact ⟨j, M1, by omega, ⟨z, List.mem_cons_of_mem _ hz, e2⟩, e3⟩
theorem out_star {p : List T_regex_step} {l : List Int} {F S : T_regex_piece → Nat → Nat → Prop} (hF : ∀ x a e, F x a e → a ≤ e) (h : Out p l F S) {q : T_regex_piece} {a m : Nat} (s1 : split p a (a + 1) (m + 1)) (hq : F q (a + 1) m) (s2 : split p m a a) :
    ∀ (N i d k : Nat), Pa p l N a i d k → (d < a ∨ m + 1 ≤ d) → ∃ j M, M ≤ N ∧ Star (S q) i j ∧ Pa p l M (m + 1) j d k := by
  intro N
  induction N using Nat.strongRecOn with
  | ind N ih =>
    intro i d k hp hd
    have l1 := hF _ _ _ hq
    obtain ⟨M, b, j, rfl, hs, hp2⟩ := hp.first (by omega)
    obtain ⟨rfl, hb⟩ := (St.split s1).1 hs
    rcases hb with rfl | rfl
    · obtain ⟨j, M1, e1, e2, e3⟩ := h q (a + 1) m hq M i d k hp2 (by omega)
      obtain ⟨M2, b, j', rfl, hs2, hp3⟩ := e3.first (by omega)
      obtain ⟨rfl, hb⟩ := (St.split s2).1 hs2
      obtain rfl : b = a := by omega
      obtain ⟨j2, M3, f1, f2, f3⟩ := ih M2 (by omega) j d k hp3 hd
      exact ⟨j2, M3, by omega, .step e2 f2, f3⟩
    · exact ⟨i, M, by omega, .refl _, hp2⟩
theorem out_plus {p : List T_regex_step} {l : List Int} {F S : T_regex_piece → Nat → Nat → Prop} (hF : ∀ x a e, F x a e → a ≤ e) (h : Out p l F S) {q : T_regex_piece} {a m : Nat} (hq : F q a m) (s2 : split p m a (m + 1)) :
    ∀ (N i d k : Nat), Pa p l N a i d k → (d < a ∨ m + 1 ≤ d) → ∃ j0 j M, M ≤ N ∧ S q i j0 ∧ Star (S q) j0 j ∧ Pa p l M (m + 1) j d k := by
  intro N
  induction N using Nat.strongRecOn with
  | ind N ih =>
    intro i d k hp hd
    have l1 := hF _ _ _ hq
    obtain ⟨j, M1, e1, e2, e3⟩ := h q a m hq N i d k hp (by omega)
    obtain ⟨M2, b, j', rfl, hs2, hp3⟩ := e3.first (by omega)
    obtain ⟨rfl, hb⟩ := (St.split s2).1 hs2
    rcases hb with rfl | rfl
    · obtain ⟨j0, j2, M3, f1, f2, f3, f4⟩ := ih M2 (by omega) j d k hp3 hd
      exact ⟨j, j2, M3, by omega, e2, .step f2 f3, f4⟩
    · exact ⟨j, j, M2, by omega, e2, .refl _, hp3⟩
theorem tk_in {s : T_regex_step} {x : T_regex_piece} (h1 : s.spans = x.spans) (h2 : s.all = false) (h3 : s.not = x.not) (v : Int) : tk s v = inS x v := by
  unfold tk inS
  rw [h1, h2, h3, Bool.false_or]
theorem frag_out (p : List T_regex_step) (l : List Int) : ∀ n, Out p l (Frag n p) (Sem n l)
  | 0 => fun _ _ _ h => h.elim
  | n + 1 => by
    intro x a e h N i d k hp hd
    have ih := frag_out p l n
    have one : e = a + 1 → ∃ M b j, N = M + 1 ∧ St p l a i b j ∧ Pa p l M b j d k := fun he => hp.first (by omega)
    rcases h with ⟨hk, h⟩ | ⟨hk, h⟩ | ⟨hk, he, s, h1, h2, h3, h4, h5⟩ | ⟨hk, he, s, h1, h2, h3⟩ | ⟨hk, he, s, h1, h2⟩ | ⟨hk, he, s, h1, h2⟩ | ⟨hk, q, m, hq, h1, s2, rfl⟩ | ⟨hk, q, m, hq, s1, h1, s2, rfl⟩ | ⟨hk, q, hq, s1, h1⟩
    · obtain ⟨j, M, e1, e2, e3⟩ := out_chain (frag_le n) ih x.parts a e h N i d k hp hd
      exact ⟨j, M, e1, .inl ⟨hk, e2⟩, e3⟩
    · obtain ⟨j, M, e1, e2, e3⟩ := out_alts (frag_le n) ih x.parts a e h N i d k hp hd
      exact ⟨j, M, e1, .inr (.inl ⟨hk, e2⟩), e3⟩
    · obtain ⟨M, b, j, rfl, hs, hp2⟩ := one he
      obtain ⟨rfl, rfl, v, e1, e2⟩ := (St.op0 h1 h2).1 hs
      rw [tk_in h3 h4 h5] at e2
      subst he
      exact ⟨i + 1, M, by omega, .inr (.inr (.inl ⟨hk, rfl, v, e1, e2⟩)), hp2⟩
    · obtain ⟨M, b, j, rfl, hs, hp2⟩ := one he
      obtain ⟨rfl, rfl, v, e1, e2⟩ := (St.op0 h1 h2).1 hs
      subst he
      exact ⟨i + 1, M, by omega, .inr (.inr (.inr (.inl ⟨hk, rfl, (List.getElem?_eq_some_iff.1 e1).1⟩))), hp2⟩
    · obtain ⟨M, b, j, rfl, hs, hp2⟩ := one he
      obtain ⟨rfl, rfl, hi⟩ := (St.op2 h1 h2).1 hs
      subst he
      exact ⟨j, M, by omega, .inr (.inr (.inr (.inr (.inl ⟨hk, rfl, hi⟩)))), hp2⟩
    · obtain ⟨M, b, j, rfl, hs, hp2⟩ := one he
      obtain ⟨rfl, rfl, hi⟩ := (St.op3 h1 h2).1 hs
      subst he
      exact ⟨j, M, by omega, .inr (.inr (.inr (.inr (.inr (.inl ⟨hk, rfl, hi⟩))))), hp2⟩
    · obtain ⟨j0, j, M, e1, e2, e3, e4⟩ := out_plus (frag_le n) ih h1 s2 N i d k hp hd
      exact ⟨j, M, e1, .inr (.inr (.inr (.inr (.inr (.inr (.inl ⟨hk, q, j0, hq, e2, e3⟩)))))), e4⟩
    · obtain ⟨j, M, e1, e2, e3⟩ := out_star (frag_le n) ih s1 h1 s2 N i d k hp hd
      exact ⟨j, M, e1, .inr (.inr (.inr (.inr (.inr (.inr (.inr (.inl ⟨hk, q, hq, e2⟩))))))), e3⟩
    · have l1 := frag_le n _ _ _ h1
      obtain ⟨M, b, j, rfl, hs, hp2⟩ := hp.first (by omega)
      obtain ⟨rfl, hb⟩ := (St.split s1).1 hs
      rcases hb with rfl | rfl
      · obtain ⟨j2, M1, e1, e2, e3⟩ := ih q (a + 1) e h1 M i d k hp2 (by omega)
        exact ⟨j2, M1, by omega, .inr (.inr (.inr (.inr (.inr (.inr (.inr (.inr ⟨hk, q, hq, .inr e2⟩))))))), e3⟩
      · exact ⟨i, M, by omega, .inr (.inr (.inr (.inr (.inr (.inr (.inr (.inr ⟨hk, q, hq, .inl rfl⟩))))))), hp2⟩
def Inn (p : List T_regex_step) (l : List Int) (F : T_regex_piece → Nat → Nat → Prop) (S : T_regex_piece → Nat → Nat → Prop) : Prop :=
  ∀ x a e, F x a e → ∀ i j, S x i j → ∃ N, Pa p l N a i e j
theorem inn_chain {p : List T_regex_step} {l : List Int} {F S : T_regex_piece → Nat → Nat → Prop} (h : Inn p l F S) : ∀ (xs : List T_regex_piece) (a e : Nat), chain F xs a e → ∀ i j, schain S xs i j → ∃ N, Pa p l N a i e j
  | [], a, e, hc, i, j, hs => by
    obtain rfl : a = e := hc
    obtain rfl : i = j := hs
    exact ⟨0, .nil _ _⟩
  | x :: xs, a, e, ⟨m, h1, h2⟩, i, j, ⟨u, s1, s2⟩ => by
    obtain ⟨N, e1⟩ := h x a m h1 i u s1
    obtain ⟨M, e2⟩ := inn_chain h xs m e h2 u j s2
    exact ⟨_, e1.trans e2⟩
theorem inn_alts {p : List T_regex_step} {l : List Int} {F S : T_regex_piece → Nat → Nat → Prop} (h : Inn p l F S) : ∀ (xs : List T_regex_piece) (a e : Nat), alts p F xs a e → ∀ i j, (∃ y ∈ xs, S y i j) → ∃ N, Pa p l N a i e j
  | [], _, _, hc, _, _, _ => hc.elim
  | [x], a, e, hc, i, j, ⟨y, hy, hs⟩ => by
    rw [List.mem_singleton] at hy
    subst hy
    exact h _ _ _ hc i j hs
  | x :: y :: r, a, e, ⟨m, s1, h1, s2, h2⟩, i, j, ⟨z, hz, hs⟩ => by
    rcases List.mem_cons.1 hz with rfl | hz
    · obtain ⟨N, e1⟩ := h _ _ _ h1 i j hs
      exact ⟨_, (Pa.one ((St.split s1).2 ⟨rfl, .inl rfl⟩)).trans (e1.trans (Pa.one ((St.split s2).2 ⟨rfl, .inl rfl⟩)))⟩
    · obtain ⟨N, e1⟩ := inn_alts h (y :: r) (m + 1) e h2 i j ⟨z, hz, hs⟩
      exact ⟨_, (Pa.one ((St.split s1).2 ⟨rfl, .inr rfl⟩)).trans e1⟩
theorem frag_inn (p : List T_regex_step) (l : List Int) : ∀ n, Inn p l (Frag n p) (Sem n l)
  | 0 => fun _ _ _ h => h.elim
  | n + 1 => by
    intro x a e h i j hs
    have ih := frag_inn p l n
    have kd : ∀ {c d : Int}, x.kind = c → x.kind = d → c ≠ d → False := fun h1 h2 h3 => h3 (h1.symm.trans h2)
    rcases h with ⟨hk, h⟩ | ⟨hk, h⟩ | ⟨hk, he, s, h1, h2, h3, h4, h5⟩ | ⟨hk, he, s, h1, h2, h3⟩ | ⟨hk, he, s, h1, h2⟩ | ⟨hk, he, s, h1, h2⟩ | ⟨hk, q, m, hq, h1, s2, rfl⟩ | ⟨hk, q, m, hq, s1, h1, s2, rfl⟩ | ⟨hk, q, hq, s1, h1⟩ <;>
    rcases hs with ⟨gk, g⟩ | ⟨gk, g⟩ | ⟨gk, g⟩ | ⟨gk, g⟩ | ⟨gk, g⟩ | ⟨gk, g⟩ | ⟨gk, g⟩ | ⟨gk, g⟩ | ⟨gk, g⟩ <;>
    first
    | (exfalso; omega)
    | skip
    · exact inn_chain ih x.parts a e h i j g
    · exact inn_alts ih x.parts a e h i j g
    · obtain ⟨rfl, v, e1, e2⟩ := g
      subst he
      exact ⟨1, Pa.one ((St.op0 h1 h2).2 ⟨rfl, rfl, v, e1, by rw [tk_in h3 h4 h5]; exact e2⟩)⟩
    · obtain ⟨rfl, hi⟩ := g
      subst he
      refine ⟨1, Pa.one ((St.op0 h1 h2).2 ⟨rfl, rfl, l[i], List.getElem?_eq_getElem hi, ?_⟩)⟩
      unfold tk; rw [h3]; rfl
    · obtain ⟨rfl, hi⟩ := g
      subst he
      exact ⟨1, Pa.one ((St.op2 h1 h2).2 ⟨rfl, rfl, hi⟩)⟩
    · obtain ⟨rfl, hi⟩ := g
      subst he
      exact ⟨1, Pa.one ((St.op3 h1 h2).2 ⟨rfl, rfl, hi⟩)⟩
    · obtain ⟨q', u, hq', g1, g2⟩ := g
      obtain rfl : q = q' := by rw [hq] at hq'; exact (List.cons.inj hq').1
      have key : ∀ u, Star (Sem n l q) u j → ∀ i, Sem n l q i u → ∃ N, Pa p l N a i (m + 1) j := by
        intro u hst
        induction hst with
        | refl u =>
          intro i hi
          obtain ⟨N, e1⟩ := ih q a m h1 i u hi
          exact ⟨_, e1.trans (Pa.one ((St.split s2).2 ⟨rfl, .inr rfl⟩))⟩
        | step hr _ ih2 =>
          intro i hi
          obtain ⟨N, e1⟩ := ih q a m h1 i _ hi
          obtain ⟨M, e2⟩ := ih2 (by assumption) _ hr
          exact ⟨_, e1.trans ((Pa.one ((St.split s2).2 ⟨rfl, .inl rfl⟩)).trans e2)⟩
      exact key u g2 i g1
    · obtain ⟨q', hq', g1⟩ := g
      obtain rfl : q = q' := by rw [hq] at hq'; exact (List.cons.inj hq').1
      clear hq'
      induction g1 with
      | refl u => exact ⟨1, Pa.one ((St.split s1).2 ⟨rfl, .inr rfl⟩)⟩
      | step hr _ ih2 =>
        obtain ⟨N, e1⟩ := ih q (a + 1) m h1 _ _ hr
        obtain ⟨M, e2⟩ := ih2
        exact ⟨_, (Pa.one ((St.split s1).2 ⟨rfl, .inl rfl⟩)).trans (e1.trans ((Pa.one ((St.split s2).2 ⟨rfl, .inl rfl⟩)).trans e2))⟩
    · obtain ⟨q', hq', g1⟩ := g
      obtain rfl : q = q' := by rw [hq] at hq'; exact (List.cons.inj hq').1
      rcases g1 with rfl | g1
      · exact ⟨1, Pa.one ((St.split s1).2 ⟨rfl, .inr rfl⟩)⟩
      · obtain ⟨N, e1⟩ := ih q (a + 1) e h1 _ _ g1
        exact ⟨_, (Pa.one ((St.split s1).2 ⟨rfl, .inl rfl⟩)).trans e1⟩
theorem Cfg.path {p : List T_regex_step} {l : List Int} {i a : Nat} (h : Cfg p l i a) {N b j : Nat} (hp : Pa p l N a i b j) : Cfg p l j b := by
  induction hp with
  | nil => exact h
  | cons hs _ ih =>
    refine ih ?_
    rcases hs with ⟨rfl, he⟩ | ⟨rfl, rfl, s, x, h1, h2, h3, h4⟩
    · exact h.eps he
    · exact h.take h1 h2 h3 h4
theorem Cfg.from_ {p : List T_regex_step} {l : List Int} {j b : Nat} (h : Cfg p l j b) : ∃ i N, i ≤ l.length ∧ Pa p l N 0 i b j := by
  induction h with
  | start hi => exact ⟨_, 0, hi, .nil _ _⟩
  | eps _ he ih =>
    obtain ⟨i, N, h1, h2⟩ := ih
    exact ⟨i, _, h1, h2.trans (Pa.one (.inl ⟨rfl, he⟩))⟩
  | take _ h1 h2 h3 h4 ih =>
    obtain ⟨i, N, g1, g2⟩ := ih
    exact ⟨i, _, g1, g2.trans (Pa.one (.inr ⟨rfl, rfl, _, _, h1, h2, h3, h4⟩))⟩
theorem Pa.le {p : List T_regex_step} {l : List Int} {N a i b j : Nat} (h : Pa p l N a i b j) (hi : i ≤ l.length) : i ≤ j ∧ j ≤ l.length := by
  induction h with
  | nil => exact ⟨Nat.le_refl _, hi⟩
  | cons hs _ ih =>
    rcases hs with ⟨rfl, _⟩ | ⟨rfl, _, s, x, _, _, h3, _⟩
    · exact ih hi
    · have := (List.getElem?_eq_some_iff.1 h3).1
      have := ih (by omega)
      omega
theorem match_sem {k : Nat} (hk : 5000000 ≤ k) {e : T_regex_Expr} (h : Pat k e) (l : List Int) (hl : l.length ≤ 1000000) : ∃ b, regex_Expr_Match.f k (some e) l = some b ∧ (b = true ↔ ∃ i j, i ≤ l.length ∧ Sem (wt e.top) l e.top i j) := by
  obtain ⟨b, hb, hs⟩ := match_spec (k := k) e h.2.2.1 l hl hk
  refine ⟨b, hb, hs.trans ?_⟩
  obtain ⟨hw, hwt, hV, q, eq, hVq, hq, hprog⟩ := h
  obtain ⟨a1, a2⟩ := laid_all (wt e.top) e.top 2 hw (Nat.le_refl _) k e.top e.top [] q (fun _ h => by cases h) (by simp; omega) (by omega) eq
  have hf : Frag (wt e.top) e.prog e.top 0 q.length := by
    rw [hprog]
    exact frag_alike _ _ _ _ a2 (alike_app q _)
  have hd : e.prog.length - 1 = q.length := by rw [hprog]; simp
  have hlast : e.prog[q.length]? = some lastStep := by rw [hprog, List.getElem?_append_right (Nat.le_refl _), Nat.sub_self]; rfl
  rw [hd]
  constructor
  · rintro ⟨j, hj, hc⟩
    obtain ⟨i, N, hi, hp⟩ := hc.from_
    obtain ⟨j', M, _, e2, e3⟩ := frag_out e.prog l _ e.top 0 q.length hf N i q.length j hp (.inr (Nat.le_refl _))
    exact ⟨i, j', hi, e2⟩
  · rintro ⟨i, j, hi, hsem⟩
    obtain ⟨N, hp⟩ := frag_inn e.prog l _ e.top 0 q.length hf i j hsem
    exact ⟨j, (hp.le hi).2, (Cfg.start hi).path hp⟩
end Go.Proofs.YtkkflfmonidepaaDoor
