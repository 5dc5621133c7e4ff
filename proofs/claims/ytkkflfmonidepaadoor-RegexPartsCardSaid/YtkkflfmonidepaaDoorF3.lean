/-
  PRINTED FUNCTIONS 3: regex_reader_set, regex_reader_choices, regex_Expr_put.
-/
import Derived.Test.YtkkflfmonidepaaDoorF2
namespace Go.Proofs.YtkkflfmonidepaaDoor
open Sp
set_option maxRecDepth 100000
set_option maxHeartbeats 4000000
def regex_reader_set.l1 : Nat → (List T_regex_sign) → Bool → Option ((List T_regex_sign) × Bool)
  | 0, _, _ => none
  | k + 1, l37, b40 => ((regex_reader_peek.f k (T_regex_reader.mk l37 b40)).bind fun y52 => (if y52.1.c = 44 then ((regex_reader_next.f k y52.2).bind fun y57 => (regex_reader_set.l1 k y57.2.rest y57.2.bad)) else (some (y52.2.rest, y52.2.bad))))
def regex_reader_set.l0 : Nat → Bool → (List T_regex_sign) → Bool → (List T_regex_span) → Option (Sum (T_regex_piece × T_regex_reader) Unit)
  | 0, _, _, _, _ => none
  | k + 1, b12, l23, b26, l27 => ((regex_reader_set.l1 k l23 b26).bind fun (l47, b50) => ((regex_reader_next.f k (T_regex_reader.mk l47 b50)).bind fun y61 => (if y61.1.digits = true then (if (y61.2.rest.length : Int) > 0 then ((lat y61.2.rest 0).bind fun y69 => (((if y69.c = 45 then ((regex_reader_next.f k y61.2).bind fun y88 => (if (y88.2.rest.length : Int) = 0 then (some (.inl ((T_regex_piece.mk 4 [] l27 b12), (T_regex_reader.mk y88.2.rest true)))) else ((lat y88.2.rest 0).bind fun y93 => (if y93.digits = true then ((regex_reader_next.f k y88.2).bind fun y101 => (some (.inr (y101.1.c, y101.1.n, y101.1.digits, y101.2.rest, y101.2.bad)))) else (some (.inl ((T_regex_piece.mk 4 [] l27 b12), (T_regex_reader.mk y88.2.rest true)))))))) else (some (.inr (y61.1.c, y61.1.n, y61.1.digits, y61.2.rest, y61.2.bad)))) : Option (Sum (T_regex_piece × T_regex_reader) (Int × Int × Bool × (List T_regex_sign) × Bool))).bind fun o => match o with | .inl r => some (.inl r) | .inr (n77, n78, b79, l80, b83) => (if b83 = true then ((app 8 l27 [(T_regex_span.mk y61.1.n n78)]).bind fun l110 => (regex_reader_set.l0 k b12 l80 true l110)) else ((app 8 l27 [(T_regex_span.mk y61.1.n n78)]).bind fun l120 => (regex_reader_set.l0 k b12 l80 (decide (y61.1.n > n78)) l120))))) else (if y61.2.bad = true then ((app 8 l27 [(T_regex_span.mk y61.1.n y61.1.n)]).bind fun l131 => (regex_reader_set.l0 k b12 y61.2.rest true l131)) else ((app 8 l27 [(T_regex_span.mk y61.1.n y61.1.n)]).bind fun l141 => (regex_reader_set.l0 k b12 y61.2.rest (decide (y61.1.n > y61.1.n)) l141)))) else (if y61.2.bad = true then (some (.inl ((T_regex_piece.mk 4 [] l27 b12), (T_regex_reader.mk y61.2.rest true)))) else (if y61.1.c = 93 then (some (.inl ((T_regex_piece.mk 4 [] l27 b12), (T_regex_reader.mk y61.2.rest ((l27.length : Int) == 0))))) else (some (.inl ((T_regex_piece.mk 4 [] l27 b12), (T_regex_reader.mk y61.2.rest true)))))))))
def regex_reader_set.f (k : Nat) (x0 : T_regex_reader) : Option (T_regex_piece × T_regex_reader) := ((regex_reader_peek.f k x0).bind fun y3 => ((if y3.1.c = 94 then ((regex_reader_next.f k y3.2).bind fun y17 => (some (y17.2.rest, y17.2.bad, true))) else (some (y3.2.rest, y3.2.bad, false))).bind fun (l8, b11, b12) => ((regex_reader_set.l0 k b12 l8 b11 []).bind fun o => match o with | .inl r => some r | .inr _ => none)))
abbrev regex_reader_set.C (k : Nat) : Prop := ∀ {x0 : T_regex_reader} {x0v0 : Value} {bx0 : Nat} {F : List It} {I : IMem} {w : World} {r : T_regex_piece × T_regex_reader}, Glob I → Own I w (.bk bx0 44 [x0v0, .bool x0.bad] :: F) → SlR R_regex_sign I x0v0 x0.rest → regex_reader_set.f k x0 = some r →
    Calls Tryd.prog 50 #[.pointer (some ⟨bx0, 0, none⟩)] w fun e w' => ∃ v, e = .returned v ∧ ∃ (y_0v1 : Value) (y_0v2 : Value) (y_1v0 : Value) (J : IMem), I.le J ∧ v = .agg #[.int .i64 r.1.kind, y_0v1, y_0v2, .bool r.1.not] ∧ SlR R_regex_piece J y_0v1 r.1.parts ∧ SlR R_regex_span J y_0v2 r.1.spans ∧ SlR R_regex_sign J y_1v0 r.2.rest ∧ Own J w' (.bk bx0 44 [y_1v0, .bool r.2.bad] :: F)
theorem regex_reader_set.ok (k : Nat) : regex_reader_set.C k := by
  intro x0 x0v0 bx0 F I w r hG S x0h0 H
  have hI := IMem.le.refl I
  rw [regex_reader_set.f] at H
  refine Calls.ofFW (args := [.pointer (some ⟨bx0, 0, none⟩)]) Tryd.func50 rfl rfl ?_
  refine FW.seq ?_
  refine FW.region ?_
  refine U rfl rfl (o_all tz48 S fun b1 w S => ?_)
  refine FW.seq ?_
  refine FW.region ?_
  refine U rfl rfl (V (x_bld tz48 tpl48 rfl (.one rfl PC.nil) rfl) ?_)
  refine U rfl rfl (o_all tz48 S fun b2 w S => ?_)
  refine U rfl rfl (o_stA tag48 S 0 rfl rfl rfl rfl (c1 rfl (c1 rfl (c1 rfl (c1 rfl c0)))) rfl fun w S => ?_)
  refine FW.seq ?_
  refine FW.seq ?_
  refine FW.region ?_
  refine U rfl rfl (V (x_movV (v := .pointer (some ⟨bx0, 0, none⟩)) rfl) ?_)
  obtain ⟨y3, hy4, H⟩ := obx H
  refine U rfl rfl (cl fb18 (@regex_reader_peek.ok k x0 _ _ _ _ _ _ hG (S.sel 3 [2, 0, 1] rfl) x0h0 hy4) rfl ?_)
  rintro _ w ⟨y3_1v0, J5, hJ6, rfl, y3_1h0, S⟩
  have hI := hI.trans hJ6
  have hG := hG.mono hJ6
  refine U rfl rfl (V (x_fld tf51_0 tsc21 rfl rfl) ?_)
  refine U rfl rfl (V (x_bin rfl rfl rfl) ?_)
  obtain ⟨o13, H, HO14⟩ := obx H
  have hL15 := IMem.le.refl J5
  refine FW.cutN (fun σ w => ∃ (l8 : (List T_regex_sign)) (b11 : Bool) (b12 : Bool) (v9 : Value) (J7 : IMem), (l8, b11, b12) = o13 ∧ Has σ [(0, .pointer (some ⟨bx0, 0, none⟩)), (2, .pointer (some ⟨b1, 0, none⟩)), (3, .pointer (some ⟨b2, 0, none⟩))] ∧ J5.le J7 ∧ Own J7 w (.bk bx0 44 [v9, .bool b11] :: .bk b2 48 [.int .i64 4, (.slice none 0 0), (.slice none 0 0), .bool b12] :: .bk b1 48 [.int .i64 0, (.slice none 0 0), (.slice none 0 0), .bool false] :: F) ∧ SlR R_regex_sign J7 v9 l8) ?_ ?_
  ·
    by_cases cc16 : y3.1.c = 94
    · rw [if_pos cc16] at H
      refine FW.condT rfl (eqT cc16) ?_
      refine FW.seq ?_
      refine FW.anew [(0, .pointer (some ⟨bx0, 0, none⟩)), (2, .pointer (some ⟨b1, 0, none⟩)), (3, .pointer (some ⟨b2, 0, none⟩))] ⟨rfl, rfl, rfl, trivial⟩ fun σ => ?_
      refine FW.region ?_
      refine U rfl rfl (V (x_movV (v := .pointer (some ⟨bx0, 0, none⟩)) rfl) ?_)
      obtain ⟨y17, hy18, H⟩ := obx H
      refine U rfl rfl (cl fb29 (@regex_reader_next.ok k y3.2 _ _ _ _ _ _ hG S y3_1h0 hy18) rfl ?_)
      rintro _ w ⟨y17_1v0, J19, hJ20, rfl, y17_1h0, S⟩
      have hI := hI.trans hJ20
      have hL15 := hL15.trans hJ20
      have hG := hG.mono hJ20
      refine FW.region ?_
      refine U rfl rfl (V (x_fa tf48_3 rfl) ?_)
      refine U rfl rfl (o_st tone4 S 1 rfl rfl rfl rfl fun w S => ?_)
      exact ⟨y17.2.rest, y17.2.bad, true, y17_1v0, J19, (Option.some.inj H), ⟨rfl, rfl, rfl, trivial⟩, hL15, S, y17_1h0⟩
    · rw [if_neg cc16] at H
      refine FW.condF rfl (eqF cc16) ?_
      refine FW.skip ?_
      exact ⟨y3.2.rest, y3.2.bad, false, y3_1v0, J5, (Option.some.inj H), ⟨rfl, rfl, rfl, trivial⟩, hL15, S, y3_1h0⟩
  · rintro σ w ⟨l8, b11, b12, v9, J7, ho, hσ, hL15, S, h10⟩
    subst ho
    have H := HO14
    try dsimp only at H
    have hI := hI.trans hL15
    have hG := hG.mono hL15
    rw [hσ.eq]
    refine FW.block ?_
    have S := S.nil_tv 80 2
    obtain ⟨o32, hl34, HO33⟩ := obx H
    ·
      refine FW.loop k (FL.ind (fun q σ w => ∃ (l23 : (List T_regex_sign)) (b26 : Bool) (l27 : (List T_regex_span)) (v24 : Value) (v28 : Value) (J22 : IMem), regex_reader_set.l0 q b12 l23 b26 l27 = some o32 ∧ q ≤ k ∧ Has σ [(0, .pointer (some ⟨bx0, 0, none⟩)), (2, .pointer (some ⟨b1, 0, none⟩)), (3, .pointer (some ⟨b2, 0, none⟩))] ∧ J7.le J22 ∧ Own J22 w (.tv v28 80 2 :: .bk bx0 44 [v24, .bool b26] :: .bk b2 48 [.int .i64 4, (.slice none 0 0), v28, .bool b12] :: .bk b1 48 [.int .i64 0, (.slice none 0 0), (.slice none 0 0), .bool false] :: F) ∧ SlR R_regex_sign J22 v24 l23 ∧ SlR R_regex_span J22 v28 l27) ?_ ?_ k k _ _ (Nat.le_refl _) ⟨l8, b11, [], v9, (.slice none 0 0), J7, hl34, Nat.le_refl _, ⟨rfl, rfl, rfl, trivial⟩, (IMem.le.refl _), S, h10, (SlR.nil _ _)⟩)
      · rintro σ w ⟨l23, b26, l27, v24, v28, J22, H, _⟩; cases H
      · rintro q30 σ w ⟨l23, b26, l27, v24, v28, J22, H, hq35, hσ, hL31, S, h25, h29⟩
        have hI := hI.trans hL31
        have hG := hG.mono hL31
        rw [hσ.eq]
        rw [regex_reader_set.l0] at H
        refine FW.block ?_
        refine FW.seq ?_
        refine FW.block ?_
        obtain ⟨o43, hl45, HO44⟩ := obx H
        refine FW.cutX 2 (fun σ w => ∃ (l47 : (List T_regex_sign)) (b50 : Bool) (v48 : Value) (J46 : IMem), (l47, b50) = o43 ∧ Has σ [(0, .pointer (some ⟨bx0, 0, none⟩)), (2, .pointer (some ⟨b1, 0, none⟩)), (3, .pointer (some ⟨b2, 0, none⟩))] ∧ J22.le J46 ∧ Own J46 w (.tv v28 80 2 :: .bk bx0 44 [v48, .bool b50] :: .bk b2 48 [.int .i64 4, (.slice none 0 0), v28, .bool b12] :: .bk b1 48 [.int .i64 0, (.slice none 0 0), (.slice none 0 0), .bool false] :: F) ∧ SlR R_regex_sign J46 v48 l47) ?_ ?_
        ·
          refine FW.loop q30 (FL.ind (fun q σ w => ∃ (l37 : (List T_regex_sign)) (b40 : Bool) (v38 : Value) (J36 : IMem), regex_reader_set.l1 q l37 b40 = some o43 ∧ q ≤ q30 ∧ Has σ [(0, .pointer (some ⟨bx0, 0, none⟩)), (2, .pointer (some ⟨b1, 0, none⟩)), (3, .pointer (some ⟨b2, 0, none⟩))] ∧ J22.le J36 ∧ Own J36 w (.tv v28 80 2 :: .bk bx0 44 [v38, .bool b40] :: .bk b2 48 [.int .i64 4, (.slice none 0 0), v28, .bool b12] :: .bk b1 48 [.int .i64 0, (.slice none 0 0), (.slice none 0 0), .bool false] :: F) ∧ SlR R_regex_sign J36 v38 l37) ?_ ?_ q30 q30 _ _ (Nat.le_refl _) ⟨l23, b26, v24, J22, hl45, Nat.le_refl _, ⟨rfl, rfl, rfl, trivial⟩, (IMem.le.refl _), S, h25⟩)
          · rintro σ w ⟨l37, b40, v38, J36, H, _⟩; cases H
          · rintro q41 σ w ⟨l37, b40, v38, J36, H, hq51, hσ, hL42, S, h39⟩
            have h29 := h29.mono hL42
            have hI := hI.trans hL42
            have hL31 := hL31.trans hL42
            have hG := hG.mono hL42
            rw [hσ.eq]
            rw [regex_reader_set.l1] at H
            refine FW.seq ?_
            refine FW.seq ?_
            refine FW.region ?_
            refine U rfl rfl (V (x_movV (v := .pointer (some ⟨bx0, 0, none⟩)) rfl) ?_)
            obtain ⟨y52, hy53, H⟩ := obx H
            refine U rfl rfl (cl fb18 (@regex_reader_peek.ok q41 (T_regex_reader.mk l37 b40) _ _ _ _ _ _ hG (S.sel 4 [1, 0, 2, 3] rfl) h39 hy53) rfl ?_)
            rintro _ w ⟨y52_1v0, J54, hJ55, rfl, y52_1h0, S⟩
            have h29 := h29.mono hJ55
            have hI := hI.trans hJ55
            have hL31 := hL31.trans hJ55
            have hL42 := hL42.trans hJ55
            have hG := hG.mono hJ55
            refine U rfl rfl (V (x_fld tf51_0 tsc21 rfl rfl) ?_)
            refine U rfl rfl (V (x_bin rfl rfl rfl) ?_)
            by_cases cc56 : y52.1.c = 44
            · rw [if_pos cc56] at H
              refine FW.condT rfl (eqT cc56) ?_
              refine FW.skip ?_
              refine FW.block ?_
              refine FW.region ?_
              refine U rfl rfl (V (x_movV (v := .pointer (some ⟨bx0, 0, none⟩)) rfl) ?_)
              obtain ⟨y57, hy58, H⟩ := obx H
              refine U rfl rfl (cl fb29 (@regex_reader_next.ok q41 y52.2 _ _ _ _ _ _ hG S y52_1h0 hy58) rfl ?_)
              rintro _ w ⟨y57_1v0, J59, hJ60, rfl, y57_1h0, S⟩
              have h29 := h29.mono hJ60
              have hI := hI.trans hJ60
              have hL31 := hL31.trans hJ60
              have hL42 := hL42.trans hJ60
              have hG := hG.mono hJ60
              exact ⟨q41, Nat.le_refl _, y57.2.rest, y57.2.bad, y57_1v0, J59, H, (Nat.le_of_succ_le hq51), ⟨rfl, rfl, rfl, trivial⟩, hL42, (S.sel 4 [1, 0, 2, 3] rfl), y57_1h0⟩
            · rw [if_neg cc56] at H
              refine FW.condF rfl (eqF cc56) ?_
              refine FW.exit ?_
              exact ⟨y52.2.rest, y52.2.bad, y52_1v0, J54, (Option.some.inj H), ⟨rfl, rfl, rfl, trivial⟩, hL42, (S.sel 4 [1, 0, 2, 3] rfl), y52_1h0⟩
        · rintro σ w ⟨l47, b50, v48, J46, ho, hσ, hL42, S, h49⟩
          subst ho
          have H := HO44
          try dsimp only at H
          have h29 := h29.mono hL42
          have hI := hI.trans hL42
          have hL31 := hL31.trans hL42
          have hG := hG.mono hL42
          rw [hσ.eq]
          refine FW.seq ?_
          refine FW.region ?_
          refine U rfl rfl (V (x_movV (v := .pointer (some ⟨bx0, 0, none⟩)) rfl) ?_)
          obtain ⟨y61, hy62, H⟩ := obx H
          refine U rfl rfl (cl fb29 (@regex_reader_next.ok q30 (T_regex_reader.mk l47 b50) _ _ _ _ _ _ hG (S.sel 4 [1, 0, 2, 3] rfl) h49 hy62) rfl ?_)
          rintro _ w ⟨y61_1v0, J63, hJ64, rfl, y61_1h0, S⟩
          have h29 := h29.mono hJ64
          have hI := hI.trans hJ64
          have hL31 := hL31.trans hJ64
          have hG := hG.mono hJ64
          refine U rfl rfl (o_all tz51 S fun b65 w S => ?_)
          refine U rfl rfl (o_stA tag51 S 0 rfl rfl rfl rfl (c1 rfl (c1 rfl (c1 rfl c0))) rfl fun w S => ?_)
          refine FW.seq ?_
          refine FW.seq ?_
          refine FW.region ?_
          refine U rfl rfl (V (x_fa tf51_2 rfl) ?_)
          refine U rfl rfl (V (x_ld tsc4 rfl (S.load 0 rfl 2 rfl)) ?_)
          refine U rfl rfl (V (x_not' rfl) ?_)
          by_cases cc66 : y61.1.digits = true
          · rw [if_pos cc66] at H
            refine FW.condF rfl (noF cc66) ?_
            refine FW.skip ?_
            refine FW.seq ?_
            refine FW.anew [(0, .pointer (some ⟨bx0, 0, none⟩)), (2, .pointer (some ⟨b1, 0, none⟩)), (3, .pointer (some ⟨b2, 0, none⟩)), (4, .pointer (some ⟨b65, 0, none⟩))] ⟨rfl, rfl, rfl, rfl, trivial⟩ fun σ => ?_
            refine FW.region ?_
            refine U rfl rfl (V (x_ldA tag51 rfl (S.loadW 0 rfl) rfl) ?_)
            refine U rfl rfl (o_all tz51 S fun b67 w S => ?_)
            refine U rfl rfl (o_stA tag51 S 0 rfl rfl rfl rfl (c1 rfl (c1 rfl (c1 rfl c0))) rfl fun w S => ?_)
            refine FW.seq ?_
            refine FW.seq ?_
            refine FW.region ?_
            refine U rfl rfl (V (x_movV (v := .pointer (some ⟨bx0, 0, none⟩)) rfl) ?_)
            refine U rfl rfl (V (x_nk rfl) ?_)
            refine U rfl rfl (V (x_fa tf44_0 rfl) ?_)
            refine U rfl rfl (V (x_ld tsc39 rfl (S.load 2 rfl 0 rfl)) ?_)
            refine U rfl rfl (V (x_lenD (r := R_regex_sign) tsl39 y61_1h0) ?_)
            refine U rfl rfl (V (x_bin rfl rfl rfl) ?_)
            refine U rfl rfl (V (x_movV (v := .bool (decide ((y61.2.rest.length : Int) > 0))) rfl) ?_)
            by_cases cc68 : (y61.2.rest.length : Int) > 0
            · rw [if_pos cc68] at H
              refine OK.gt rfl rfl rfl (deT cc68) (V (x_movV (v := .pointer (some ⟨bx0, 0, none⟩)) rfl) ?_)
              refine OK.gt rfl rfl rfl (deT cc68) (V (x_nk rfl) ?_)
              refine OK.gt rfl rfl rfl (deT cc68) (V (x_fa tf44_0 rfl) ?_)
              refine OK.gt rfl rfl rfl (deT cc68) (V (x_ld tsc39 rfl (S.load 2 rfl 0 rfl)) ?_)
              obtain ⟨y69, h70, H⟩ := obx H
              refine OK.gt rfl rfl rfl (deT cc68) (o_ia (r := R_regex_sign) tsl39 rfl rfl y61_1h0 rfl h70 fun b71 o72 cs73 hr74 hc75 => ?_)
              obtain rfl := hr74
              refine OK.gt rfl rfl rfl (deT cc68) (V (x_fa tf51_0 rfl) ?_)
              refine OK.gt rfl rfl rfl (deT cc68) (V (x_ld tsc21 rfl (S.cell _ _ _ (hc75 0 _ rfl))) ?_)
              refine OK.gt rfl rfl rfl (deT cc68) (V (x_bin rfl rfl rfl) ?_)
              refine U rfl rfl (V (x_pickTV (v := .bool (y69.c == 45)) rfl (deT cc68) rfl) ?_)
              obtain ⟨o84, H, HO85⟩ := obx H
              have hL86 := IMem.le.refl J63
              refine FW.cutN (fun σ w => ∃ (n77 : Int) (n78 : Int) (b79 : Bool) (l80 : (List T_regex_sign)) (b83 : Bool) (v81 : Value) (J76 : IMem), (.inr (n77, n78, b79, l80, b83)) = o84 ∧ Has σ [(0, .pointer (some ⟨bx0, 0, none⟩)), (2, .pointer (some ⟨b1, 0, none⟩)), (3, .pointer (some ⟨b2, 0, none⟩)), (4, .pointer (some ⟨b65, 0, none⟩)), (5, .pointer (some ⟨b67, 0, none⟩))] ∧ J63.le J76 ∧ Own J76 w (.bk b67 51 [.int .i32 n77, .int .u32 n78, .bool b79] :: .bk b65 51 [.int .i32 y61.1.c, .int .u32 y61.1.n, .bool y61.1.digits] :: .bk bx0 44 [v81, .bool b83] :: .tv v28 80 2 :: .bk b2 48 [.int .i64 4, (.slice none 0 0), v28, .bool b12] :: .bk b1 48 [.int .i64 0, (.slice none 0 0), (.slice none 0 0), .bool false] :: F) ∧ SlR R_regex_sign J76 v81 l80) ?_ ?_
              ·
                by_cases cc87 : y69.c = 45
                · rw [if_pos cc87] at H
                  refine FW.condT rfl (eqT cc87) ?_
                  refine FW.seq ?_
                  refine FW.anew [(0, .pointer (some ⟨bx0, 0, none⟩)), (2, .pointer (some ⟨b1, 0, none⟩)), (3, .pointer (some ⟨b2, 0, none⟩)), (4, .pointer (some ⟨b65, 0, none⟩)), (5, .pointer (some ⟨b67, 0, none⟩))] ⟨rfl, rfl, rfl, rfl, rfl, trivial⟩ fun σ => ?_
                  refine FW.region ?_
                  refine U rfl rfl (V (x_movV (v := .pointer (some ⟨bx0, 0, none⟩)) rfl) ?_)
                  obtain ⟨y88, hy89, H⟩ := obx H
                  refine U rfl rfl (cl fb29 (@regex_reader_next.ok q30 y61.2 _ _ _ _ _ _ hG (S.sel 6 [2, 0, 1, 3, 4, 5] rfl) y61_1h0 hy89) rfl ?_)
                  rintro _ w ⟨y88_1v0, J90, hJ91, rfl, y88_1h0, S⟩
                  have h29 := h29.mono hJ91
                  have hI := hI.trans hJ91
                  have hL31 := hL31.trans hJ91
                  have hL86 := hL86.trans hJ91
                  have hG := hG.mono hJ91
                  refine FW.seq ?_
                  refine FW.seq ?_
                  refine FW.region ?_
                  refine U rfl rfl (V (x_movV (v := .pointer (some ⟨bx0, 0, none⟩)) rfl) ?_)
                  refine U rfl rfl (V (x_nk rfl) ?_)
                  refine U rfl rfl (V (x_fa tf44_0 rfl) ?_)
                  refine U rfl rfl (V (x_ld tsc39 rfl (S.load 0 rfl 0 rfl)) ?_)
                  refine U rfl rfl (V (x_lenD (r := R_regex_sign) tsl39 y88_1h0) ?_)
                  refine U rfl rfl (V (x_bin rfl rfl rfl) ?_)
                  refine U rfl rfl (V (x_movV (v := .bool ((y88.2.rest.length : Int) == 0)) rfl) ?_)
                  by_cases cc92 : (y88.2.rest.length : Int) = 0
                  · rw [if_pos cc92] at H
                    refine OK.gf rfl rfl rfl (eqT cc92) ?_
                    refine OK.gf rfl rfl rfl (eqT cc92) ?_
                    refine OK.gf rfl rfl rfl (eqT cc92) ?_
                    refine OK.gf rfl rfl rfl (eqT cc92) ?_
                    refine OK.gf rfl rfl rfl (eqT cc92) ?_
                    refine OK.gf rfl rfl rfl (eqT cc92) ?_
                    refine OK.gf rfl rfl rfl (eqT cc92) ?_
                    refine OK.gf rfl rfl rfl (eqT cc92) ?_
                    refine U rfl rfl (V (x_pickTV (v := .bool true) rfl (eqT cc92) rfl) ?_)
                    refine FW.condT rfl rfl ?_
                    refine FW.seq ?_
                    refine FW.anew [(0, .pointer (some ⟨bx0, 0, none⟩)), (2, .pointer (some ⟨b1, 0, none⟩)), (3, .pointer (some ⟨b2, 0, none⟩))] ⟨rfl, rfl, rfl, trivial⟩ fun σ => ?_
                    refine FW.region ?_
                    refine U rfl rfl (V (x_movV (v := .pointer (some ⟨bx0, 0, none⟩)) rfl) ?_)
                    refine U rfl rfl (V (x_nk rfl) ?_)
                    refine U rfl rfl (V (x_fa tf44_1 rfl) ?_)
                    refine U rfl rfl (o_st tone4 S 0 rfl rfl rfl rfl fun w S => ?_)
                    refine FW.seq ?_
                    refine FW.region ?_
                    refine U rfl rfl (V (x_ldA tag48 rfl (S.loadW 4 rfl) rfl) ?_)
                    refine U rfl rfl (o_stA tag48 S 5 rfl rfl rfl rfl (c1 rfl (c1 rfl (c1 h29.one (c1 rfl c0)))) rfl fun w S => ?_)
                    refine FW.ret ?_
                    obtain rfl := Option.some.inj H
                    obtain rfl := Option.some.inj HO85
                    obtain rfl := Option.some.inj HO33
                    exact ⟨_, ⟨_, _, _, rfl, rfl, ldA tag48 (S.loadW 5 rfl) rfl, rfl⟩, ⟨(.slice none 0 0), v28, y88_1v0, J90, hI, rfl, (SlR.nil _ _), h29, y88_1h0, (S.sel 6 [0] rfl)⟩⟩
                  · rw [if_neg cc92] at H
                    refine OK.gt rfl rfl rfl (eqF cc92) (V (x_movV (v := .pointer (some ⟨bx0, 0, none⟩)) rfl) ?_)
                    refine OK.gt rfl rfl rfl (eqF cc92) (V (x_nk rfl) ?_)
                    refine OK.gt rfl rfl rfl (eqF cc92) (V (x_fa tf44_0 rfl) ?_)
                    refine OK.gt rfl rfl rfl (eqF cc92) (V (x_ld tsc39 rfl (S.load 0 rfl 0 rfl)) ?_)
                    obtain ⟨y93, h94, H⟩ := obx H
                    refine OK.gt rfl rfl rfl (eqF cc92) (o_ia (r := R_regex_sign) tsl39 rfl rfl y88_1h0 rfl h94 fun b95 o96 cs97 hr98 hc99 => ?_)
                    obtain rfl := hr98
                    refine OK.gt rfl rfl rfl (eqF cc92) (V (x_fa tf51_2 rfl) ?_)
                    refine OK.gt rfl rfl rfl (eqF cc92) (V (x_ld tsc4 rfl (S.cell _ _ _ (hc99 2 _ rfl))) ?_)
                    refine OK.gt rfl rfl rfl (eqF cc92) (V (x_not' rfl) ?_)
                    refine U rfl rfl (V (x_pickFV (v := .bool (!y93.digits)) rfl (eqF cc92) rfl) ?_)
                    by_cases cc100 : y93.digits = true
                    · rw [if_pos cc100] at H
                      refine FW.condF rfl (noF cc100) ?_
                      refine FW.skip ?_
                      refine FW.anew [(0, .pointer (some ⟨bx0, 0, none⟩)), (2, .pointer (some ⟨b1, 0, none⟩)), (3, .pointer (some ⟨b2, 0, none⟩)), (4, .pointer (some ⟨b65, 0, none⟩)), (5, .pointer (some ⟨b67, 0, none⟩))] ⟨rfl, rfl, rfl, rfl, rfl, trivial⟩ fun σ => ?_
                      refine FW.region ?_
                      refine U rfl rfl (V (x_movV (v := .pointer (some ⟨bx0, 0, none⟩)) rfl) ?_)
                      obtain ⟨y101, hy102, H⟩ := obx H
                      refine U rfl rfl (cl fb29 (@regex_reader_next.ok q30 y88.2 _ _ _ _ _ _ hG S y88_1h0 hy102) rfl ?_)
                      rintro _ w ⟨y101_1v0, J103, hJ104, rfl, y101_1h0, S⟩
                      have h29 := h29.mono hJ104
                      have hI := hI.trans hJ104
                      have hL31 := hL31.trans hJ104
                      have hL86 := hL86.trans hJ104
                      have hG := hG.mono hJ104
                      refine U rfl rfl (o_stA tag51 S 1 rfl rfl rfl rfl (c1 rfl (c1 rfl (c1 rfl c0))) rfl fun w S => ?_)
                      exact ⟨y101.1.c, y101.1.n, y101.1.digits, y101.2.rest, y101.2.bad, y101_1v0, J103, (Option.some.inj H), ⟨rfl, rfl, rfl, rfl, rfl, trivial⟩, hL86, (S.sel 6 [1, 2, 0, 3, 4, 5] rfl), y101_1h0⟩
                    · rw [if_neg cc100] at H
                      refine FW.condT rfl (noT (vaF cc100)) ?_
                      refine FW.seq ?_
                      refine FW.anew [(0, .pointer (some ⟨bx0, 0, none⟩)), (2, .pointer (some ⟨b1, 0, none⟩)), (3, .pointer (some ⟨b2, 0, none⟩))] ⟨rfl, rfl, rfl, trivial⟩ fun σ => ?_
                      refine FW.region ?_
                      refine U rfl rfl (V (x_movV (v := .pointer (some ⟨bx0, 0, none⟩)) rfl) ?_)
                      refine U rfl rfl (V (x_nk rfl) ?_)
                      refine U rfl rfl (V (x_fa tf44_1 rfl) ?_)
                      refine U rfl rfl (o_st tone4 S 0 rfl rfl rfl rfl fun w S => ?_)
                      refine FW.seq ?_
                      refine FW.region ?_
                      refine U rfl rfl (V (x_ldA tag48 rfl (S.loadW 4 rfl) rfl) ?_)
                      refine U rfl rfl (o_stA tag48 S 5 rfl rfl rfl rfl (c1 rfl (c1 rfl (c1 h29.one (c1 rfl c0)))) rfl fun w S => ?_)
                      refine FW.ret ?_
                      obtain rfl := Option.some.inj H
                      obtain rfl := Option.some.inj HO85
                      obtain rfl := Option.some.inj HO33
                      exact ⟨_, ⟨_, _, _, rfl, rfl, ldA tag48 (S.loadW 5 rfl) rfl, rfl⟩, ⟨(.slice none 0 0), v28, y88_1v0, J90, hI, rfl, (SlR.nil _ _), h29, y88_1h0, (S.sel 6 [0] rfl)⟩⟩
                · rw [if_neg cc87] at H
                  refine FW.condF rfl (eqF cc87) ?_
                  refine FW.skip ?_
                  exact ⟨y61.1.c, y61.1.n, y61.1.digits, y61.2.rest, y61.2.bad, y61_1v0, J63, (Option.some.inj H), ⟨rfl, rfl, rfl, rfl, rfl, trivial⟩, hL86, S, y61_1h0⟩
              · rintro σ w ⟨n77, n78, b79, l80, b83, v81, J76, ho, hσ, hL86, S, h82⟩
                subst ho
                have H := HO85
                try dsimp only at H
                have h29 := h29.mono hL86
                have hI := hI.trans hL86
                have hL31 := hL31.trans hL86
                have hG := hG.mono hL86
                rw [hσ.eq]
                refine FW.seq ?_
                refine FW.region ?_
                refine U rfl rfl (V (x_movV (v := .pointer (some ⟨bx0, 0, none⟩)) rfl) ?_)
                refine U rfl rfl (V (x_movV (v := .pointer (some ⟨bx0, 0, none⟩)) rfl) ?_)
                refine U rfl rfl (V (x_nk rfl) ?_)
                refine U rfl rfl (V (x_fa tf44_1 rfl) ?_)
                refine U rfl rfl (V (x_ld tsc4 rfl (S.load 2 rfl 1 rfl)) ?_)
                refine U rfl rfl (V (x_movV (v := .bool b83) rfl) ?_)
                by_cases cc105 : b83 = true
                · rw [if_pos cc105] at H
                  refine OK.gf rfl rfl rfl cc105 ?_
                  refine OK.gf rfl rfl rfl cc105 ?_
                  refine OK.gf rfl rfl rfl cc105 ?_
                  refine OK.gf rfl rfl rfl cc105 ?_
                  refine OK.gf rfl rfl rfl cc105 ?_
                  refine U rfl rfl (V (x_pickTV (v := .bool true) rfl cc105 rfl) ?_)
                  refine U rfl rfl (V (x_nk rfl) ?_)
                  refine U rfl rfl (V (x_fa tf44_1 rfl) ?_)
                  refine U rfl rfl (o_st tone4 S 2 rfl rfl rfl rfl fun w S => ?_)
                  refine FW.anew [(0, .pointer (some ⟨bx0, 0, none⟩)), (2, .pointer (some ⟨b1, 0, none⟩)), (3, .pointer (some ⟨b2, 0, none⟩)), (4, .pointer (some ⟨b65, 0, none⟩)), (5, .pointer (some ⟨b67, 0, none⟩))] ⟨rfl, rfl, rfl, rfl, rfl, trivial⟩ fun σ => ?_
                  refine FW.region ?_
                  refine U rfl rfl (V (x_fa tf48_2 rfl) ?_)
                  refine U rfl rfl (V (x_ld tsc46 rfl (S.load 4 rfl 2 rfl)) ?_)
                  refine U rfl rfl (V (x_fa tf51_1 rfl) ?_)
                  refine U rfl rfl (V (x_ld tsc38 rfl (S.load 1 rfl 1 rfl)) ?_)
                  refine U rfl rfl (V (x_fa tf51_1 rfl) ?_)
                  refine U rfl rfl (V (x_ld tsc38 rfl (S.load 0 rfl 1 rfl)) ?_)
                  refine U rfl rfl (V (x_bld tz80 tpl80 rfl (.one rfl (.one rfl PC.nil)) rfl) ?_)
                  refine U rfl rfl (o_bsl tsl46 tz80 rfl rfl rfl rfl (.agg PC.nil) rfl S fun b106 w S => ?_)
                  obtain ⟨J107, hJ109, S, h108⟩ := S.freeze (r := R_regex_span) (l := [(T_regex_span.mk y61.1.n n78)]) 0 rfl ⟨[.int .u32 y61.1.n, .int .u32 n78], _, rfl, rfl, rfl⟩ rfl rfl
                  have h29 := h29.mono hJ109
                  have h82 := h82.mono hJ109
                  have hI := hI.trans hJ109
                  have hL31 := hL31.trans hJ109
                  have hG := hG.mono hJ109
                  obtain ⟨l110, h112, H⟩ := obx H
                  refine U rfl rfl (o_appD (r := R_regex_span) tsl46 rfl tz80 rfl rfl S 4 rfl rfl h29 h108 h112 fun v111 w J114 hJ115 S h113 => ?_)
                  have h29 := h29.mono hJ115
                  have h108 := h108.mono hJ115
                  have h82 := h82.mono hJ115
                  have hI := hI.trans hJ115
                  have hL31 := hL31.trans hJ115
                  have hG := hG.mono hJ115
                  refine U rfl rfl (V (x_fa tf48_2 rfl) ?_)
                  refine U rfl rfl (o_st tone46 S 5 rfl rfl rfl h113.one fun w S => ?_)
                  exact ⟨q30, Nat.le_refl _, l80, true, l110, v81, v111, J114, H, (Nat.le_of_succ_le hq35), ⟨rfl, rfl, rfl, trivial⟩, hL31, (S.sel 7 [4, 3, 5, 6] rfl), h82, h113⟩
                · rw [if_neg cc105] at H
                  refine OK.gt rfl rfl rfl (vaF cc105) (V (x_fa tf51_1 rfl) ?_)
                  refine OK.gt rfl rfl rfl (vaF cc105) (V (x_ld tsc38 rfl (S.load 1 rfl 1 rfl)) ?_)
                  refine OK.gt rfl rfl rfl (vaF cc105) (V (x_fa tf51_1 rfl) ?_)
                  refine OK.gt rfl rfl rfl (vaF cc105) (V (x_ld tsc38 rfl (S.load 0 rfl 1 rfl)) ?_)
                  refine OK.gt rfl rfl rfl (vaF cc105) (V (x_bin rfl rfl rfl) ?_)
                  refine U rfl rfl (V (x_pickFV (v := .bool (decide (y61.1.n > n78))) rfl (vaF cc105) rfl) ?_)
                  refine U rfl rfl (V (x_nk rfl) ?_)
                  refine U rfl rfl (V (x_fa tf44_1 rfl) ?_)
                  refine U rfl rfl (o_st tone4 S 2 rfl rfl rfl rfl fun w S => ?_)
                  refine FW.anew [(0, .pointer (some ⟨bx0, 0, none⟩)), (2, .pointer (some ⟨b1, 0, none⟩)), (3, .pointer (some ⟨b2, 0, none⟩)), (4, .pointer (some ⟨b65, 0, none⟩)), (5, .pointer (some ⟨b67, 0, none⟩))] ⟨rfl, rfl, rfl, rfl, rfl, trivial⟩ fun σ => ?_
                  refine FW.region ?_
                  refine U rfl rfl (V (x_fa tf48_2 rfl) ?_)
                  refine U rfl rfl (V (x_ld tsc46 rfl (S.load 4 rfl 2 rfl)) ?_)
                  refine U rfl rfl (V (x_fa tf51_1 rfl) ?_)
                  refine U rfl rfl (V (x_ld tsc38 rfl (S.load 1 rfl 1 rfl)) ?_)
                  refine U rfl rfl (V (x_fa tf51_1 rfl) ?_)
                  refine U rfl rfl (V (x_ld tsc38 rfl (S.load 0 rfl 1 rfl)) ?_)
                  refine U rfl rfl (V (x_bld tz80 tpl80 rfl (.one rfl (.one rfl PC.nil)) rfl) ?_)
                  refine U rfl rfl (o_bsl tsl46 tz80 rfl rfl rfl rfl (.agg PC.nil) rfl S fun b116 w S => ?_)
                  obtain ⟨J117, hJ119, S, h118⟩ := S.freeze (r := R_regex_span) (l := [(T_regex_span.mk y61.1.n n78)]) 0 rfl ⟨[.int .u32 y61.1.n, .int .u32 n78], _, rfl, rfl, rfl⟩ rfl rfl
                  have h29 := h29.mono hJ119
                  have h82 := h82.mono hJ119
                  have hI := hI.trans hJ119
                  have hL31 := hL31.trans hJ119
                  have hG := hG.mono hJ119
                  obtain ⟨l120, h122, H⟩ := obx H
                  refine U rfl rfl (o_appD (r := R_regex_span) tsl46 rfl tz80 rfl rfl S 4 rfl rfl h29 h118 h122 fun v121 w J124 hJ125 S h123 => ?_)
                  have h29 := h29.mono hJ125
                  have h118 := h118.mono hJ125
                  have h82 := h82.mono hJ125
                  have hI := hI.trans hJ125
                  have hL31 := hL31.trans hJ125
                  have hG := hG.mono hJ125
                  refine U rfl rfl (V (x_fa tf48_2 rfl) ?_)
                  refine U rfl rfl (o_st tone46 S 5 rfl rfl rfl h123.one fun w S => ?_)
                  exact ⟨q30, Nat.le_refl _, l80, (decide (y61.1.n > n78)), l120, v81, v121, J124, H, (Nat.le_of_succ_le hq35), ⟨rfl, rfl, rfl, trivial⟩, hL31, (S.sel 7 [4, 3, 5, 6] rfl), h82, h123⟩
            · rw [if_neg cc68] at H
              refine OK.gf rfl rfl rfl (deF cc68) ?_
              refine OK.gf rfl rfl rfl (deF cc68) ?_
              refine OK.gf rfl rfl rfl (deF cc68) ?_
              refine OK.gf rfl rfl rfl (deF cc68) ?_
              refine OK.gf rfl rfl rfl (deF cc68) ?_
              refine OK.gf rfl rfl rfl (deF cc68) ?_
              refine OK.gf rfl rfl rfl (deF cc68) ?_
              refine OK.gf rfl rfl rfl (deF cc68) ?_
              refine U rfl rfl (V (x_pickFV (v := .bool false) rfl (deF cc68) rfl) ?_)
              refine FW.condF rfl rfl ?_
              refine FW.skip ?_
              refine FW.seq ?_
              refine FW.anew [(0, .pointer (some ⟨bx0, 0, none⟩)), (2, .pointer (some ⟨b1, 0, none⟩)), (3, .pointer (some ⟨b2, 0, none⟩)), (4, .pointer (some ⟨b65, 0, none⟩)), (5, .pointer (some ⟨b67, 0, none⟩))] ⟨rfl, rfl, rfl, rfl, rfl, trivial⟩ fun σ => ?_
              refine FW.region ?_
              refine U rfl rfl (V (x_movV (v := .pointer (some ⟨bx0, 0, none⟩)) rfl) ?_)
              refine U rfl rfl (V (x_movV (v := .pointer (some ⟨bx0, 0, none⟩)) rfl) ?_)
              refine U rfl rfl (V (x_nk rfl) ?_)
              refine U rfl rfl (V (x_fa tf44_1 rfl) ?_)
              refine U rfl rfl (V (x_ld tsc4 rfl (S.load 2 rfl 1 rfl)) ?_)
              refine U rfl rfl (V (x_movV (v := .bool y61.2.bad) rfl) ?_)
              by_cases cc126 : y61.2.bad = true
              · rw [if_pos cc126] at H
                refine OK.gf rfl rfl rfl cc126 ?_
                refine OK.gf rfl rfl rfl cc126 ?_
                refine OK.gf rfl rfl rfl cc126 ?_
                refine OK.gf rfl rfl rfl cc126 ?_
                refine OK.gf rfl rfl rfl cc126 ?_
                refine U rfl rfl (V (x_pickTV (v := .bool true) rfl cc126 rfl) ?_)
                refine U rfl rfl (V (x_nk rfl) ?_)
                refine U rfl rfl (V (x_fa tf44_1 rfl) ?_)
                refine U rfl rfl (o_st tone4 S 2 rfl rfl rfl rfl fun w S => ?_)
                refine FW.anew [(0, .pointer (some ⟨bx0, 0, none⟩)), (2, .pointer (some ⟨b1, 0, none⟩)), (3, .pointer (some ⟨b2, 0, none⟩)), (4, .pointer (some ⟨b65, 0, none⟩)), (5, .pointer (some ⟨b67, 0, none⟩))] ⟨rfl, rfl, rfl, rfl, rfl, trivial⟩ fun σ => ?_
                refine FW.region ?_
                refine U rfl rfl (V (x_fa tf48_2 rfl) ?_)
                refine U rfl rfl (V (x_ld tsc46 rfl (S.load 4 rfl 2 rfl)) ?_)
                refine U rfl rfl (V (x_fa tf51_1 rfl) ?_)
                refine U rfl rfl (V (x_ld tsc38 rfl (S.load 1 rfl 1 rfl)) ?_)
                refine U rfl rfl (V (x_fa tf51_1 rfl) ?_)
                refine U rfl rfl (V (x_ld tsc38 rfl (S.load 0 rfl 1 rfl)) ?_)
                refine U rfl rfl (V (x_bld tz80 tpl80 rfl (.one rfl (.one rfl PC.nil)) rfl) ?_)
                refine U rfl rfl (o_bsl tsl46 tz80 rfl rfl rfl rfl (.agg PC.nil) rfl S fun b127 w S => ?_)
                obtain ⟨J128, hJ130, S, h129⟩ := S.freeze (r := R_regex_span) (l := [(T_regex_span.mk y61.1.n y61.1.n)]) 0 rfl ⟨[.int .u32 y61.1.n, .int .u32 y61.1.n], _, rfl, rfl, rfl⟩ rfl rfl
                have h29 := h29.mono hJ130
                have y61_1h0 := y61_1h0.mono hJ130
                have hI := hI.trans hJ130
                have hL31 := hL31.trans hJ130
                have hG := hG.mono hJ130
                obtain ⟨l131, h133, H⟩ := obx H
                refine U rfl rfl (o_appD (r := R_regex_span) tsl46 rfl tz80 rfl rfl S 4 rfl rfl h29 h129 h133 fun v132 w J135 hJ136 S h134 => ?_)
                have h29 := h29.mono hJ136
                have h129 := h129.mono hJ136
                have y61_1h0 := y61_1h0.mono hJ136
                have hI := hI.trans hJ136
                have hL31 := hL31.trans hJ136
                have hG := hG.mono hJ136
                refine U rfl rfl (V (x_fa tf48_2 rfl) ?_)
                refine U rfl rfl (o_st tone46 S 5 rfl rfl rfl h134.one fun w S => ?_)
                exact ⟨q30, Nat.le_refl _, y61.2.rest, true, l131, y61_1v0, v132, J135, H, (Nat.le_of_succ_le hq35), ⟨rfl, rfl, rfl, trivial⟩, hL31, (S.sel 7 [4, 3, 5, 6] rfl), y61_1h0, h134⟩
              · rw [if_neg cc126] at H
                refine OK.gt rfl rfl rfl (vaF cc126) (V (x_fa tf51_1 rfl) ?_)
                refine OK.gt rfl rfl rfl (vaF cc126) (V (x_ld tsc38 rfl (S.load 1 rfl 1 rfl)) ?_)
                refine OK.gt rfl rfl rfl (vaF cc126) (V (x_fa tf51_1 rfl) ?_)
                refine OK.gt rfl rfl rfl (vaF cc126) (V (x_ld tsc38 rfl (S.load 0 rfl 1 rfl)) ?_)
                refine OK.gt rfl rfl rfl (vaF cc126) (V (x_bin rfl rfl rfl) ?_)
                refine U rfl rfl (V (x_pickFV (v := .bool (decide (y61.1.n > y61.1.n))) rfl (vaF cc126) rfl) ?_)
                refine U rfl rfl (V (x_nk rfl) ?_)
                refine U rfl rfl (V (x_fa tf44_1 rfl) ?_)
                refine U rfl rfl (o_st tone4 S 2 rfl rfl rfl rfl fun w S => ?_)
                refine FW.anew [(0, .pointer (some ⟨bx0, 0, none⟩)), (2, .pointer (some ⟨b1, 0, none⟩)), (3, .pointer (some ⟨b2, 0, none⟩)), (4, .pointer (some ⟨b65, 0, none⟩)), (5, .pointer (some ⟨b67, 0, none⟩))] ⟨rfl, rfl, rfl, rfl, rfl, trivial⟩ fun σ => ?_
                refine FW.region ?_
                refine U rfl rfl (V (x_fa tf48_2 rfl) ?_)
                refine U rfl rfl (V (x_ld tsc46 rfl (S.load 4 rfl 2 rfl)) ?_)
                refine U rfl rfl (V (x_fa tf51_1 rfl) ?_)
                refine U rfl rfl (V (x_ld tsc38 rfl (S.load 1 rfl 1 rfl)) ?_)
                refine U rfl rfl (V (x_fa tf51_1 rfl) ?_)
                refine U rfl rfl (V (x_ld tsc38 rfl (S.load 0 rfl 1 rfl)) ?_)
                refine U rfl rfl (V (x_bld tz80 tpl80 rfl (.one rfl (.one rfl PC.nil)) rfl) ?_)
                refine U rfl rfl (o_bsl tsl46 tz80 rfl rfl rfl rfl (.agg PC.nil) rfl S fun b137 w S => ?_)
                obtain ⟨J138, hJ140, S, h139⟩ := S.freeze (r := R_regex_span) (l := [(T_regex_span.mk y61.1.n y61.1.n)]) 0 rfl ⟨[.int .u32 y61.1.n, .int .u32 y61.1.n], _, rfl, rfl, rfl⟩ rfl rfl
                have h29 := h29.mono hJ140
                have y61_1h0 := y61_1h0.mono hJ140
                have hI := hI.trans hJ140
                have hL31 := hL31.trans hJ140
                have hG := hG.mono hJ140
                obtain ⟨l141, h143, H⟩ := obx H
                refine U rfl rfl (o_appD (r := R_regex_span) tsl46 rfl tz80 rfl rfl S 4 rfl rfl h29 h139 h143 fun v142 w J145 hJ146 S h144 => ?_)
                have h29 := h29.mono hJ146
                have h139 := h139.mono hJ146
                have y61_1h0 := y61_1h0.mono hJ146
                have hI := hI.trans hJ146
                have hL31 := hL31.trans hJ146
                have hG := hG.mono hJ146
                refine U rfl rfl (V (x_fa tf48_2 rfl) ?_)
                refine U rfl rfl (o_st tone46 S 5 rfl rfl rfl h144.one fun w S => ?_)
                exact ⟨q30, Nat.le_refl _, y61.2.rest, (decide (y61.1.n > y61.1.n)), l141, y61_1v0, v142, J145, H, (Nat.le_of_succ_le hq35), ⟨rfl, rfl, rfl, trivial⟩, hL31, (S.sel 7 [4, 3, 5, 6] rfl), y61_1h0, h144⟩
          · rw [if_neg cc66] at H
            refine FW.condT rfl (noT (vaF cc66)) ?_
            refine FW.seq ?_
            refine FW.anew [(0, .pointer (some ⟨bx0, 0, none⟩)), (2, .pointer (some ⟨b1, 0, none⟩)), (3, .pointer (some ⟨b2, 0, none⟩)), (4, .pointer (some ⟨b65, 0, none⟩))] ⟨rfl, rfl, rfl, rfl, trivial⟩ fun σ => ?_
            refine FW.region ?_
            refine U rfl rfl (V (x_movV (v := .pointer (some ⟨bx0, 0, none⟩)) rfl) ?_)
            refine U rfl rfl (V (x_movV (v := .pointer (some ⟨bx0, 0, none⟩)) rfl) ?_)
            refine U rfl rfl (V (x_nk rfl) ?_)
            refine U rfl rfl (V (x_fa tf44_1 rfl) ?_)
            refine U rfl rfl (V (x_ld tsc4 rfl (S.load 1 rfl 1 rfl)) ?_)
            refine U rfl rfl (V (x_movV (v := .bool y61.2.bad) rfl) ?_)
            by_cases cc147 : y61.2.bad = true
            · rw [if_pos cc147] at H
              refine OK.gf rfl rfl rfl cc147 ?_
              refine OK.gf rfl rfl rfl cc147 ?_
              refine OK.gf rfl rfl rfl cc147 ?_
              refine U rfl rfl (V (x_pickTV (v := .bool true) rfl cc147 rfl) ?_)
              refine U rfl rfl (V (x_movV (v := .bool true) rfl) ?_)
              refine OK.gf rfl rfl rfl rfl ?_
              refine OK.gf rfl rfl rfl rfl ?_
              refine OK.gf rfl rfl rfl rfl ?_
              refine OK.gf rfl rfl rfl rfl ?_
              refine U rfl rfl (V (x_pickTV (v := .bool true) rfl rfl rfl) ?_)
              refine U rfl rfl (V (x_nk rfl) ?_)
              refine U rfl rfl (V (x_fa tf44_1 rfl) ?_)
              refine U rfl rfl (o_st tone4 S 1 rfl rfl rfl rfl fun w S => ?_)
              refine FW.seq ?_
              refine FW.anew [(2, .pointer (some ⟨b1, 0, none⟩)), (3, .pointer (some ⟨b2, 0, none⟩))] ⟨rfl, rfl, trivial⟩ fun σ => ?_
              refine FW.region ?_
              refine U rfl rfl (V (x_ldA tag48 rfl (S.loadW 3 rfl) rfl) ?_)
              refine U rfl rfl (o_stA tag48 S 4 rfl rfl rfl rfl (c1 rfl (c1 rfl (c1 h29.one (c1 rfl c0)))) rfl fun w S => ?_)
              refine FW.ret ?_
              obtain rfl := Option.some.inj H
              obtain rfl := Option.some.inj HO33
              exact ⟨_, ⟨_, _, _, rfl, rfl, ldA tag48 (S.loadW 4 rfl) rfl, rfl⟩, ⟨(.slice none 0 0), v28, y61_1v0, J63, hI, rfl, (SlR.nil _ _), h29, y61_1h0, (S.sel 5 [1] rfl)⟩⟩
            · rw [if_neg cc147] at H
              refine OK.gt rfl rfl rfl (vaF cc147) (V (x_fa tf51_0 rfl) ?_)
              refine OK.gt rfl rfl rfl (vaF cc147) (V (x_ld tsc21 rfl (S.load 0 rfl 0 rfl)) ?_)
              refine OK.gt rfl rfl rfl (vaF cc147) (V (x_bin rfl rfl rfl) ?_)
              refine U rfl rfl (V (x_pickFV (v := .bool (y61.1.c != 93)) rfl (vaF cc147) rfl) ?_)
              refine U rfl rfl (V (x_movV (v := .bool (y61.1.c != 93)) rfl) ?_)
              by_cases cc148 : y61.1.c = 93
              · rw [if_pos cc148] at H
                refine OK.gt rfl rfl rfl (neF cc148) (V (x_fa tf48_2 rfl) ?_)
                refine OK.gt rfl rfl rfl (neF cc148) (V (x_ld tsc46 rfl (S.load 3 rfl 2 rfl)) ?_)
                refine OK.gt rfl rfl rfl (neF cc148) (V (x_lenD (r := R_regex_span) tsl46 h29) ?_)
                refine OK.gt rfl rfl rfl (neF cc148) (V (x_bin rfl rfl rfl) ?_)
                refine U rfl rfl (V (x_pickFV (v := .bool ((l27.length : Int) == 0)) rfl (neF cc148) rfl) ?_)
                refine U rfl rfl (V (x_nk rfl) ?_)
                refine U rfl rfl (V (x_fa tf44_1 rfl) ?_)
                refine U rfl rfl (o_st tone4 S 1 rfl rfl rfl rfl fun w S => ?_)
                refine FW.seq ?_
                refine FW.anew [(2, .pointer (some ⟨b1, 0, none⟩)), (3, .pointer (some ⟨b2, 0, none⟩))] ⟨rfl, rfl, trivial⟩ fun σ => ?_
                refine FW.region ?_
                refine U rfl rfl (V (x_ldA tag48 rfl (S.loadW 3 rfl) rfl) ?_)
                refine U rfl rfl (o_stA tag48 S 4 rfl rfl rfl rfl (c1 rfl (c1 rfl (c1 h29.one (c1 rfl c0)))) rfl fun w S => ?_)
                refine FW.ret ?_
                obtain rfl := Option.some.inj H
                obtain rfl := Option.some.inj HO33
                exact ⟨_, ⟨_, _, _, rfl, rfl, ldA tag48 (S.loadW 4 rfl) rfl, rfl⟩, ⟨(.slice none 0 0), v28, y61_1v0, J63, hI, rfl, (SlR.nil _ _), h29, y61_1h0, (S.sel 5 [1] rfl)⟩⟩
              · rw [if_neg cc148] at H
                refine OK.gf rfl rfl rfl (neT cc148) ?_
                refine OK.gf rfl rfl rfl (neT cc148) ?_
                refine OK.gf rfl rfl rfl (neT cc148) ?_
                refine OK.gf rfl rfl rfl (neT cc148) ?_
                refine U rfl rfl (V (x_pickTV (v := .bool true) rfl (neT cc148) rfl) ?_)
                refine U rfl rfl (V (x_nk rfl) ?_)
                refine U rfl rfl (V (x_fa tf44_1 rfl) ?_)
                refine U rfl rfl (o_st tone4 S 1 rfl rfl rfl rfl fun w S => ?_)
                refine FW.seq ?_
                refine FW.anew [(2, .pointer (some ⟨b1, 0, none⟩)), (3, .pointer (some ⟨b2, 0, none⟩))] ⟨rfl, rfl, trivial⟩ fun σ => ?_
                refine FW.region ?_
                refine U rfl rfl (V (x_ldA tag48 rfl (S.loadW 3 rfl) rfl) ?_)
                refine U rfl rfl (o_stA tag48 S 4 rfl rfl rfl rfl (c1 rfl (c1 rfl (c1 h29.one (c1 rfl c0)))) rfl fun w S => ?_)
                refine FW.ret ?_
                obtain rfl := Option.some.inj H
                obtain rfl := Option.some.inj HO33
                exact ⟨_, ⟨_, _, _, rfl, rfl, ldA tag48 (S.loadW 4 rfl) rfl, rfl⟩, ⟨(.slice none 0 0), v28, y61_1v0, J63, hI, rfl, (SlR.nil _ _), h29, y61_1h0, (S.sel 5 [1] rfl)⟩⟩

mutual
def regex_reader_choices.l0 : Nat → (List T_regex_piece) → (List T_regex_sign) → Bool → Option ((List T_regex_piece) × (List T_regex_sign) × Bool)
  | 0, _, _, _ => none
  | k + 1, l12, l15, b18 => (if b18 = true then (some (l12, l15, b18)) else ((regex_reader_peek.f k (T_regex_reader.mk l15 b18)).bind fun y34 => (if y34.1.c = 124 then ((regex_reader_next.f k y34.2).bind fun y39 => ((regex_reader_row.f k y39.2).bind fun y44 => ((app 64 l12 [y44.1]).bind fun l52 => (regex_reader_choices.l0 k l52 y44.2.rest y44.2.bad)))) else (some (l12, y34.2.rest, y34.2.bad)))))
def regex_reader_choices.f : Nat → T_regex_reader → Option (T_regex_piece × T_regex_reader)
  | 0, _ => none
  | k + 1, x0 => ((regex_reader_row.f k x0).bind fun y2 => ((regex_reader_choices.l0 k [y2.1] y2.2.rest y2.2.bad).bind fun (l25, l28, b31) => (some ((T_regex_piece.mk 1 l25 [] false), (T_regex_reader.mk l28 b31)))))
def regex_reader_row.l0 : Nat → (List T_regex_piece) → (List T_regex_sign) → Bool → Option ((List T_regex_piece) × (List T_regex_sign) × Bool)
  | 0, _, _, _ => none
  | k + 1, l5, l8, b11 => (if b11 = true then (some (l5, l8, b11)) else ((regex_reader_peek.f k (T_regex_reader.mk l8 b11)).bind fun y27 => (if y27.1.digits = true then ((regex_reader_next.f k y27.2).bind fun y34 => ((regex_reader_atom.f k y34.2 y34.1).bind fun y38 => ((regex_reader_repeats.f k y38.2 y38.1).bind fun y42 => ((app 64 l5 [y42.1]).bind fun l50 => (regex_reader_row.l0 k l50 y42.2.rest y42.2.bad))))) else (if y27.1.c = 0 then (some (l5, y27.2.rest, y27.2.bad)) else (if y27.1.c = 124 then (some (l5, y27.2.rest, y27.2.bad)) else (if y27.1.c = 41 then (some (l5, y27.2.rest, y27.2.bad)) else ((regex_reader_next.f k y27.2).bind fun y60 => ((regex_reader_atom.f k y60.2 y60.1).bind fun y64 => ((regex_reader_repeats.f k y64.2 y64.1).bind fun y68 => ((app 64 l5 [y68.1]).bind fun l76 => (regex_reader_row.l0 k l76 y68.2.rest y68.2.bad)))))))))))
def regex_reader_row.f : Nat → T_regex_reader → Option (T_regex_piece × T_regex_reader)
  | 0, _ => none
  | k + 1, x0 => ((regex_reader_row.l0 k [] x0.rest x0.bad).bind fun (l18, l21, b24) => (some ((T_regex_piece.mk 0 l18 [] false), (T_regex_reader.mk l21 b24))))
def regex_reader_atom.f : Nat → T_regex_reader → T_regex_sign → Option (T_regex_piece × T_regex_reader)
  | 0, _, _ => none
  | k + 1, x0, x1 => (if x1.digits = true then (some ((T_regex_piece.mk 2 [] [(T_regex_span.mk x1.n x1.n)] false), x0)) else (if x1.c = 46 then (some ((T_regex_piece.mk 3 [] [] false), x0)) else (if x1.c = 94 then (some ((T_regex_piece.mk 5 [] [] false), x0)) else (if x1.c = 36 then (some ((T_regex_piece.mk 6 [] [] false), x0)) else (if x1.c = 91 then ((regex_reader_set.f k x0).bind fun y12 => (some (y12.1, y12.2))) else (if x1.c = 40 then ((regex_reader_choices.f k x0).bind fun y17 => (if y17.2.bad = true then (some (y17.1, (T_regex_reader.mk y17.2.rest true))) else ((regex_reader_next.f k y17.2).bind fun y23 => (some (y17.1, (T_regex_reader.mk y23.2.rest (y23.1.c != 41))))))) else (some ((T_regex_piece.mk 0 [] [] false), (T_regex_reader.mk x0.rest true)))))))))
end
abbrev regex_reader_choices.C (k : Nat) : Prop := ∀ {x0 : T_regex_reader} {x0v0 : Value} {bx0 : Nat} {F : List It} {I : IMem} {w : World} {r : T_regex_piece × T_regex_reader}, Glob I → Own I w (.bk bx0 44 [x0v0, .bool x0.bad] :: F) → SlR R_regex_sign I x0v0 x0.rest → regex_reader_choices.f k x0 = some r →
    Calls Tryd.prog 17 #[.pointer (some ⟨bx0, 0, none⟩)] w fun e w' => ∃ v, e = .returned v ∧ ∃ (y_0v1 : Value) (y_0v2 : Value) (y_1v0 : Value) (J : IMem), I.le J ∧ v = .agg #[.int .i64 r.1.kind, y_0v1, y_0v2, .bool r.1.not] ∧ SlR R_regex_piece J y_0v1 r.1.parts ∧ SlR R_regex_span J y_0v2 r.1.spans ∧ SlR R_regex_sign J y_1v0 r.2.rest ∧ Own J w' (.bk bx0 44 [y_1v0, .bool r.2.bad] :: F)
abbrev regex_reader_row.C (k : Nat) : Prop := ∀ {x0 : T_regex_reader} {x0v0 : Value} {bx0 : Nat} {F : List It} {I : IMem} {w : World} {r : T_regex_piece × T_regex_reader}, Glob I → Own I w (.bk bx0 44 [x0v0, .bool x0.bad] :: F) → SlR R_regex_sign I x0v0 x0.rest → regex_reader_row.f k x0 = some r →
    Calls Tryd.prog 28 #[.pointer (some ⟨bx0, 0, none⟩)] w fun e w' => ∃ v, e = .returned v ∧ ∃ (y_0v1 : Value) (y_0v2 : Value) (y_1v0 : Value) (J : IMem), I.le J ∧ v = .agg #[.int .i64 r.1.kind, y_0v1, y_0v2, .bool r.1.not] ∧ SlR R_regex_piece J y_0v1 r.1.parts ∧ SlR R_regex_span J y_0v2 r.1.spans ∧ SlR R_regex_sign J y_1v0 r.2.rest ∧ Own J w' (.bk bx0 44 [y_1v0, .bool r.2.bad] :: F)
abbrev regex_reader_atom.C (k : Nat) : Prop := ∀ {x0 : T_regex_reader} {x1 : T_regex_sign} {x0v0 : Value} {bx0 : Nat} {F : List It} {I : IMem} {w : World} {r : T_regex_piece × T_regex_reader}, Glob I → Own I w (.bk bx0 44 [x0v0, .bool x0.bad] :: F) → SlR R_regex_sign I x0v0 x0.rest → regex_reader_atom.f k x0 x1 = some r →
    Calls Tryd.prog 44 #[.pointer (some ⟨bx0, 0, none⟩), .agg #[.int .i32 x1.c, .int .u32 x1.n, .bool x1.digits]] w fun e w' => ∃ v, e = .returned v ∧ ∃ (y_0v1 : Value) (y_0v2 : Value) (y_1v0 : Value) (J : IMem), I.le J ∧ v = .agg #[.int .i64 r.1.kind, y_0v1, y_0v2, .bool r.1.not] ∧ SlR R_regex_piece J y_0v1 r.1.parts ∧ SlR R_regex_span J y_0v2 r.1.spans ∧ SlR R_regex_sign J y_1v0 r.2.rest ∧ Own J w' (.bk bx0 44 [y_1v0, .bool r.2.bad] :: F)
theorem regex_reader_choices.step (k : Nat) (ih_regex_reader_row : ∀ m, m ≤ k → regex_reader_row.C m) : regex_reader_choices.C (k + 1) := by
  intro x0 x0v0 bx0 F I w r hG S x0h0 H
  have hI := IMem.le.refl I
  rw [regex_reader_choices.f] at H
  refine Calls.ofFW (args := [.pointer (some ⟨bx0, 0, none⟩)]) Tryd.func17 rfl rfl ?_
  refine FW.seq ?_
  refine FW.region ?_
  refine U rfl rfl (o_all tz48 S fun b1 w S => ?_)
  refine FW.seq ?_
  refine FW.region ?_
  refine U rfl rfl (V (x_movV (v := .pointer (some ⟨bx0, 0, none⟩)) rfl) ?_)
  obtain ⟨y2, hy3, H⟩ := obx H
  refine U rfl rfl (cl fb28 (@ih_regex_reader_row k (by omega) x0 _ _ _ _ _ _ hG (S.sel 2 [1, 0] rfl) x0h0 hy3) rfl ?_)
  rintro _ w ⟨y2_0v1, y2_0v2, y2_1v0, J4, hJ5, rfl, y2_0h1, y2_0h2, y2_1h0, S⟩
  have hI := hI.trans hJ5
  have hG := hG.mono hJ5
  refine U rfl rfl (o_bsl tsl45 tz48 rfl rfl rfl rfl (.agg PC.nil) rfl S fun b6 w S => ?_)
  obtain ⟨J7, hJ9, S, h8⟩ := S.freeze (r := R_regex_piece) (l := [y2.1]) 0 rfl ⟨[.int .i64 y2.1.kind, y2_0v1, y2_0v2, .bool y2.1.not], _, rfl, (R_regex_piece.mk (x := y2.1) y2_0h1 y2_0h2), rfl⟩ rfl rfl
  have y2_0h1 := y2_0h1.mono hJ9
  have y2_0h2 := y2_0h2.mono hJ9
  have y2_1h0 := y2_1h0.mono hJ9
  have hI := hI.trans hJ9
  have hG := hG.mono hJ9
  refine U rfl rfl (V (x_bld tz48 tpl48 rfl (.one rfl (.one h8.one PC.nil)) rfl) ?_)
  refine U rfl rfl (o_all tz48 S fun b10 w S => ?_)
  refine U rfl rfl (o_stA tag48 S 0 rfl rfl rfl rfl (c1 rfl (c1 h8.one (c1 rfl (c1 rfl c0)))) rfl fun w S => ?_)
  refine FW.seq ?_
  refine FW.block ?_
  obtain ⟨o21, hl23, HO22⟩ := obx H
  refine FW.cutX 0 (fun σ w => ∃ (l25 : (List T_regex_piece)) (l28 : (List T_regex_sign)) (b31 : Bool) (v26 : Value) (v29 : Value) (J24 : IMem), (l25, l28, b31) = o21 ∧ Has σ [(2, .pointer (some ⟨b1, 0, none⟩)), (3, .pointer (some ⟨b10, 0, none⟩))] ∧ J7.le J24 ∧ Own J24 w (.bk b10 48 [.int .i64 1, v26, (.slice none 0 0), .bool false] :: .tv v26 48 4 :: .bk bx0 44 [v29, .bool b31] :: .bk b1 48 [.int .i64 0, (.slice none 0 0), (.slice none 0 0), .bool false] :: F) ∧ SlR R_regex_piece J24 v26 l25 ∧ SlR R_regex_sign J24 v29 l28) ?_ ?_
  ·
    refine FW.loop k (FL.ind (fun q σ w => ∃ (l12 : (List T_regex_piece)) (l15 : (List T_regex_sign)) (b18 : Bool) (v13 : Value) (v16 : Value) (J11 : IMem), regex_reader_choices.l0 q l12 l15 b18 = some o21 ∧ q ≤ k ∧ Has σ [(0, .pointer (some ⟨bx0, 0, none⟩)), (2, .pointer (some ⟨b1, 0, none⟩)), (3, .pointer (some ⟨b10, 0, none⟩))] ∧ J7.le J11 ∧ Own J11 w (.bk b10 48 [.int .i64 1, v13, (.slice none 0 0), .bool false] :: .tv v13 48 4 :: .bk bx0 44 [v16, .bool b18] :: .bk b1 48 [.int .i64 0, (.slice none 0 0), (.slice none 0 0), .bool false] :: F) ∧ SlR R_regex_piece J11 v13 l12 ∧ SlR R_regex_sign J11 v16 l15) ?_ ?_ k k _ _ (Nat.le_refl _) ⟨[y2.1], y2.2.rest, y2.2.bad, (.slice (some ⟨b6, 0, none⟩) 1 1), y2_1v0, J7, hl23, Nat.le_refl _, ⟨rfl, rfl, rfl, trivial⟩, (IMem.le.refl _), S, h8, y2_1h0⟩)
    · rintro σ w ⟨l12, l15, b18, v13, v16, J11, H, _⟩; cases H
    · rintro q19 σ w ⟨l12, l15, b18, v13, v16, J11, H, hq32, hσ, hL20, S, h14, h17⟩
      have hI := hI.trans hL20
      have hG := hG.mono hL20
      rw [hσ.eq]
      rw [regex_reader_choices.l0] at H
      refine FW.seq ?_
      refine FW.seq ?_
      refine FW.region ?_
      refine U rfl rfl (V (x_movV (v := .pointer (some ⟨bx0, 0, none⟩)) rfl) ?_)
      refine U rfl rfl (V (x_nk rfl) ?_)
      refine U rfl rfl (V (x_fa tf44_1 rfl) ?_)
      refine U rfl rfl (V (x_ld tsc4 rfl (S.load 2 rfl 1 rfl)) ?_)
      refine U rfl rfl (V (x_not' rfl) ?_)
      refine U rfl rfl (V (x_movV (v := .bool (!b18)) rfl) ?_)
      by_cases cc33 : b18 = true
      · rw [if_pos cc33] at H
        refine OK.gf rfl rfl rfl (noF cc33) ?_
        refine OK.gf rfl rfl rfl (noF cc33) ?_
        refine OK.gf rfl rfl rfl (noF cc33) ?_
        refine OK.gf rfl rfl rfl (noF cc33) ?_
        refine U rfl rfl (V (x_pickFV (v := .bool false) rfl (noF cc33) rfl) ?_)
        refine FW.condF rfl rfl ?_
        refine FW.exit ?_
        exact ⟨l12, l15, b18, v13, v16, J11, (Option.some.inj H), ⟨rfl, rfl, trivial⟩, hL20, S, h14, h17⟩
      · rw [if_neg cc33] at H
        refine OK.gt rfl rfl rfl (noT (vaF cc33)) (V (x_movV (v := .pointer (some ⟨bx0, 0, none⟩)) rfl) ?_)
        obtain ⟨y34, hy35, H⟩ := obx H
        refine OK.gt rfl rfl rfl (noT (vaF cc33)) (cl fb18 (@regex_reader_peek.ok q19 (T_regex_reader.mk l15 b18) _ _ _ _ _ _ hG (S.sel 4 [2, 0, 1, 3] rfl) h17 hy35) rfl ?_)
        rintro _ w ⟨y34_1v0, J36, hJ37, rfl, y34_1h0, S⟩
        have h14 := h14.mono hJ37
        have hI := hI.trans hJ37
        have hL20 := hL20.trans hJ37
        have hG := hG.mono hJ37
        refine OK.gt rfl rfl rfl (noT (vaF cc33)) (V (x_fld tf51_0 tsc21 rfl rfl) ?_)
        refine OK.gt rfl rfl rfl (noT (vaF cc33)) (V (x_bin rfl rfl rfl) ?_)
        refine U rfl rfl (V (x_pickTV (v := .bool (y34.1.c == 124)) rfl (noT (vaF cc33)) rfl) ?_)
        by_cases cc38 : y34.1.c = 124
        · rw [if_pos cc38] at H
          refine FW.condT rfl (eqT cc38) ?_
          refine FW.skip ?_
          refine FW.block ?_
          refine FW.seq ?_
          refine FW.anew [(0, .pointer (some ⟨bx0, 0, none⟩)), (2, .pointer (some ⟨b1, 0, none⟩)), (3, .pointer (some ⟨b10, 0, none⟩))] ⟨rfl, rfl, rfl, trivial⟩ fun σ => ?_
          refine FW.region ?_
          refine U rfl rfl (V (x_movV (v := .pointer (some ⟨bx0, 0, none⟩)) rfl) ?_)
          obtain ⟨y39, hy40, H⟩ := obx H
          refine U rfl rfl (cl fb29 (@regex_reader_next.ok q19 y34.2 _ _ _ _ _ _ hG S y34_1h0 hy40) rfl ?_)
          rintro _ w ⟨y39_1v0, J41, hJ42, rfl, y39_1h0, S⟩
          have h14 := h14.mono hJ42
          have hI := hI.trans hJ42
          have hL20 := hL20.trans hJ42
          have hG := hG.mono hJ42
          have S := S.drew
          refine FW.regionD mixed ?_
          have hO := Hold.nil (w := { w with drawn := w.drawn + 1 })
          refine AQ.pure 0 rfl (by kernel_rfl) (by kernel_rfl) (by kernel_rfl) rfl hO (fun w => x_fa tf48_1 rfl) ?_
          have hR43 := IMem.le.refl J41
          refine AQ.take (S := Stab J41 [.bk b10 48 [.int .i64 1, v13, (.slice none 0 0), .bool false]]) 1 rfl (by kernel_rfl) (by kernel_rfl) (by kernel_rfl) rfl hO (Stab.of S 1 rfl hR43) (fun w hS => x_ld tsc45 rfl (hS.load 0 rfl 1 rfl)) fun hO => ?_
          refine AQ.pure 2 rfl (by kernel_rfl) (by kernel_rfl) (by kernel_rfl) rfl hO (fun w => x_movV (v := .pointer (some ⟨bx0, 0, none⟩)) rfl) ?_
          refine AQ.one 3 [1] [true] (by kernel_rfl) rfl (by kernel_rfl) ?_
          obtain ⟨y44, hy45, H⟩ := obx H
          refine U rfl rfl (cl fb28 (@ih_regex_reader_row q19 (by omega) y39.2 _ _ _ _ _ _ hG S y39_1h0 hy45) rfl ?_)
          rintro _ w ⟨y44_0v1, y44_0v2, y44_1v0, J46, hJ47, rfl, y44_0h1, y44_0h2, y44_1h0, S⟩
          have h14 := h14.mono hJ47
          have hI := hI.trans hJ47
          have hL20 := hL20.trans hJ47
          have hR43 := hR43.trans hJ47
          have hG := hG.mono hJ47
          refine andI (Hold.cons (Stab.of S 1 rfl hR43) Hold.nil) fun hO => ?_
          refine AQ.one 4 [1] [true] (by kernel_rfl) rfl (by kernel_rfl) ?_
          refine U rfl rfl (o_bsl tsl45 tz48 rfl rfl rfl rfl (.agg PC.nil) rfl S fun b48 w S => ?_)
          obtain ⟨J49, hJ51, S, h50⟩ := S.freeze (r := R_regex_piece) (l := [y44.1]) 0 rfl ⟨[.int .i64 y44.1.kind, y44_0v1, y44_0v2, .bool y44.1.not], _, rfl, (R_regex_piece.mk (x := y44.1) y44_0h1 y44_0h2), rfl⟩ rfl rfl
          have h14 := h14.mono hJ51
          have y44_0h1 := y44_0h1.mono hJ51
          have y44_0h2 := y44_0h2.mono hJ51
          have y44_1h0 := y44_1h0.mono hJ51
          have hI := hI.trans hJ51
          have hL20 := hL20.trans hJ51
          have hR43 := hR43.trans hJ51
          have hG := hG.mono hJ51
          refine andI (Hold.cons (Stab.of S 2 rfl hR43) Hold.nil) fun hO => ?_
          refine AQ.one 5 [1] [false] (by kernel_rfl) rfl (by kernel_rfl) ?_
          obtain ⟨l52, h54, H⟩ := obx H
          refine U rfl rfl (o_appD (r := R_regex_piece) tsl45 rfl tz48 rfl rfl S 3 rfl rfl h14 h50 h54 fun v53 w J56 hJ57 S h55 => ?_)
          have h14 := h14.mono hJ57
          have y44_0h1 := y44_0h1.mono hJ57
          have y44_0h2 := y44_0h2.mono hJ57
          have h50 := h50.mono hJ57
          have y44_1h0 := y44_1h0.mono hJ57
          have hI := hI.trans hJ57
          have hL20 := hL20.trans hJ57
          have hR43 := hR43.trans hJ57
          have hG := hG.mono hJ57
          refine andI Hold.nil fun hO => ?_
          refine AQ.pure 6 rfl (by kernel_rfl) (by kernel_rfl) (by kernel_rfl) rfl hO (fun w => x_fa tf48_1 rfl) ?_
          refine AQ.one 7 [] [] (by kernel_rfl) rfl (by kernel_rfl) ?_
          refine U rfl rfl (o_st tone45 S 2 rfl rfl rfl h55.one fun w S => ?_)
          refine andI Hold.nil fun hO => ?_
          refine AQ.done (by kernel_rfl) ?_
          exact ⟨q19, Nat.le_refl _, l52, y44.2.rest, y44.2.bad, v53, y44_1v0, J56, H, (Nat.le_of_succ_le hq32), ⟨rfl, rfl, rfl, trivial⟩, hL20, (S.sel 5 [2, 3, 1, 4] rfl), h55, y44_1h0⟩
        · rw [if_neg cc38] at H
          refine FW.condF rfl (eqF cc38) ?_
          refine FW.exit ?_
          exact ⟨l12, y34.2.rest, y34.2.bad, v13, y34_1v0, J36, (Option.some.inj H), ⟨rfl, rfl, trivial⟩, hL20, (S.sel 4 [1, 2, 0, 3] rfl), h14, y34_1h0⟩
  · rintro σ w ⟨l25, l28, b31, v26, v29, J24, ho, hσ, hL20, S, h27, h30⟩
    subst ho
    have H := HO22
    try dsimp only at H
    have hI := hI.trans hL20
    have hG := hG.mono hL20
    rw [hσ.eq]
    refine FW.seq ?_
    refine FW.region ?_
    refine U rfl rfl (V (x_ldA tag48 rfl (S.loadW 0 rfl) rfl) ?_)
    refine U rfl rfl (o_stA tag48 S 3 rfl rfl rfl rfl (c1 rfl (c1 h27.one (c1 rfl (c1 rfl c0)))) rfl fun w S => ?_)
    refine FW.ret ?_
    obtain rfl := Option.some.inj H
    exact ⟨_, ⟨_, _, _, rfl, rfl, ldA tag48 (S.loadW 3 rfl) rfl, rfl⟩, ⟨v26, (.slice none 0 0), v29, J24, hI, rfl, h27, (SlR.nil _ _), h30, (S.sel 4 [2] rfl)⟩⟩
theorem regex_reader_choices.zero : regex_reader_choices.C 0 := by
  intro _ _ _ _ _ _ _ _ _ _ H; cases H
theorem regex_reader_row.step (k : Nat) (ih_regex_reader_atom : ∀ m, m ≤ k → regex_reader_atom.C m) : regex_reader_row.C (k + 1) := by
  intro x0 x0v0 bx0 F I w r hG S x0h0 H
  have hI := IMem.le.refl I
  rw [regex_reader_row.f] at H
  refine Calls.ofFW (args := [.pointer (some ⟨bx0, 0, none⟩)]) Tryd.func28 rfl rfl ?_
  refine FW.seq ?_
  refine FW.region ?_
  refine U rfl rfl (o_all tz48 S fun b1 w S => ?_)
  refine FW.seq ?_
  refine FW.region ?_
  refine U rfl rfl (V (x_bld tz48 tpl48 rfl (.one rfl PC.nil) rfl) ?_)
  refine U rfl rfl (o_all tz48 S fun b2 w S => ?_)
  refine U rfl rfl (o_stA tag48 S 0 rfl rfl rfl rfl (c1 rfl (c1 rfl (c1 rfl (c1 rfl c0)))) rfl fun w S => ?_)
  refine FW.seq ?_
  refine FW.block ?_
  have S := S.nil_tv 48 4
  obtain ⟨o14, hl16, HO15⟩ := obx H
  refine FW.cutX 0 (fun σ w => ∃ (l18 : (List T_regex_piece)) (l21 : (List T_regex_sign)) (b24 : Bool) (v19 : Value) (v22 : Value) (J17 : IMem), (l18, l21, b24) = o14 ∧ Has σ [(2, .pointer (some ⟨b1, 0, none⟩)), (3, .pointer (some ⟨b2, 0, none⟩))] ∧ I.le J17 ∧ Own J17 w (.tv v19 48 4 :: .bk b2 48 [.int .i64 0, v19, (.slice none 0 0), .bool false] :: .bk b1 48 [.int .i64 0, (.slice none 0 0), (.slice none 0 0), .bool false] :: .bk bx0 44 [v22, .bool b24] :: F) ∧ SlR R_regex_piece J17 v19 l18 ∧ SlR R_regex_sign J17 v22 l21) ?_ ?_
  ·
    refine FW.loop k (FL.ind (fun q σ w => ∃ (l5 : (List T_regex_piece)) (l8 : (List T_regex_sign)) (b11 : Bool) (v6 : Value) (v9 : Value) (J4 : IMem), regex_reader_row.l0 q l5 l8 b11 = some o14 ∧ q ≤ k ∧ Has σ [(0, .pointer (some ⟨bx0, 0, none⟩)), (2, .pointer (some ⟨b1, 0, none⟩)), (3, .pointer (some ⟨b2, 0, none⟩))] ∧ I.le J4 ∧ Own J4 w (.tv v6 48 4 :: .bk b2 48 [.int .i64 0, v6, (.slice none 0 0), .bool false] :: .bk b1 48 [.int .i64 0, (.slice none 0 0), (.slice none 0 0), .bool false] :: .bk bx0 44 [v9, .bool b11] :: F) ∧ SlR R_regex_piece J4 v6 l5 ∧ SlR R_regex_sign J4 v9 l8) ?_ ?_ k k _ _ (Nat.le_refl _) ⟨[], x0.rest, x0.bad, (.slice none 0 0), x0v0, I, hl16, Nat.le_refl _, ⟨rfl, rfl, rfl, trivial⟩, (IMem.le.refl _), S, (SlR.nil _ _), x0h0⟩)
    · rintro σ w ⟨l5, l8, b11, v6, v9, J4, H, _⟩; cases H
    · rintro q12 σ w ⟨l5, l8, b11, v6, v9, J4, H, hq25, hσ, hL13, S, h7, h10⟩
      have hI := hI.trans hL13
      have hG := hG.mono hL13
      rw [hσ.eq]
      rw [regex_reader_row.l0] at H
      refine FW.seq ?_
      refine FW.seq ?_
      refine FW.region ?_
      refine U rfl rfl (V (x_movV (v := .pointer (some ⟨bx0, 0, none⟩)) rfl) ?_)
      refine U rfl rfl (V (x_nk rfl) ?_)
      refine U rfl rfl (V (x_fa tf44_1 rfl) ?_)
      refine U rfl rfl (V (x_ld tsc4 rfl (S.load 3 rfl 1 rfl)) ?_)
      refine U rfl rfl (V (x_not' rfl) ?_)
      by_cases cc26 : b11 = true
      · rw [if_pos cc26] at H
        refine FW.condF rfl (noF cc26) ?_
        refine FW.exit ?_
        exact ⟨l5, l8, b11, v6, v9, J4, (Option.some.inj H), ⟨rfl, rfl, trivial⟩, hL13, S, h7, h10⟩
      · rw [if_neg cc26] at H
        refine FW.condT rfl (noT (vaF cc26)) ?_
        refine FW.skip ?_
        refine FW.block ?_
        refine FW.seq ?_
        refine FW.region ?_
        refine U rfl rfl (V (x_movV (v := .pointer (some ⟨bx0, 0, none⟩)) rfl) ?_)
        obtain ⟨y27, hy28, H⟩ := obx H
        refine U rfl rfl (cl fb18 (@regex_reader_peek.ok q12 (T_regex_reader.mk l8 b11) _ _ _ _ _ _ hG (S.sel 4 [3, 0, 1, 2] rfl) h10 hy28) rfl ?_)
        rintro _ w ⟨y27_1v0, J29, hJ30, rfl, y27_1h0, S⟩
        have h7 := h7.mono hJ30
        have hI := hI.trans hJ30
        have hL13 := hL13.trans hJ30
        have hG := hG.mono hJ30
        refine U rfl rfl (o_all tz51 S fun b31 w S => ?_)
        refine U rfl rfl (o_stA tag51 S 0 rfl rfl rfl rfl (c1 rfl (c1 rfl (c1 rfl c0))) rfl fun w S => ?_)
        refine FW.seq ?_
        refine FW.seq ?_
        refine FW.anew [(0, .pointer (some ⟨bx0, 0, none⟩)), (2, .pointer (some ⟨b1, 0, none⟩)), (3, .pointer (some ⟨b2, 0, none⟩)), (4, .pointer (some ⟨b31, 0, none⟩))] ⟨rfl, rfl, rfl, rfl, trivial⟩ fun σ => ?_
        refine FW.region ?_
        refine U rfl rfl (V (x_fa tf51_2 rfl) ?_)
        refine U rfl rfl (V (x_ld tsc4 rfl (S.load 0 rfl 2 rfl)) ?_)
        refine U rfl rfl (V (x_not' rfl) ?_)
        refine U rfl rfl (V (x_movV (v := .bool (!y27.1.digits)) rfl) ?_)
        by_cases cc32 : y27.1.digits = true
        · rw [if_pos cc32] at H
          refine OK.gf rfl rfl rfl (noF cc32) ?_
          refine OK.gf rfl rfl rfl (noF cc32) ?_
          refine OK.gf rfl rfl rfl (noF cc32) ?_
          refine OK.gf rfl rfl rfl (noF cc32) ?_
          refine OK.gu rfl rfl rfl ?_
          refine OK.gu rfl rfl rfl ?_
          refine OK.gu rfl rfl rfl ?_
          refine OK.gf rfl rfl rfl (noF cc32) ?_
          refine OK.gf rfl rfl rfl (noF cc32) ?_
          refine OK.gu rfl rfl rfl ?_
          refine OK.gu rfl rfl rfl ?_
          refine OK.gu rfl rfl rfl ?_
          refine OK.gf rfl rfl rfl (noF cc32) ?_
          refine U rfl rfl (V (x_pickFV (v := .bool false) rfl (noF cc32) rfl) ?_)
          refine FW.condF rfl rfl ?_
          refine FW.skip ?_
          have S := S.drew
          refine FW.regionD mixed ?_
          have hO := Hold.nil (w := { w with drawn := w.drawn + 1 })
          refine AQ.pure 0 rfl (by kernel_rfl) (by kernel_rfl) (by kernel_rfl) rfl hO (fun w => x_fa tf48_1 rfl) ?_
          have hR33 := IMem.le.refl J29
          refine AQ.take (S := Stab J29 [.bk b2 48 [.int .i64 0, v6, (.slice none 0 0), .bool false]]) 1 rfl (by kernel_rfl) (by kernel_rfl) (by kernel_rfl) rfl hO (Stab.of S 3 rfl hR33) (fun w hS => x_ld tsc45 rfl (hS.load 0 rfl 1 rfl)) fun hO => ?_
          refine AQ.pure 2 rfl (by kernel_rfl) (by kernel_rfl) (by kernel_rfl) rfl hO (fun w => x_movV (v := .pointer (some ⟨bx0, 0, none⟩)) rfl) ?_
          refine AQ.pure 3 rfl (by kernel_rfl) (by kernel_rfl) (by kernel_rfl) rfl hO (fun w => x_movV (v := .pointer (some ⟨bx0, 0, none⟩)) rfl) ?_
          refine AQ.pure 4 rfl (by kernel_rfl) (by kernel_rfl) (by kernel_rfl) rfl hO (fun w => x_movV (v := .pointer (some ⟨bx0, 0, none⟩)) rfl) ?_
          refine AQ.one 5 [1] [true] (by kernel_rfl) rfl (by kernel_rfl) ?_
          obtain ⟨y34, hy35, H⟩ := obx H
          refine U rfl rfl (cl fb29 (@regex_reader_next.ok q12 y27.2 _ _ _ _ _ _ hG (S.sel 5 [1, 0, 2, 3, 4] rfl) y27_1h0 hy35) rfl ?_)
          rintro _ w ⟨y34_1v0, J36, hJ37, rfl, y34_1h0, S⟩
          have h7 := h7.mono hJ37
          have hI := hI.trans hJ37
          have hL13 := hL13.trans hJ37
          have hR33 := hR33.trans hJ37
          have hG := hG.mono hJ37
          refine andI (Hold.cons (Stab.of S 3 rfl hR33) Hold.nil) fun hO => ?_
          refine AQ.one 6 [1] [true] (by kernel_rfl) rfl (by kernel_rfl) ?_
          obtain ⟨y38, hy39, H⟩ := obx H
          refine U rfl rfl (cl fb44 (@ih_regex_reader_atom q12 (by omega) y34.2 y34.1 _ _ _ _ _ _ hG S y34_1h0 hy39) rfl ?_)
          rintro _ w ⟨y38_0v1, y38_0v2, y38_1v0, J40, hJ41, rfl, y38_0h1, y38_0h2, y38_1h0, S⟩
          have h7 := h7.mono hJ41
          have hI := hI.trans hJ41
          have hL13 := hL13.trans hJ41
          have hR33 := hR33.trans hJ41
          have hG := hG.mono hJ41
          refine andI (Hold.cons (Stab.of S 3 rfl hR33) Hold.nil) fun hO => ?_
          refine AQ.one 7 [1] [true] (by kernel_rfl) rfl (by kernel_rfl) ?_
          obtain ⟨y42, hy43, H⟩ := obx H
          refine U rfl rfl (cl fb43 (@regex_reader_repeats.ok q12 y38.2 y38.1 _ _ _ _ _ _ _ _ hG S y38_1h0 y38_0h1 y38_0h2 hy43) rfl ?_)
          rintro _ w ⟨y42_0v1, y42_0v2, y42_1v0, J44, hJ45, rfl, y42_0h1, y42_0h2, y42_1h0, S⟩
          have h7 := h7.mono hJ45
          have y38_0h1 := y38_0h1.mono hJ45
          have y38_0h2 := y38_0h2.mono hJ45
          have hI := hI.trans hJ45
          have hL13 := hL13.trans hJ45
          have hR33 := hR33.trans hJ45
          have hG := hG.mono hJ45
          refine andI (Hold.cons (Stab.of S 3 rfl hR33) Hold.nil) fun hO => ?_
          refine AQ.one 8 [1] [true] (by kernel_rfl) rfl (by kernel_rfl) ?_
          refine U rfl rfl (o_bsl tsl45 tz48 rfl rfl rfl rfl (.agg PC.nil) rfl S fun b46 w S => ?_)
          obtain ⟨J47, hJ49, S, h48⟩ := S.freeze (r := R_regex_piece) (l := [y42.1]) 0 rfl ⟨[.int .i64 y42.1.kind, y42_0v1, y42_0v2, .bool y42.1.not], _, rfl, (R_regex_piece.mk (x := y42.1) y42_0h1 y42_0h2), rfl⟩ rfl rfl
          have h7 := h7.mono hJ49
          have y38_0h1 := y38_0h1.mono hJ49
          have y38_0h2 := y38_0h2.mono hJ49
          have y42_0h1 := y42_0h1.mono hJ49
          have y42_0h2 := y42_0h2.mono hJ49
          have y42_1h0 := y42_1h0.mono hJ49
          have hI := hI.trans hJ49
          have hL13 := hL13.trans hJ49
          have hR33 := hR33.trans hJ49
          have hG := hG.mono hJ49
          refine andI (Hold.cons (Stab.of S 4 rfl hR33) Hold.nil) fun hO => ?_
          refine AQ.one 9 [1] [false] (by kernel_rfl) rfl (by kernel_rfl) ?_
          obtain ⟨l50, h52, H⟩ := obx H
          refine U rfl rfl (o_appD (r := R_regex_piece) tsl45 rfl tz48 rfl rfl S 3 rfl rfl h7 h48 h52 fun v51 w J54 hJ55 S h53 => ?_)
          have h7 := h7.mono hJ55
          have y38_0h1 := y38_0h1.mono hJ55
          have y38_0h2 := y38_0h2.mono hJ55
          have y42_0h1 := y42_0h1.mono hJ55
          have y42_0h2 := y42_0h2.mono hJ55
          have h48 := h48.mono hJ55
          have y42_1h0 := y42_1h0.mono hJ55
          have hI := hI.trans hJ55
          have hL13 := hL13.trans hJ55
          have hR33 := hR33.trans hJ55
          have hG := hG.mono hJ55
          refine andI Hold.nil fun hO => ?_
          refine AQ.pure 10 rfl (by kernel_rfl) (by kernel_rfl) (by kernel_rfl) rfl hO (fun w => x_fa tf48_1 rfl) ?_
          refine AQ.one 11 [] [] (by kernel_rfl) rfl (by kernel_rfl) ?_
          refine U rfl rfl (o_st tone45 S 4 rfl rfl rfl h53.one fun w S => ?_)
          refine andI Hold.nil fun hO => ?_
          refine AQ.done (by kernel_rfl) ?_
          exact ⟨q12, Nat.le_refl _, l50, y42.2.rest, y42.2.bad, v51, y42_1v0, J54, H, (Nat.le_of_succ_le hq25), ⟨rfl, rfl, rfl, trivial⟩, hL13, (S.sel 6 [3, 4, 5, 1] rfl), h53, y42_1h0⟩
        · rw [if_neg cc32] at H
          refine OK.gt rfl rfl rfl (noT (vaF cc32)) (V (x_fa tf51_0 rfl) ?_)
          refine OK.gt rfl rfl rfl (noT (vaF cc32)) (V (x_ld tsc21 rfl (S.load 0 rfl 0 rfl)) ?_)
          refine OK.gt rfl rfl rfl (noT (vaF cc32)) (V (x_bin rfl rfl rfl) ?_)
          refine OK.gt rfl rfl rfl (noT (vaF cc32)) (V (x_movV (v := .bool (y27.1.c == 0)) rfl) ?_)
          by_cases cc56 : y27.1.c = 0
          · rw [if_pos cc56] at H
            refine OK.gf rfl rfl rfl (eqT cc56) ?_
            refine OK.gf rfl rfl rfl (eqT cc56) ?_
            refine OK.gf rfl rfl rfl (eqT cc56) ?_
            refine OK.gt rfl rfl rfl (noT (vaF cc32)) (V (x_pickTV (v := .bool true) rfl (eqT cc56) rfl) ?_)
            refine OK.gt rfl rfl rfl (noT (vaF cc32)) (V (x_movV (v := .bool true) rfl) ?_)
            refine OK.gf rfl rfl rfl rfl ?_
            refine OK.gf rfl rfl rfl rfl ?_
            refine OK.gf rfl rfl rfl rfl ?_
            refine OK.gt rfl rfl rfl (noT (vaF cc32)) (V (x_pickTV (v := .bool true) rfl rfl rfl) ?_)
            refine U rfl rfl (V (x_pickTV (v := .bool true) rfl (noT (vaF cc32)) rfl) ?_)
            refine FW.condT rfl rfl ?_
            refine FW.exit ?_
            exact ⟨l5, y27.2.rest, y27.2.bad, v6, y27_1v0, J29, (Option.some.inj H), ⟨rfl, rfl, trivial⟩, hL13, (S.sel 5 [2, 3, 4, 1] rfl), h7, y27_1h0⟩
          · rw [if_neg cc56] at H
            refine OK.gt rfl rfl rfl (eqF cc56) (V (x_fa tf51_0 rfl) ?_)
            refine OK.gt rfl rfl rfl (eqF cc56) (V (x_ld tsc21 rfl (S.load 0 rfl 0 rfl)) ?_)
            refine OK.gt rfl rfl rfl (eqF cc56) (V (x_bin rfl rfl rfl) ?_)
            refine OK.gt rfl rfl rfl (noT (vaF cc32)) (V (x_pickFV (v := .bool (y27.1.c == 124)) rfl (eqF cc56) rfl) ?_)
            refine OK.gt rfl rfl rfl (noT (vaF cc32)) (V (x_movV (v := .bool (y27.1.c == 124)) rfl) ?_)
            by_cases cc57 : y27.1.c = 124
            · rw [if_pos cc57] at H
              refine OK.gf rfl rfl rfl (eqT cc57) ?_
              refine OK.gf rfl rfl rfl (eqT cc57) ?_
              refine OK.gf rfl rfl rfl (eqT cc57) ?_
              refine OK.gt rfl rfl rfl (noT (vaF cc32)) (V (x_pickTV (v := .bool true) rfl (eqT cc57) rfl) ?_)
              refine U rfl rfl (V (x_pickTV (v := .bool true) rfl (noT (vaF cc32)) rfl) ?_)
              refine FW.condT rfl rfl ?_
              refine FW.exit ?_
              exact ⟨l5, y27.2.rest, y27.2.bad, v6, y27_1v0, J29, (Option.some.inj H), ⟨rfl, rfl, trivial⟩, hL13, (S.sel 5 [2, 3, 4, 1] rfl), h7, y27_1h0⟩
            · rw [if_neg cc57] at H
              refine OK.gt rfl rfl rfl (eqF cc57) (V (x_fa tf51_0 rfl) ?_)
              refine OK.gt rfl rfl rfl (eqF cc57) (V (x_ld tsc21 rfl (S.load 0 rfl 0 rfl)) ?_)
              refine OK.gt rfl rfl rfl (eqF cc57) (V (x_bin rfl rfl rfl) ?_)
              refine OK.gt rfl rfl rfl (noT (vaF cc32)) (V (x_pickFV (v := .bool (y27.1.c == 41)) rfl (eqF cc57) rfl) ?_)
              refine U rfl rfl (V (x_pickTV (v := .bool (y27.1.c == 41)) rfl (noT (vaF cc32)) rfl) ?_)
              by_cases cc58 : y27.1.c = 41
              · rw [if_pos cc58] at H
                refine FW.condT rfl (eqT cc58) ?_
                refine FW.exit ?_
                exact ⟨l5, y27.2.rest, y27.2.bad, v6, y27_1v0, J29, (Option.some.inj H), ⟨rfl, rfl, trivial⟩, hL13, (S.sel 5 [2, 3, 4, 1] rfl), h7, y27_1h0⟩
              · rw [if_neg cc58] at H
                refine FW.condF rfl (eqF cc58) ?_
                refine FW.skip ?_
                refine FW.anew [(0, .pointer (some ⟨bx0, 0, none⟩)), (2, .pointer (some ⟨b1, 0, none⟩)), (3, .pointer (some ⟨b2, 0, none⟩))] ⟨rfl, rfl, rfl, trivial⟩ fun σ => ?_
                have S := S.drew
                refine FW.regionD mixed ?_
                have hO := Hold.nil (w := { w with drawn := w.drawn + 1 })
                refine AQ.pure 0 rfl (by kernel_rfl) (by kernel_rfl) (by kernel_rfl) rfl hO (fun w => x_fa tf48_1 rfl) ?_
                have hR59 := IMem.le.refl J29
                refine AQ.take (S := Stab J29 [.bk b2 48 [.int .i64 0, v6, (.slice none 0 0), .bool false]]) 1 rfl (by kernel_rfl) (by kernel_rfl) (by kernel_rfl) rfl hO (Stab.of S 3 rfl hR59) (fun w hS => x_ld tsc45 rfl (hS.load 0 rfl 1 rfl)) fun hO => ?_
                refine AQ.pure 2 rfl (by kernel_rfl) (by kernel_rfl) (by kernel_rfl) rfl hO (fun w => x_movV (v := .pointer (some ⟨bx0, 0, none⟩)) rfl) ?_
                refine AQ.pure 3 rfl (by kernel_rfl) (by kernel_rfl) (by kernel_rfl) rfl hO (fun w => x_movV (v := .pointer (some ⟨bx0, 0, none⟩)) rfl) ?_
                refine AQ.pure 4 rfl (by kernel_rfl) (by kernel_rfl) (by kernel_rfl) rfl hO (fun w => x_movV (v := .pointer (some ⟨bx0, 0, none⟩)) rfl) ?_
                refine AQ.one 5 [1] [true] (by kernel_rfl) rfl (by kernel_rfl) ?_
                obtain ⟨y60, hy61, H⟩ := obx H
                refine U rfl rfl (cl fb29 (@regex_reader_next.ok q12 y27.2 _ _ _ _ _ _ hG (S.sel 5 [1, 0, 2, 3, 4] rfl) y27_1h0 hy61) rfl ?_)
                rintro _ w ⟨y60_1v0, J62, hJ63, rfl, y60_1h0, S⟩
                have h7 := h7.mono hJ63
                have hI := hI.trans hJ63
                have hL13 := hL13.trans hJ63
                have hR59 := hR59.trans hJ63
                have hG := hG.mono hJ63
                refine andI (Hold.cons (Stab.of S 3 rfl hR59) Hold.nil) fun hO => ?_
                refine AQ.one 6 [1] [true] (by kernel_rfl) rfl (by kernel_rfl) ?_
                obtain ⟨y64, hy65, H⟩ := obx H
                refine U rfl rfl (cl fb44 (@ih_regex_reader_atom q12 (by omega) y60.2 y60.1 _ _ _ _ _ _ hG S y60_1h0 hy65) rfl ?_)
                rintro _ w ⟨y64_0v1, y64_0v2, y64_1v0, J66, hJ67, rfl, y64_0h1, y64_0h2, y64_1h0, S⟩
                have h7 := h7.mono hJ67
                have hI := hI.trans hJ67
                have hL13 := hL13.trans hJ67
                have hR59 := hR59.trans hJ67
                have hG := hG.mono hJ67
                refine andI (Hold.cons (Stab.of S 3 rfl hR59) Hold.nil) fun hO => ?_
                refine AQ.one 7 [1] [true] (by kernel_rfl) rfl (by kernel_rfl) ?_
                obtain ⟨y68, hy69, H⟩ := obx H
                refine U rfl rfl (cl fb43 (@regex_reader_repeats.ok q12 y64.2 y64.1 _ _ _ _ _ _ _ _ hG S y64_1h0 y64_0h1 y64_0h2 hy69) rfl ?_)
                rintro _ w ⟨y68_0v1, y68_0v2, y68_1v0, J70, hJ71, rfl, y68_0h1, y68_0h2, y68_1h0, S⟩
                have h7 := h7.mono hJ71
                have y64_0h1 := y64_0h1.mono hJ71
                have y64_0h2 := y64_0h2.mono hJ71
                have hI := hI.trans hJ71
                have hL13 := hL13.trans hJ71
                have hR59 := hR59.trans hJ71
                have hG := hG.mono hJ71
                refine andI (Hold.cons (Stab.of S 3 rfl hR59) Hold.nil) fun hO => ?_
                refine AQ.one 8 [1] [true] (by kernel_rfl) rfl (by kernel_rfl) ?_
                refine U rfl rfl (o_bsl tsl45 tz48 rfl rfl rfl rfl (.agg PC.nil) rfl S fun b72 w S => ?_)
                obtain ⟨J73, hJ75, S, h74⟩ := S.freeze (r := R_regex_piece) (l := [y68.1]) 0 rfl ⟨[.int .i64 y68.1.kind, y68_0v1, y68_0v2, .bool y68.1.not], _, rfl, (R_regex_piece.mk (x := y68.1) y68_0h1 y68_0h2), rfl⟩ rfl rfl
                have h7 := h7.mono hJ75
                have y64_0h1 := y64_0h1.mono hJ75
                have y64_0h2 := y64_0h2.mono hJ75
                have y68_0h1 := y68_0h1.mono hJ75
                have y68_0h2 := y68_0h2.mono hJ75
                have y68_1h0 := y68_1h0.mono hJ75
                have hI := hI.trans hJ75
                have hL13 := hL13.trans hJ75
                have hR59 := hR59.trans hJ75
                have hG := hG.mono hJ75
                refine andI (Hold.cons (Stab.of S 4 rfl hR59) Hold.nil) fun hO => ?_
                refine AQ.one 9 [1] [false] (by kernel_rfl) rfl (by kernel_rfl) ?_
                obtain ⟨l76, h78, H⟩ := obx H
                refine U rfl rfl (o_appD (r := R_regex_piece) tsl45 rfl tz48 rfl rfl S 3 rfl rfl h7 h74 h78 fun v77 w J80 hJ81 S h79 => ?_)
                have h7 := h7.mono hJ81
                have y64_0h1 := y64_0h1.mono hJ81
                have y64_0h2 := y64_0h2.mono hJ81
                have y68_0h1 := y68_0h1.mono hJ81
                have y68_0h2 := y68_0h2.mono hJ81
                have h74 := h74.mono hJ81
                have y68_1h0 := y68_1h0.mono hJ81
                have hI := hI.trans hJ81
                have hL13 := hL13.trans hJ81
                have hR59 := hR59.trans hJ81
                have hG := hG.mono hJ81
                refine andI Hold.nil fun hO => ?_
                refine AQ.pure 10 rfl (by kernel_rfl) (by kernel_rfl) (by kernel_rfl) rfl hO (fun w => x_fa tf48_1 rfl) ?_
                refine AQ.one 11 [] [] (by kernel_rfl) rfl (by kernel_rfl) ?_
                refine U rfl rfl (o_st tone45 S 4 rfl rfl rfl h79.one fun w S => ?_)
                refine andI Hold.nil fun hO => ?_
                refine AQ.done (by kernel_rfl) ?_
                exact ⟨q12, Nat.le_refl _, l76, y68.2.rest, y68.2.bad, v77, y68_1v0, J80, H, (Nat.le_of_succ_le hq25), ⟨rfl, rfl, rfl, trivial⟩, hL13, (S.sel 6 [3, 4, 5, 1] rfl), h79, y68_1h0⟩
  · rintro σ w ⟨l18, l21, b24, v19, v22, J17, ho, hσ, hL13, S, h20, h23⟩
    subst ho
    have H := HO15
    try dsimp only at H
    have hI := hI.trans hL13
    have hG := hG.mono hL13
    rw [hσ.eq]
    refine FW.seq ?_
    refine FW.region ?_
    refine U rfl rfl (V (x_ldA tag48 rfl (S.loadW 1 rfl) rfl) ?_)
    refine U rfl rfl (o_stA tag48 S 2 rfl rfl rfl rfl (c1 rfl (c1 h20.one (c1 rfl (c1 rfl c0)))) rfl fun w S => ?_)
    refine FW.ret ?_
    obtain rfl := Option.some.inj H
    exact ⟨_, ⟨_, _, _, rfl, rfl, ldA tag48 (S.loadW 2 rfl) rfl, rfl⟩, ⟨v19, (.slice none 0 0), v22, J17, hI, rfl, h20, (SlR.nil _ _), h23, (S.sel 4 [3] rfl)⟩⟩
theorem regex_reader_row.zero : regex_reader_row.C 0 := by
  intro _ _ _ _ _ _ _ _ _ _ H; cases H
theorem regex_reader_atom.step (k : Nat) (ih_regex_reader_choices : ∀ m, m ≤ k → regex_reader_choices.C m) : regex_reader_atom.C (k + 1) := by
  intro x0 x1 x0v0 bx0 F I w r hG S x0h0 H
  have hI := IMem.le.refl I
  rw [regex_reader_atom.f] at H
  refine Calls.ofFW (args := [.pointer (some ⟨bx0, 0, none⟩), .agg #[.int .i32 x1.c, .int .u32 x1.n, .bool x1.digits]]) Tryd.func44 rfl rfl ?_
  refine FW.seq ?_
  refine FW.region ?_
  refine U rfl rfl (o_boxA rfl S fun b1 w S => ?_)
  refine U rfl rfl (o_all tz48 S fun b2 w S => ?_)
  refine FW.seq ?_
  refine FW.block ?_
  refine FW.seq ?_
  refine FW.region ?_
  refine U rfl rfl (V (x_fa tf51_2 rfl) ?_)
  refine U rfl rfl (V (x_ld tsc4 rfl (S.load 1 rfl 2 rfl)) ?_)
  refine U rfl rfl (V (x_asgV (v := .bool x1.digits) rfl) ?_)
  by_cases cc3 : x1.digits = true
  · rw [if_pos cc3] at H
    refine FW.condT rfl cc3 ?_
    refine FW.seq ?_
    refine FW.region ?_
    refine U rfl rfl (V (x_fa tf51_1 rfl) ?_)
    refine U rfl rfl (V (x_ld tsc38 rfl (S.load 1 rfl 1 rfl)) ?_)
    refine U rfl rfl (V (x_fa tf51_1 rfl) ?_)
    refine U rfl rfl (V (x_ld tsc38 rfl (S.load 1 rfl 1 rfl)) ?_)
    refine U rfl rfl (V (x_bld tz80 tpl80 rfl (.one rfl (.one rfl PC.nil)) rfl) ?_)
    refine U rfl rfl (o_bsl tsl46 tz80 rfl rfl rfl rfl (.agg PC.nil) rfl S fun b4 w S => ?_)
    obtain ⟨J5, hJ7, S, h6⟩ := S.freeze (r := R_regex_span) (l := [(T_regex_span.mk x1.n x1.n)]) 0 rfl ⟨[.int .u32 x1.n, .int .u32 x1.n], _, rfl, rfl, rfl⟩ rfl rfl
    have x0h0 := x0h0.mono hJ7
    have hI := hI.trans hJ7
    have hG := hG.mono hJ7
    refine U rfl rfl (V (x_bld tz48 tpl48 rfl (.one rfl (.one h6.one PC.nil)) rfl) ?_)
    refine U rfl rfl (o_stA tag48 S 1 rfl rfl rfl rfl (c1 rfl (c1 rfl (c1 h6.one (c1 rfl c0)))) rfl fun w S => ?_)
    refine FW.ret ?_
    obtain rfl := Option.some.inj H
    exact ⟨_, ⟨_, _, _, rfl, rfl, ldA tag48 (S.loadW 1 rfl) rfl, rfl⟩, ⟨(.slice none 0 0), (.slice (some ⟨b4, 0, none⟩) 1 1), x0v0, J5, hI, rfl, (SlR.nil _ _), h6, x0h0, (S.sel 4 [3] rfl)⟩⟩
  · rw [if_neg cc3] at H
    refine FW.condF rfl (vaF cc3) ?_
    refine FW.seq ?_
    refine FW.region ?_
    refine U rfl rfl (V (x_fa tf51_0 rfl) ?_)
    refine U rfl rfl (V (x_ld tsc21 rfl (S.load 1 rfl 0 rfl)) ?_)
    refine U rfl rfl (V (x_bin rfl rfl rfl) ?_)
    refine U rfl rfl (V (x_asgV (v := .bool (x1.c == 46)) rfl) ?_)
    by_cases cc8 : x1.c = 46
    · rw [if_pos cc8] at H
      refine FW.condT rfl (eqT cc8) ?_
      refine FW.seq ?_
      refine FW.anew [(4, .pointer (some ⟨b2, 0, none⟩))] ⟨rfl, trivial⟩ fun σ => ?_
      refine FW.region ?_
      refine U rfl rfl (V (x_bld tz48 tpl48 rfl (.one rfl PC.nil) rfl) ?_)
      refine U rfl rfl (o_stA tag48 S 0 rfl rfl rfl rfl (c1 rfl (c1 rfl (c1 rfl (c1 rfl c0)))) rfl fun w S => ?_)
      refine FW.ret ?_
      obtain rfl := Option.some.inj H
      exact ⟨_, ⟨_, _, _, rfl, rfl, ldA tag48 (S.loadW 0 rfl) rfl, rfl⟩, ⟨(.slice none 0 0), (.slice none 0 0), x0v0, I, hI, rfl, (SlR.nil _ _), (SlR.nil _ _), x0h0, (S.sel 3 [2] rfl)⟩⟩
    · rw [if_neg cc8] at H
      refine FW.condF rfl (eqF cc8) ?_
      refine FW.seq ?_
      refine FW.anew [(0, .pointer (some ⟨bx0, 0, none⟩)), (3, .pointer (some ⟨b1, 0, none⟩)), (4, .pointer (some ⟨b2, 0, none⟩))] ⟨rfl, rfl, rfl, trivial⟩ fun σ => ?_
      refine FW.region ?_
      refine U rfl rfl (V (x_fa tf51_0 rfl) ?_)
      refine U rfl rfl (V (x_ld tsc21 rfl (S.load 1 rfl 0 rfl)) ?_)
      refine U rfl rfl (V (x_bin rfl rfl rfl) ?_)
      refine U rfl rfl (V (x_asgV (v := .bool (x1.c == 94)) rfl) ?_)
      by_cases cc9 : x1.c = 94
      · rw [if_pos cc9] at H
        refine FW.condT rfl (eqT cc9) ?_
        refine FW.seq ?_
        refine FW.region ?_
        refine U rfl rfl (V (x_bld tz48 tpl48 rfl (.one rfl PC.nil) rfl) ?_)
        refine U rfl rfl (o_stA tag48 S 0 rfl rfl rfl rfl (c1 rfl (c1 rfl (c1 rfl (c1 rfl c0)))) rfl fun w S => ?_)
        refine FW.ret ?_
        obtain rfl := Option.some.inj H
        exact ⟨_, ⟨_, _, _, rfl, rfl, ldA tag48 (S.loadW 0 rfl) rfl, rfl⟩, ⟨(.slice none 0 0), (.slice none 0 0), x0v0, I, hI, rfl, (SlR.nil _ _), (SlR.nil _ _), x0h0, (S.sel 3 [2] rfl)⟩⟩
      · rw [if_neg cc9] at H
        refine FW.condF rfl (eqF cc9) ?_
        refine FW.seq ?_
        refine FW.region ?_
        refine U rfl rfl (V (x_fa tf51_0 rfl) ?_)
        refine U rfl rfl (V (x_ld tsc21 rfl (S.load 1 rfl 0 rfl)) ?_)
        refine U rfl rfl (V (x_bin rfl rfl rfl) ?_)
        refine U rfl rfl (V (x_asgV (v := .bool (x1.c == 36)) rfl) ?_)
        by_cases cc10 : x1.c = 36
        · rw [if_pos cc10] at H
          refine FW.condT rfl (eqT cc10) ?_
          refine FW.seq ?_
          refine FW.anew [(4, .pointer (some ⟨b2, 0, none⟩))] ⟨rfl, trivial⟩ fun σ => ?_
          refine FW.region ?_
          refine U rfl rfl (V (x_bld tz48 tpl48 rfl (.one rfl PC.nil) rfl) ?_)
          refine U rfl rfl (o_stA tag48 S 0 rfl rfl rfl rfl (c1 rfl (c1 rfl (c1 rfl (c1 rfl c0)))) rfl fun w S => ?_)
          refine FW.ret ?_
          obtain rfl := Option.some.inj H
          exact ⟨_, ⟨_, _, _, rfl, rfl, ldA tag48 (S.loadW 0 rfl) rfl, rfl⟩, ⟨(.slice none 0 0), (.slice none 0 0), x0v0, I, hI, rfl, (SlR.nil _ _), (SlR.nil _ _), x0h0, (S.sel 3 [2] rfl)⟩⟩
        · rw [if_neg cc10] at H
          refine FW.condF rfl (eqF cc10) ?_
          refine FW.seq ?_
          refine FW.anew [(0, .pointer (some ⟨bx0, 0, none⟩)), (3, .pointer (some ⟨b1, 0, none⟩)), (4, .pointer (some ⟨b2, 0, none⟩))] ⟨rfl, rfl, rfl, trivial⟩ fun σ => ?_
          refine FW.region ?_
          refine U rfl rfl (V (x_fa tf51_0 rfl) ?_)
          refine U rfl rfl (V (x_ld tsc21 rfl (S.load 1 rfl 0 rfl)) ?_)
          refine U rfl rfl (V (x_bin rfl rfl rfl) ?_)
          refine U rfl rfl (V (x_asgV (v := .bool (x1.c == 91)) rfl) ?_)
          by_cases cc11 : x1.c = 91
          · rw [if_pos cc11] at H
            refine FW.condT rfl (eqT cc11) ?_
            refine FW.seq ?_
            refine FW.region ?_
            refine U rfl rfl (V (x_movV (v := .pointer (some ⟨bx0, 0, none⟩)) rfl) ?_)
            obtain ⟨y12, hy13, H⟩ := obx H
            refine U rfl rfl (cl fb50 (@regex_reader_set.ok k x0 _ _ _ _ _ _ hG (S.sel 3 [2, 0, 1] rfl) x0h0 hy13) rfl ?_)
            rintro _ w ⟨y12_0v1, y12_0v2, y12_1v0, J14, hJ15, rfl, y12_0h1, y12_0h2, y12_1h0, S⟩
            have hI := hI.trans hJ15
            have hG := hG.mono hJ15
            refine U rfl rfl (o_stA tag48 S 1 rfl rfl rfl rfl (c1 rfl (c1 y12_0h1.one (c1 y12_0h2.one (c1 rfl c0)))) rfl fun w S => ?_)
            refine FW.ret ?_
            obtain rfl := Option.some.inj H
            exact ⟨_, ⟨_, _, _, rfl, rfl, ldA tag48 (S.loadW 1 rfl) rfl, rfl⟩, ⟨y12_0v1, y12_0v2, y12_1v0, J14, hI, rfl, y12_0h1, y12_0h2, y12_1h0, (S.sel 3 [0] rfl)⟩⟩
          · rw [if_neg cc11] at H
            refine FW.condF rfl (eqF cc11) ?_
            refine FW.seq ?_
            refine FW.region ?_
            refine U rfl rfl (V (x_fa tf51_0 rfl) ?_)
            refine U rfl rfl (V (x_ld tsc21 rfl (S.load 1 rfl 0 rfl)) ?_)
            refine U rfl rfl (V (x_bin rfl rfl rfl) ?_)
            refine U rfl rfl (V (x_asgV (v := .bool (x1.c == 40)) rfl) ?_)
            by_cases cc16 : x1.c = 40
            · rw [if_pos cc16] at H
              refine FW.condT rfl (eqT cc16) ?_
              refine FW.seq ?_
              refine FW.anew [(0, .pointer (some ⟨bx0, 0, none⟩)), (4, .pointer (some ⟨b2, 0, none⟩))] ⟨rfl, rfl, trivial⟩ fun σ => ?_
              refine FW.region ?_
              refine U rfl rfl (V (x_movV (v := .pointer (some ⟨bx0, 0, none⟩)) rfl) ?_)
              obtain ⟨y17, hy18, H⟩ := obx H
              refine U rfl rfl (cl fb17 (@ih_regex_reader_choices k (by omega) x0 _ _ _ _ _ _ hG (S.sel 3 [2, 0, 1] rfl) x0h0 hy18) rfl ?_)
              rintro _ w ⟨y17_0v1, y17_0v2, y17_1v0, J19, hJ20, rfl, y17_0h1, y17_0h2, y17_1h0, S⟩
              have hI := hI.trans hJ20
              have hG := hG.mono hJ20
              refine U rfl rfl (o_all tz48 S fun b21 w S => ?_)
              refine U rfl rfl (o_stA tag48 S 0 rfl rfl rfl rfl (c1 rfl (c1 y17_0h1.one (c1 y17_0h2.one (c1 rfl c0)))) rfl fun w S => ?_)
              refine FW.seq ?_
              refine FW.region ?_
              refine U rfl rfl (V (x_movV (v := .pointer (some ⟨bx0, 0, none⟩)) rfl) ?_)
              refine U rfl rfl (V (x_movV (v := .pointer (some ⟨bx0, 0, none⟩)) rfl) ?_)
              refine U rfl rfl (V (x_nk rfl) ?_)
              refine U rfl rfl (V (x_fa tf44_1 rfl) ?_)
              refine U rfl rfl (V (x_ld tsc4 rfl (S.load 1 rfl 1 rfl)) ?_)
              refine U rfl rfl (V (x_movV (v := .bool y17.2.bad) rfl) ?_)
              by_cases cc22 : y17.2.bad = true
              · rw [if_pos cc22] at H
                refine OK.gf rfl rfl rfl cc22 ?_
                refine OK.gf rfl rfl rfl cc22 ?_
                refine OK.gf rfl rfl rfl cc22 ?_
                refine OK.gf rfl rfl rfl cc22 ?_
                refine U rfl rfl (V (x_pickTV (v := .bool true) rfl cc22 rfl) ?_)
                refine U rfl rfl (V (x_nk rfl) ?_)
                refine U rfl rfl (V (x_fa tf44_1 rfl) ?_)
                refine U rfl rfl (o_st tone4 S 1 rfl rfl rfl rfl fun w S => ?_)
                refine FW.seq ?_
                refine FW.anew [(4, .pointer (some ⟨b2, 0, none⟩)), (5, .pointer (some ⟨b21, 0, none⟩))] ⟨rfl, rfl, trivial⟩ fun σ => ?_
                refine FW.region ?_
                refine U rfl rfl (V (x_ldA tag48 rfl (S.loadW 0 rfl) rfl) ?_)
                refine U rfl rfl (o_stA tag48 S 2 rfl rfl rfl rfl (c1 rfl (c1 y17_0h1.one (c1 y17_0h2.one (c1 rfl c0)))) rfl fun w S => ?_)
                refine FW.ret ?_
                obtain rfl := Option.some.inj H
                exact ⟨_, ⟨_, _, _, rfl, rfl, ldA tag48 (S.loadW 2 rfl) rfl, rfl⟩, ⟨y17_0v1, y17_0v2, y17_1v0, J19, hI, rfl, y17_0h1, y17_0h2, y17_1h0, (S.sel 4 [1] rfl)⟩⟩
              · rw [if_neg cc22] at H
                refine OK.gt rfl rfl rfl (vaF cc22) (V (x_movV (v := .pointer (some ⟨bx0, 0, none⟩)) rfl) ?_)
                obtain ⟨y23, hy24, H⟩ := obx H
                refine OK.gt rfl rfl rfl (vaF cc22) (cl fb29 (@regex_reader_next.ok k y17.2 _ _ _ _ _ _ hG (S.sel 4 [1, 0, 2, 3] rfl) y17_1h0 hy24) rfl ?_)
                rintro _ w ⟨y23_1v0, J25, hJ26, rfl, y23_1h0, S⟩
                have y17_0h1 := y17_0h1.mono hJ26
                have y17_0h2 := y17_0h2.mono hJ26
                have hI := hI.trans hJ26
                have hG := hG.mono hJ26
                refine OK.gt rfl rfl rfl (vaF cc22) (V (x_fld tf51_0 tsc21 rfl rfl) ?_)
                refine OK.gt rfl rfl rfl (vaF cc22) (V (x_bin rfl rfl rfl) ?_)
                refine U rfl rfl (V (x_pickFV (v := .bool (y23.1.c != 41)) rfl (vaF cc22) rfl) ?_)
                refine U rfl rfl (V (x_nk rfl) ?_)
                refine U rfl rfl (V (x_fa tf44_1 rfl) ?_)
                refine U rfl rfl (o_st tone4 S 0 rfl rfl rfl rfl fun w S => ?_)
                refine FW.seq ?_
                refine FW.anew [(4, .pointer (some ⟨b2, 0, none⟩)), (5, .pointer (some ⟨b21, 0, none⟩))] ⟨rfl, rfl, trivial⟩ fun σ => ?_
                refine FW.region ?_
                refine U rfl rfl (V (x_ldA tag48 rfl (S.loadW 1 rfl) rfl) ?_)
                refine U rfl rfl (o_stA tag48 S 2 rfl rfl rfl rfl (c1 rfl (c1 y17_0h1.one (c1 y17_0h2.one (c1 rfl c0)))) rfl fun w S => ?_)
                refine FW.ret ?_
                obtain rfl := Option.some.inj H
                exact ⟨_, ⟨_, _, _, rfl, rfl, ldA tag48 (S.loadW 2 rfl) rfl, rfl⟩, ⟨y17_0v1, y17_0v2, y23_1v0, J25, hI, rfl, y17_0h1, y17_0h2, y23_1h0, (S.sel 4 [0] rfl)⟩⟩
            · rw [if_neg cc16] at H
              refine FW.condF rfl (eqF cc16) ?_
              refine FW.skip ?_
              refine FW.seq ?_
              refine FW.anew [(0, .pointer (some ⟨bx0, 0, none⟩)), (4, .pointer (some ⟨b2, 0, none⟩))] ⟨rfl, rfl, trivial⟩ fun σ => ?_
              refine FW.region ?_
              refine U rfl rfl (V (x_movV (v := .pointer (some ⟨bx0, 0, none⟩)) rfl) ?_)
              refine U rfl rfl (V (x_nk rfl) ?_)
              refine U rfl rfl (V (x_fa tf44_1 rfl) ?_)
              refine U rfl rfl (o_st tone4 S 2 rfl rfl rfl rfl fun w S => ?_)
              refine FW.seq ?_
              refine FW.region ?_
              refine U rfl rfl (V (x_bld tz48 tpl48 rfl PC.nil rfl) ?_)
              refine U rfl rfl (o_stA tag48 S 0 rfl rfl rfl rfl (c1 rfl (c1 rfl (c1 rfl (c1 rfl c0)))) rfl fun w S => ?_)
              refine FW.ret ?_
              obtain rfl := Option.some.inj H
              exact ⟨_, ⟨_, _, _, rfl, rfl, ldA tag48 (S.loadW 0 rfl) rfl, rfl⟩, ⟨(.slice none 0 0), (.slice none 0 0), x0v0, I, hI, rfl, (SlR.nil _ _), (SlR.nil _ _), x0h0, (S.sel 3 [2] rfl)⟩⟩
theorem regex_reader_atom.zero : regex_reader_atom.C 0 := by
  intro _ _ _ _ _ _ _ _ _ _ _ H; cases H
theorem regex_reader_choices.grp : ∀ k m, m ≤ k → regex_reader_choices.C m ∧ regex_reader_row.C m ∧ regex_reader_atom.C m
  | 0, m, h => by
    obtain rfl : m = 0 := by omega
    exact ⟨regex_reader_choices.zero, regex_reader_row.zero, regex_reader_atom.zero⟩
  | k + 1, 0, _ => ⟨regex_reader_choices.zero, regex_reader_row.zero, regex_reader_atom.zero⟩
  | k + 1, m + 1, h => ⟨regex_reader_choices.step m (fun i hi => (regex_reader_choices.grp k i (by omega)).2.1), regex_reader_row.step m (fun i hi => (regex_reader_choices.grp k i (by omega)).2.2), regex_reader_atom.step m (fun i hi => (regex_reader_choices.grp k i (by omega)).1)⟩
theorem regex_reader_choices.ok (k : Nat) : regex_reader_choices.C k := (regex_reader_choices.grp k k (Nat.le_refl k)).1
theorem regex_reader_row.ok (k : Nat) : regex_reader_row.C k := (regex_reader_choices.grp k k (Nat.le_refl k)).2.1
theorem regex_reader_atom.ok (k : Nat) : regex_reader_atom.C k := (regex_reader_choices.grp k k (Nat.le_refl k)).2.2

def regex_Expr_put.f (k : Nat) (x0 : T_regex_Expr) (x1 : T_regex_step) : Option (Int × T_regex_Expr) := ((app 56 x0.prog [x1]).bind fun l7 => (some ((i64 ((l7.length : Int) - 1)), (T_regex_Expr.mk x0.top l7))))
abbrev regex_Expr_put.C (k : Nat) : Prop := ∀ {x0 : T_regex_Expr} {x1 : T_regex_step} {x0v1 : Value} {x0v2 : Value} {x0v4 : Value} {cx0_4 : List Value} {x1v1 : Value} {bx0 : Nat} {F : List It} {I : IMem} {w : World} {r : Int × T_regex_Expr}, Glob I → Own I w (.bk bx0 55 [.int .i64 x0.top.kind, x0v1, x0v2, .bool x0.top.not, x0v4] :: .av x0v4 59 6 cx0_4 :: F) → SlR R_regex_piece I x0v1 x0.top.parts → SlR R_regex_span I x0v2 x0.top.spans → Flat R_regex_step I cx0_4 x0.prog → SlR R_regex_span I x1v1 x1.spans → regex_Expr_put.f k x0 x1 = some r →
    Calls Tryd.prog 31 #[.pointer (some ⟨bx0, 0, none⟩), .agg #[.int .i64 x1.op, x1v1, .bool x1.all, .bool x1.not, .int .i64 x1.to_.1, .int .i64 x1.to_.2]] w fun e w' => ∃ v, e = .returned v ∧ ∃ (y_1v1 : Value) (y_1v2 : Value) (y_1v4 : Value) (cy_1_4 : List Value) (J : IMem), I.le J ∧ v = .int .i64 r.1 ∧ SlR R_regex_piece J y_1v1 r.2.top.parts ∧ SlR R_regex_span J y_1v2 r.2.top.spans ∧ Flat R_regex_step J cy_1_4 r.2.prog ∧ Own J w' (.bk bx0 55 [.int .i64 r.2.top.kind, y_1v1, y_1v2, .bool r.2.top.not, y_1v4] :: .av y_1v4 59 6 cy_1_4 :: F)
theorem regex_Expr_put.ok (k : Nat) : regex_Expr_put.C k := by
  intro x0 x1 x0v1 x0v2 x0v4 cx0_4 x1v1 bx0 F I w r hG S x0h1 x0h2 x0h4 x1h1 H
  have hI := IMem.le.refl I
  rw [regex_Expr_put.f] at H
  refine Calls.ofFW (args := [.pointer (some ⟨bx0, 0, none⟩), .agg #[.int .i64 x1.op, x1v1, .bool x1.all, .bool x1.not, .int .i64 x1.to_.1, .int .i64 x1.to_.2]]) Tryd.func31 rfl rfl ?_
  refine FW.seq ?_
  refine FW.region ?_
  refine U rfl rfl (o_boxA rfl S fun b1 w S => ?_)
  refine U rfl rfl (V (x_asgV (v := .int .i64 0) rfl) ?_)
  refine FW.seq ?_
  have S := S.drew
  refine FW.regionD mixed ?_
  have hO := Hold.nil (w := { w with drawn := w.drawn + 1 })
  refine AQ.pure 0 rfl (by kernel_rfl) (by kernel_rfl) (by kernel_rfl) rfl hO (fun w => x_movV (v := .pointer (some ⟨bx0, 0, none⟩)) rfl) ?_
  refine AQ.pure 1 rfl (by kernel_rfl) (by kernel_rfl) (by kernel_rfl) rfl hO (fun w => x_movV (v := .pointer (some ⟨bx0, 0, none⟩)) rfl) ?_
  refine AQ.pure 2 rfl (by kernel_rfl) (by kernel_rfl) (by kernel_rfl) rfl hO (fun w => x_nk rfl) ?_
  refine AQ.pure 3 rfl (by kernel_rfl) (by kernel_rfl) (by kernel_rfl) rfl hO (fun w => x_fa tf55_1 rfl) ?_
  have hR2 := IMem.le.refl I
  refine AQ.take (S := Stab I [.bk bx0 55 [.int .i64 x0.top.kind, x0v1, x0v2, .bool x0.top.not, x0v4]]) 4 rfl (by kernel_rfl) (by kernel_rfl) (by kernel_rfl) rfl hO (Stab.of S 1 rfl hR2) (fun w hS => x_ld tsc53 rfl (hS.load 0 rfl 4 rfl)) fun hO => ?_
  refine AQ.take (S := Stab I [.bk b1 59 [.int .i64 x1.op, x1v1, .bool x1.all, .bool x1.not, .int .i64 x1.to_.1, .int .i64 x1.to_.2]]) 5 rfl (by kernel_rfl) (by kernel_rfl) (by kernel_rfl) rfl hO (Stab.of S 0 rfl hR2) (fun w hS => x_ldA tag59 rfl (hS.loadW 0 rfl) rfl) fun hO => ?_
  refine AQ.one 6 [5, 4] [false, true] (by kernel_rfl) rfl (by kernel_rfl) ?_
  refine U rfl rfl (o_bsl tsl53 tz59 rfl rfl rfl rfl (.agg PC.nil) rfl S fun b3 w S => ?_)
  obtain ⟨J4, hJ6, S, h5⟩ := S.freeze (r := R_regex_step) (l := [x1]) 0 rfl ⟨[.int .i64 x1.op, x1v1, .bool x1.all, .bool x1.not, .int .i64 x1.to_.1, .int .i64 x1.to_.2], _, rfl, ⟨x1v1, rfl, x1h1⟩, rfl⟩ rfl rfl
  have x1h1 := x1h1.mono hJ6
  have x0h1 := x0h1.mono hJ6
  have x0h2 := x0h2.mono hJ6
  have x0h4 := x0h4.mono hJ6
  have hI := hI.trans hJ6
  have hR2 := hR2.trans hJ6
  have hG := hG.mono hJ6
  refine andI (Hold.cons (Stab.of S 2 rfl hR2) Hold.nil) fun hO => ?_
  refine AQ.one 7 [4] [false] (by kernel_rfl) rfl (by kernel_rfl) ?_
  obtain ⟨l7, h9, H⟩ := obx H
  refine U rfl rfl (o_appV (r := R_regex_step) tsl53 rfl tz59 rfl rfl S 3 rfl rfl x0h4 h5 h9 fun v8 w a11 S h10 => ?_)
  refine andI Hold.nil fun hO => ?_
  refine AQ.pure 8 rfl (by kernel_rfl) (by kernel_rfl) (by kernel_rfl) rfl hO (fun w => x_nk rfl) ?_
  refine AQ.pure 9 rfl (by kernel_rfl) (by kernel_rfl) (by kernel_rfl) rfl hO (fun w => x_fa tf55_1 rfl) ?_
  refine AQ.one 10 [] [] (by kernel_rfl) rfl (by kernel_rfl) ?_
  refine U rfl rfl (o_st tone53 S 2 rfl rfl rfl (av_one S 3 rfl) fun w S => ?_)
  refine andI Hold.nil fun hO => ?_
  refine AQ.done (by kernel_rfl) ?_
  refine FW.seq ?_
  refine FW.anew [(0, .pointer (some ⟨bx0, 0, none⟩))] ⟨rfl, trivial⟩ fun σ => ?_
  refine FW.region ?_
  refine U rfl rfl (V (x_movV (v := .pointer (some ⟨bx0, 0, none⟩)) rfl) ?_)
  refine U rfl rfl (V (x_nk rfl) ?_)
  refine U rfl rfl (V (x_fa tf55_1 rfl) ?_)
  refine U rfl rfl (V (x_ld tsc53 rfl (S.load 2 rfl 4 rfl)) ?_)
  refine U rfl rfl (V (x_lenV (r := R_regex_step) tsl53 rfl rfl S 3 rfl h10) ?_)
  refine U rfl rfl (V (x_bin rfl rfl rfl) ?_)
  refine U rfl rfl (V (x_asgV (v := .int .i64 (i64 ((l7.length : Int) - 1))) rfl) ?_)
  refine FW.ret ?_
  obtain rfl := Option.some.inj H
  exact ⟨_, ⟨_, rfl, rfl⟩, ⟨x0v1, x0v2, v8, a11, J4, hI, rfl, x0h1, x0h2, h10, (S.sel 4 [2, 3] rfl)⟩⟩
end Go.Proofs.YtkkflfmonidepaaDoor
