/-
  Parts of the proof, merged: Law0, F1, F2.
-/
import Derived.Test.YtkkflfmonidepaaDoorRows
import Derived.Test.YtkkflfmonidepaaDoorW7
namespace Go.Proofs.YtkkflfmonidepaaDoor
open Sp Go.ChangeShapes Go.WideShapes Go.ChangeAt Go.WideMaps Go.WideElems Go.RowKit
set_option maxRecDepth 100000
theorem rowOwn : ownKnob Tryd.prog.godebug = none := by kernel_rfl
theorem rowLaidOut : laidOutB Tryd.prog = true := by kernel_rfl
theorem doorMet (os : Os) (args : Array Value) : laidMetH Tryd.prog [("speculum/octet.digits", Rows.laid_speculum_octet_digits)] ((World.doorLaid Tryd.prog 400 os).forCall (fun _ _ => 0) ⟨#[], args, []⟩).memory :=
  laidMetH_of_parts3 (fuel := 8) (laidMet_of_run' 8 (by kernel_rfl) (by kernel_rfl)) (by kernel_rfl) (by kernel_rfl)
theorem gDigits : Tryd.prog.globalNamed "speculum/octet.digits" = some 0 := by kernel_rfl
theorem tDigits : (Tryd.prog.globals[0]?).map (·.type) = some 101 := by kernel_rfl
theorem globOf {W : World} (h : laidMetH Tryd.prog [("speculum/octet.digits", Rows.laid_speculum_octet_digits)] W) : Glob (I0 W) := by
  rw [MakeChecks.laidMetH_plain _ _ _ (by kernel_rfl)] at h
  obtain ⟨ps, ⟨g0, t0, cs0, f0, p0, q0, hg0, ht0, hv0, hd0, _, _⟩, _, _⟩ := h
  obtain rfl := Option.some.inj (gDigits.symm.trans hg0)
  obtain rfl := Option.some.inj (tDigits.symm.trans ht0)
  have hc := cells_ints (l := digs) (k := .u8) Tryd.underlying101 Tryd.underlying5 (by kernel_rfl) (by kernel_rfl) hd0
  refine ⟨fun q u hq => ?_⟩
  have h1 := World.var?_cell hg0 hv0 q
  rw [← hc] at hq
  show W.cell? ⟨0, 0 + q, none⟩ = some u
  rw [Nat.zero_add, h1, ← hq]
  simp
end Go.Proofs.YtkkflfmonidepaaDoor
namespace Go.Proofs.YtkkflfmonidepaaDoor
open Sp
set_option maxRecDepth 100000
set_option maxHeartbeats 4000000
def octet_value.l0 : Nat → Int → Int → Option (Sum Int Unit)
  | 0, _, _ => none
  | k + 1, x0, n2 => (if n2 < 16 then ((lat digs n2).bind fun y11 => (if x0 = y11 then (some (.inl (u8 n2))) else (octet_value.l0 k x0 (i64 (n2 + 1))))) else (some (.inr ())))
def octet_value.f (k : Nat) (x0 : Int) : Option Int := (((octet_value.l0 k x0 0) : Option (Sum Int Unit)).bind fun o => match o with | .inl r => some r | .inr _ => (some 16))
abbrev octet_value.C (k : Nat) : Prop := ∀ {x0 : Int} {F : List It} {I : IMem} {w : World} {r : Int}, Glob I → Own I w (F) → octet_value.f k x0 = some r →
    Calls Tryd.prog 41 #[.int .u8 x0] w fun e w' => ∃ v, e = .returned v ∧ v = .int .u8 r ∧ Own I w' (F)
theorem octet_value.ok (k : Nat) : octet_value.C k := by
  intro x0 F I w r hG S H
  have hI := IMem.le.refl I
  rw [octet_value.f] at H
  refine Calls.ofFW (args := [.int .u8 x0]) Tryd.func41 rfl rfl ?_
  refine FW.seq ?_
  refine FW.region ?_
  refine U rfl rfl (V (x_asgV (v := .int .u8 0) rfl) ?_)
  refine FW.seq ?_
  refine FW.seq ?_
  refine FW.region ?_
  refine U rfl rfl (V (x_ldA tag101 rfl (S.loadI hG.g0) rfl) ?_)
  refine U rfl rfl (V (x_movV (v := .int .i64 0) rfl) ?_)
  refine FW.block ?_
  obtain ⟨o5, hl7, HO6⟩ := obx H
  refine FW.cutX 0 (fun σ w => ∃ (J8 : IMem), (.inr ()) = o5 ∧ Has σ [] ∧ I.le J8 ∧ Own J8 w (F)) ?_ ?_
  ·
    refine FW.loop k (FL.ind (fun q σ w => ∃ (n2 : Int) (J1 : IMem), octet_value.l0 q x0 n2 = some o5 ∧ q ≤ k ∧ Has σ [(0, .int .u8 x0), (5, .agg (digs.map (Value.int .u8)).toArray), (6, .int .i64 n2)] ∧ I.le J1 ∧ Own J1 w (F)) ?_ ?_ k k _ _ (Nat.le_refl _) ⟨0, I, hl7, Nat.le_refl _, ⟨rfl, rfl, rfl, trivial⟩, (IMem.le.refl _), S⟩)
    · rintro σ w ⟨n2, J1, H, _⟩; cases H
    · rintro q3 σ w ⟨n2, J1, H, hq9, hσ, hL4, S⟩
      have hI := hI.trans hL4
      have hG := hG.mono hL4
      rw [hσ.eq]
      rw [octet_value.l0] at H
      refine FW.seq ?_
      refine FW.region ?_
      refine U rfl rfl (V (x_bin rfl rfl rfl) ?_)
      refine FW.seq ?_
      by_cases cc10 : n2 < 16
      · rw [if_pos cc10] at H
        refine FW.condT rfl (deT cc10) ?_
        refine FW.skip ?_
        refine FW.seq ?_
        refine FW.block ?_
        refine FW.seq ?_
        refine FW.region ?_
        refine U rfl rfl (V (x_movV (v := .int .i64 n2) rfl) ?_)
        obtain ⟨y11, h12, H⟩ := obx H
        refine U rfl rfl (V (x_idxG tar101 tsc5 rfl rfl rfl rfl h12) ?_)
        refine U rfl rfl (V (x_asgV (v := .int .i64 n2) rfl) ?_)
        refine U rfl rfl (V (x_asgV (v := .int .u8 y11) rfl) ?_)
        refine FW.seq ?_
        refine FW.region ?_
        refine U rfl rfl (V (x_movV (v := .int .u8 x0) rfl) ?_)
        refine U rfl rfl (V (x_movV (v := .int .u8 y11) rfl) ?_)
        refine U rfl rfl (V (x_bin rfl rfl rfl) ?_)
        by_cases cc13 : x0 = y11
        · rw [if_pos cc13] at H
          refine FW.condT rfl (eqT cc13) ?_
          refine FW.seq ?_
          refine FW.anew [(3, .int .i64 n2)] ⟨rfl, trivial⟩ fun σ => ?_
          refine FW.region ?_
          refine U rfl rfl (V (x_movV (v := .int .i64 n2) rfl) ?_)
          refine U rfl rfl (V (x_conv tint5 tint_3 rfl) ?_)
          refine U rfl rfl (V (x_asgV (v := .int .u8 (u8 n2)) rfl) ?_)
          refine FW.ret ?_
          obtain rfl := Option.some.inj H
          obtain rfl := Option.some.inj HO6
          exact ⟨_, ⟨_, rfl, rfl⟩, ⟨rfl, (S.weaken hI)⟩⟩
        · rw [if_neg cc13] at H
          refine FW.condF rfl (eqF cc13) ?_
          refine FW.skip ?_
          refine FW.anew [(0, .int .u8 x0), (5, .agg (digs.map (Value.int .u8)).toArray), (6, .int .i64 n2)] ⟨rfl, rfl, rfl, trivial⟩ fun σ => ?_
          refine FW.region ?_
          refine U rfl rfl (V (x_bin rfl rfl rfl) ?_)
          refine U rfl rfl (V (x_movV (v := .int .i64 (i64 (n2 + 1))) rfl) ?_)
          exact ⟨q3, Nat.le_refl _, (i64 (n2 + 1)), J1, H, (Nat.le_of_succ_le hq9), ⟨rfl, rfl, rfl, trivial⟩, hL4, S⟩
      · rw [if_neg cc10] at H
        refine FW.condF rfl (deF cc10) ?_
        refine FW.exit ?_
        exact ⟨J1, (Option.some.inj H), trivial, hL4, S⟩
  · rintro σ w ⟨J8, ho, hσ, hL4, S⟩
    subst ho
    have H := HO6
    try dsimp only at H
    have hI := hI.trans hL4
    have hG := hG.mono hL4
    rw [hσ.eq]
    refine FW.seq ?_
    refine FW.region ?_
    refine U rfl rfl (V (x_asgV (v := .int .u8 16) rfl) ?_)
    refine FW.ret ?_
    obtain rfl := Option.some.inj H
    exact ⟨_, ⟨_, rfl, rfl⟩, ⟨rfl, (S.weaken hI)⟩⟩
def octet_Text.l0 : Nat → Int → Int → (List Int) → Option (Int × (List Int))
  | 0, _, _, _ => none
  | k + 1, n9, n10, l11 => ((lat digs (n9.tmod 10)).bind fun y25 => ((lat l11 (i64 (n10 - 1))).bind fun y29 => (if (u64 (n9.tdiv 10)) = 0 then (some ((i64 (n10 - 1)), (l11.set (i64 (n10 - 1)).toNat y25))) else (octet_Text.l0 k (u64 (n9.tdiv 10)) (i64 (n10 - 1)) (l11.set (i64 (n10 - 1)).toNat y25)))))
def octet_Text.f (k : Nat) (x0 : Int) : Option ByteArray := ((if x0 < 0 then (some (u64 (0 - (u64 x0)))) else (some (u64 x0))).bind fun n2 => ((octet_Text.l0 k n2 20 [0, 0, 0, 0, 0, 0, 0, 0, 0, 0, 0, 0, 0, 0, 0, 0, 0, 0, 0, 0]).bind fun (n20, l21) => (if x0 < 0 then ((cutL l21 n20).bind fun l44 => ((scat (⟨#[45]⟩) (ofB l44)).bind fun s47 => (some s47))) else ((cutL l21 n20).bind fun l53 => (some (ofB l53))))))
abbrev octet_Text.C (k : Nat) : Prop := ∀ {x0 : Int} {F : List It} {I : IMem} {w : World} {r : ByteArray}, Glob I → Own I w (F) → octet_Text.f k x0 = some r →
    Calls Tryd.prog 42 #[.int .i64 x0] w fun e w' => ∃ v, e = .returned v ∧ v = .string r ∧ Own I w' (F)
theorem octet_Text.ok (k : Nat) : octet_Text.C k := by
  intro x0 F I w r hG S H
  have hI := IMem.le.refl I
  rw [octet_Text.f] at H
  refine Calls.ofFW (args := [.int .i64 x0]) Tryd.func42 rfl rfl ?_
  refine FW.seq ?_
  refine FW.region ?_
  refine U rfl rfl (V (x_asgV (v := .string (⟨#[]⟩)) rfl) ?_)
  refine FW.seq ?_
  refine FW.region ?_
  refine U rfl rfl (V (x_movV (v := .int .i64 x0) rfl) ?_)
  refine U rfl rfl (V (x_conv tint102 tint_3 rfl) ?_)
  refine U rfl rfl (V (x_asgV (v := .int .u64 (u64 x0)) rfl) ?_)
  refine FW.seq ?_
  refine FW.seq ?_
  refine FW.region ?_
  refine U rfl rfl (V (x_movV (v := .int .i64 x0) rfl) ?_)
  refine U rfl rfl (V (x_bin rfl rfl rfl) ?_)
  obtain ⟨o3, H, HO4⟩ := obx H
  have hL5 := IMem.le.refl I
  refine FW.cutN (fun σ w => ∃ (n2 : Int) (J1 : IMem), n2 = o3 ∧ Has σ [(0, .int .i64 x0), (3, .int .u64 n2)] ∧ I.le J1 ∧ Own J1 w (F)) ?_ ?_
  ·
    by_cases cc6 : x0 < 0
    · rw [if_pos cc6] at H
      refine FW.condT rfl (deT cc6) ?_
      refine FW.region ?_
      refine U rfl rfl (V (x_movV (v := .int .u64 (u64 x0)) rfl) ?_)
      refine U rfl rfl (V (x_neg rfl) ?_)
      refine U rfl rfl (V (x_asgV (v := .int .u64 (u64 (0 - (u64 x0)))) rfl) ?_)
      exact ⟨(u64 (0 - (u64 x0))), I, (Option.some.inj H), ⟨rfl, rfl, trivial⟩, hL5, S⟩
    · rw [if_neg cc6] at H
      refine FW.condF rfl (deF cc6) ?_
      refine FW.skip ?_
      exact ⟨(u64 x0), I, (Option.some.inj H), ⟨rfl, rfl, trivial⟩, hL5, S⟩
  · rintro σ w ⟨n2, J1, ho, hσ, hL5, S⟩
    subst ho
    have H := HO4
    have hI := hI.trans hL5
    have hG := hG.mono hL5
    rw [hσ.eq]
    refine FW.seq ?_
    refine FW.region ?_
    refine U rfl rfl (V (x_bldA tar103 tz103 rfl PC.nil rfl) ?_)
    refine U rfl rfl (o_all tz103 S fun b7 w S => ?_)
    refine U rfl rfl (o_stA tag103 S 0 rfl rfl rfl rfl (c1 rfl (c1 rfl (c1 rfl (c1 rfl (c1 rfl (c1 rfl (c1 rfl (c1 rfl (c1 rfl (c1 rfl (c1 rfl (c1 rfl (c1 rfl (c1 rfl (c1 rfl (c1 rfl (c1 rfl (c1 rfl (c1 rfl (c1 rfl c0)))))))))))))))))))) rfl fun w S => ?_)
    have S := S.toAvAt 0 rfl 20 1 rfl rfl
    refine FW.seq ?_
    refine FW.region ?_
    refine U rfl rfl (V (x_asgV (v := .int .i64 20) rfl) ?_)
    refine FW.seq ?_
    refine FW.block ?_
    obtain ⟨o16, hl18, HO17⟩ := obx H
    refine FW.cutX 0 (fun σ w => ∃ (n20 : Int) (l21 : (List Int)) (a22 : List Value) (J19 : IMem), (n20, l21) = o16 ∧ Has σ [(0, .int .i64 x0), (4, .pointer (some ⟨b7, 0, none⟩)), (5, .int .i64 n20)] ∧ J1.le J19 ∧ Own J19 w (.av (.slice (some ⟨b7, 0, none⟩) 20 20) 103 1 a22 :: F) ∧ Flat (tInt' .u8) J19 a22 l21) ?_ ?_
    ·
      refine FW.loop k (FL.ind (fun q σ w => ∃ (n9 : Int) (n10 : Int) (l11 : (List Int)) (a12 : List Value) (J8 : IMem), octet_Text.l0 q n9 n10 l11 = some o16 ∧ q ≤ k ∧ Has σ [(0, .int .i64 x0), (3, .int .u64 n9), (4, .pointer (some ⟨b7, 0, none⟩)), (5, .int .i64 n10)] ∧ J1.le J8 ∧ Own J8 w (.av (.slice (some ⟨b7, 0, none⟩) 20 20) 103 1 a12 :: F) ∧ Flat (tInt' .u8) J8 a12 l11) ?_ ?_ k k _ _ (Nat.le_refl _) ⟨n2, 20, [0, 0, 0, 0, 0, 0, 0, 0, 0, 0, 0, 0, 0, 0, 0, 0, 0, 0, 0, 0], ([0, 0, 0, 0, 0, 0, 0, 0, 0, 0, 0, 0, 0, 0, 0, 0, 0, 0, 0, 0].map (Value.int .u8)), J1, hl18, Nat.le_refl _, ⟨rfl, rfl, rfl, rfl, trivial⟩, (IMem.le.refl _), S, (flatI .u8 _ [0, 0, 0, 0, 0, 0, 0, 0, 0, 0, 0, 0, 0, 0, 0, 0, 0, 0, 0, 0])⟩)
      · rintro σ w ⟨n9, n10, l11, a12, J8, H, _⟩; cases H
      · rintro q14 σ w ⟨n9, n10, l11, a12, J8, H, hq24, hσ, hL15, S, h13⟩
        have hI := hI.trans hL15
        have hG := hG.mono hL15
        rw [hσ.eq]
        rw [octet_Text.l0] at H
        refine FW.block ?_
        refine FW.seq ?_
        refine FW.region ?_
        refine U rfl rfl (V (x_movV (v := .int .i64 n10) rfl) ?_)
        refine U rfl rfl (V (x_bin rfl rfl rfl) ?_)
        refine U rfl rfl (V (x_asgV (v := .int .i64 (i64 (n10 - 1))) rfl) ?_)
        refine FW.seq ?_
        refine FW.region ?_
        refine U rfl rfl (V (x_movV (v := .int .i64 (i64 (n10 - 1))) rfl) ?_)
        refine U rfl rfl (V (x_movV (v := .int .u64 n9) rfl) ?_)
        refine U rfl rfl (V (x_rem rfl rfl (by decide)) ?_)
        obtain ⟨y25, h26, H⟩ := obx H
        refine U rfl rfl (o_iaG tar101 rfl hG.g0 rfl rfl rfl h26 fun o27 hg28 => ?_)
        refine U rfl rfl (V (x_ld tsc5 rfl (S.cell _ _ _ hg28)) ?_)
        obtain ⟨y29, h30, H⟩ := obx H
        obtain ⟨h31, h32, cc33, hr34, hc35⟩ := aa_at (r := (tInt' .u8)) S 0 rfl h13 rfl rfl h30
        refine U rfl rfl (V (x_iaA0 tar103 rfl rfl h31 h32) ?_)
        obtain rfl := hr34
        refine U rfl rfl (o_stV (r := (tInt' .u8)) (f := 0) (y' := y25) tone5 rfl S 0 rfl rfl h13 h30 rfl hc35 rfl rfl rfl rfl rfl fun w a36 S h37 => ?_)
        refine FW.seq ?_
        refine FW.anew [(0, .int .i64 x0), (3, .int .u64 n9), (4, .pointer (some ⟨b7, 0, none⟩)), (5, .int .i64 (i64 (n10 - 1)))] ⟨rfl, rfl, rfl, rfl, trivial⟩ fun σ => ?_
        refine FW.region ?_
        refine U rfl rfl (V (x_movV (v := .int .u64 n9) rfl) ?_)
        refine U rfl rfl (V (x_quo rfl rfl (by decide)) ?_)
        refine U rfl rfl (V (x_asgV (v := .int .u64 (u64 (n9.tdiv 10))) rfl) ?_)
        refine FW.seq ?_
        refine FW.region ?_
        refine U rfl rfl (V (x_movV (v := .int .u64 (u64 (n9.tdiv 10))) rfl) ?_)
        refine U rfl rfl (V (x_bin rfl rfl rfl) ?_)
        by_cases cc38 : (u64 (n9.tdiv 10)) = 0
        · rw [if_pos cc38] at H
          refine FW.condT rfl (eqT cc38) ?_
          refine FW.exit ?_
          exact ⟨(i64 (n10 - 1)), (l11.set (i64 (n10 - 1)).toNat y25), a36, J8, (Option.some.inj H), ⟨rfl, rfl, rfl, trivial⟩, hL15, S, h37⟩
        · rw [if_neg cc38] at H
          refine FW.condF rfl (eqF cc38) ?_
          refine FW.skip ?_
          exact ⟨q14, Nat.le_refl _, (u64 (n9.tdiv 10)), (i64 (n10 - 1)), (l11.set (i64 (n10 - 1)).toNat y25), a36, J8, H, (Nat.le_of_succ_le hq24), ⟨rfl, rfl, rfl, rfl, trivial⟩, hL15, S, h37⟩
    · rintro σ w ⟨n20, l21, a22, J19, ho, hσ, hL15, S, h23⟩
      subst ho
      have H := HO17
      try dsimp only at H
      have hI := hI.trans hL15
      have hG := hG.mono hL15
      rw [hσ.eq]
      refine FW.seq ?_
      refine FW.seq ?_
      refine FW.region ?_
      refine U rfl rfl (V (x_movV (v := .int .i64 x0) rfl) ?_)
      refine U rfl rfl (V (x_bin rfl rfl rfl) ?_)
      by_cases cc39 : x0 < 0
      · rw [if_pos cc39] at H
        refine FW.condT rfl (deT cc39) ?_
        refine FW.seq ?_
        refine FW.region ?_
        refine U rfl rfl (V (x_movV (v := .int .i64 n20) rfl) ?_)
        obtain ⟨J41, hJ43, S, h42⟩ := S.freeze (r := (tInt' .u8)) (l := l21) 0 rfl h23 rfl rfl
        have hI := hI.trans hJ43
        have hG := hG.mono hJ43
        obtain ⟨l44, h40, H⟩ := obx H
        refine U rfl rfl (o_cutAL (r := (tInt' .u8)) tar103 rfl h42 rfl rfl h40 fun v45 h46 => ?_)
        refine U rfl rfl (V (x_bts tbs93_9 S.cell h46) ?_)
        obtain ⟨s47, h48, H⟩ := obx H
        refine U rfl rfl (V (x_catD rfl rfl h48) ?_)
        refine U rfl rfl (V (x_asgV (v := .string s47) rfl) ?_)
        refine FW.ret ?_
        obtain rfl := Option.some.inj H
        exact ⟨_, ⟨_, rfl, rfl⟩, ⟨rfl, ((S.sel 1 [] rfl).weaken hI)⟩⟩
      · rw [if_neg cc39] at H
        refine FW.condF rfl (deF cc39) ?_
        refine FW.skip ?_
        refine FW.seq ?_
        refine FW.region ?_
        refine U rfl rfl (V (x_movV (v := .int .i64 n20) rfl) ?_)
        obtain ⟨J50, hJ52, S, h51⟩ := S.freeze (r := (tInt' .u8)) (l := l21) 0 rfl h23 rfl rfl
        have hI := hI.trans hJ52
        have hG := hG.mono hJ52
        obtain ⟨l53, h49, H⟩ := obx H
        refine U rfl rfl (o_cutAL (r := (tInt' .u8)) tar103 rfl h51 rfl rfl h49 fun v54 h55 => ?_)
        refine U rfl rfl (V (x_bts tbs93_9 S.cell h55) ?_)
        refine U rfl rfl (V (x_asgV (v := .string (ofB l53)) rfl) ?_)
        refine FW.ret ?_
        obtain rfl := Option.some.inj H
        exact ⟨_, ⟨_, rfl, rfl⟩, ⟨rfl, ((S.sel 1 [] rfl).weaken hI)⟩⟩
def octet_Int.l0 : Nat → ByteArray → Int → Int → Option (Sum (Int × Bool) Int)
  | 0, _, _, _ => none
  | k + 1, x0, n2, n3 => (if n3 < (x0.size : Int) then ((sat x0 n3).bind fun y13 => ((octet_value.f k y13).bind fun y15 => (if y15 > 9 then (some (.inl (0, false))) else (if n2 > 4294967295 then (some (.inl (0, false))) else (octet_Int.l0 k x0 (i64 ((i64 (10 * n2)) + (i64 y15))) (i64 (n3 + 1))))))) else (some (.inr n2)))
def octet_Int.f (k : Nat) (x0 : ByteArray) : Option (Int × Bool) := (((octet_Int.l0 k x0 0 0) : Option (Sum (Int × Bool) Int)).bind fun o => match o with | .inl r => some r | .inr n10 => (if x0 = (⟨#[]⟩) then (some (0, false)) else (if n10 > 4294967295 then (some (0, false)) else ((octet_Text.f k n10).bind fun y21 => (if y21 = x0 then (some (n10, true)) else (some (0, false)))))))
abbrev octet_Int.C (k : Nat) : Prop := ∀ {x0 : ByteArray} {F : List It} {I : IMem} {w : World} {r : Int × Bool}, Glob I → Own I w (F) → octet_Int.f k x0 = some r →
    Calls Tryd.prog 27 #[.string x0] w fun e w' => ∃ v, e = .returned v ∧ v = .tuple #[.int .i64 r.1, .bool r.2] ∧ Own I w' (F)
theorem octet_Int.ok (k : Nat) : octet_Int.C k := by
  intro x0 F I w r hG S H
  have hI := IMem.le.refl I
  rw [octet_Int.f] at H
  refine Calls.ofFW (args := [.string x0]) Tryd.func27 rfl rfl ?_
  refine FW.seq ?_
  refine FW.region ?_
  refine U rfl rfl (V (x_asgV (v := .int .i64 0) rfl) ?_)
  refine U rfl rfl (V (x_asgV (v := .bool false) rfl) ?_)
  refine FW.seq ?_
  refine FW.region ?_
  refine U rfl rfl (V (x_asgV (v := .int .i64 0) rfl) ?_)
  refine FW.seq ?_
  refine FW.seq ?_
  refine FW.region ?_
  refine U rfl rfl (V (x_movV (v := .string x0) rfl) ?_)
  refine U rfl rfl (V (x_lens tstr9 rfl) ?_)
  refine U rfl rfl (V (x_movV (v := .int .i64 0) rfl) ?_)
  refine FW.block ?_
  obtain ⟨o6, hl8, HO7⟩ := obx H
  refine FW.cutX 0 (fun σ w => ∃ (n10 : Int) (J9 : IMem), (.inr n10) = o6 ∧ Has σ [(0, .string x0), (4, .int .i64 n10)] ∧ I.le J9 ∧ Own J9 w (F)) ?_ ?_
  ·
    refine FW.loop k (FL.ind (fun q σ w => ∃ (n2 : Int) (n3 : Int) (J1 : IMem), octet_Int.l0 q x0 n2 n3 = some o6 ∧ q ≤ k ∧ Has σ [(0, .string x0), (4, .int .i64 n2), (8, .int .i64 (x0.size : Int)), (9, .int .i64 n3)] ∧ I.le J1 ∧ Own J1 w (F)) ?_ ?_ k k _ _ (Nat.le_refl _) ⟨0, 0, I, hl8, Nat.le_refl _, ⟨rfl, rfl, rfl, rfl, trivial⟩, (IMem.le.refl _), S⟩)
    · rintro σ w ⟨n2, n3, J1, H, _⟩; cases H
    · rintro q4 σ w ⟨n2, n3, J1, H, hq11, hσ, hL5, S⟩
      have hI := hI.trans hL5
      have hG := hG.mono hL5
      rw [hσ.eq]
      rw [octet_Int.l0] at H
      refine FW.seq ?_
      refine FW.region ?_
      refine U rfl rfl (V (x_bin rfl rfl rfl) ?_)
      refine FW.seq ?_
      by_cases cc12 : n3 < (x0.size : Int)
      · rw [if_pos cc12] at H
        refine FW.condT rfl (deT cc12) ?_
        refine FW.skip ?_
        refine FW.seq ?_
        refine FW.block ?_
        refine FW.seq ?_
        refine FW.region ?_
        refine U rfl rfl (V (x_movV (v := .int .i64 n3) rfl) ?_)
        refine U rfl rfl (V (x_asgV (v := .int .i64 n3) rfl) ?_)
        refine FW.seq ?_
        refine FW.region ?_
        refine U rfl rfl (V (x_movV (v := .string x0) rfl) ?_)
        refine U rfl rfl (V (x_movV (v := .int .i64 n3) rfl) ?_)
        obtain ⟨y13, h14, H⟩ := obx H
        refine U rfl rfl (V (x_sat tstr9 rfl rfl h14) ?_)
        obtain ⟨y15, hy16, H⟩ := obx H
        refine U rfl rfl (cl fb41 (@octet_value.ok q4 y13 _ _ _ _ hG S hy16) rfl ?_)
        rintro _ w ⟨rfl, S⟩
        refine U rfl rfl (V (x_asgV (v := .int .u8 y15) rfl) ?_)
        refine FW.seq ?_
        refine FW.seq ?_
        refine FW.anew [(0, .string x0), (4, .int .i64 n2), (6, .int .u8 y15), (8, .int .i64 (x0.size : Int)), (9, .int .i64 n3)] ⟨rfl, rfl, rfl, rfl, rfl, trivial⟩ fun σ => ?_
        refine FW.region ?_
        refine U rfl rfl (V (x_movV (v := .int .u8 y15) rfl) ?_)
        refine U rfl rfl (V (x_bin rfl rfl rfl) ?_)
        refine U rfl rfl (V (x_movV (v := .bool (decide (y15 > 9))) rfl) ?_)
        by_cases cc17 : y15 > 9
        · rw [if_pos cc17] at H
          refine OK.gf rfl rfl rfl (deT cc17) ?_
          refine OK.gf rfl rfl rfl (deT cc17) ?_
          refine U rfl rfl (V (x_pickTV (v := .bool true) rfl (deT cc17) rfl) ?_)
          refine FW.condT rfl rfl ?_
          refine FW.seq ?_
          refine FW.region ?_
          refine U rfl rfl (V (x_asgV (v := .int .i64 0) rfl) ?_)
          refine U rfl rfl (V (x_asgV (v := .bool false) rfl) ?_)
          refine FW.ret ?_
          obtain rfl := Option.some.inj H
          obtain rfl := Option.some.inj HO7
          exact ⟨_, ⟨_, rfl, ⟨_, rfl, rfl⟩⟩, ⟨rfl, (S.weaken hI)⟩⟩
        · rw [if_neg cc17] at H
          refine OK.gt rfl rfl rfl (deF cc17) (V (x_movV (v := .int .i64 n2) rfl) ?_)
          refine OK.gt rfl rfl rfl (deF cc17) (V (x_bin rfl rfl rfl) ?_)
          refine U rfl rfl (V (x_pickFV (v := .bool (decide (n2 > 4294967295))) rfl (deF cc17) rfl) ?_)
          by_cases cc18 : n2 > 4294967295
          · rw [if_pos cc18] at H
            refine FW.condT rfl (deT cc18) ?_
            refine FW.seq ?_
            refine FW.region ?_
            refine U rfl rfl (V (x_asgV (v := .int .i64 0) rfl) ?_)
            refine U rfl rfl (V (x_asgV (v := .bool false) rfl) ?_)
            refine FW.ret ?_
            obtain rfl := Option.some.inj H
            obtain rfl := Option.some.inj HO7
            exact ⟨_, ⟨_, rfl, ⟨_, rfl, rfl⟩⟩, ⟨rfl, (S.weaken hI)⟩⟩
          · rw [if_neg cc18] at H
            refine FW.condF rfl (deF cc18) ?_
            refine FW.skip ?_
            refine FW.region ?_
            refine U rfl rfl (V (x_movV (v := .int .i64 n2) rfl) ?_)
            refine U rfl rfl (V (x_bin rfl rfl rfl) ?_)
            refine U rfl rfl (V (x_movV (v := .int .u8 y15) rfl) ?_)
            refine U rfl rfl (V (x_conv tint3 tint_5 rfl) ?_)
            refine U rfl rfl (V (x_bin rfl rfl rfl) ?_)
            refine U rfl rfl (V (x_asgV (v := .int .i64 (i64 ((i64 (10 * n2)) + (i64 y15)))) rfl) ?_)
            refine FW.anew [(0, .string x0), (4, .int .i64 (i64 ((i64 (10 * n2)) + (i64 y15)))), (8, .int .i64 (x0.size : Int)), (9, .int .i64 n3)] ⟨rfl, rfl, rfl, rfl, trivial⟩ fun σ => ?_
            refine FW.region ?_
            refine U rfl rfl (V (x_bin rfl rfl rfl) ?_)
            refine U rfl rfl (V (x_movV (v := .int .i64 (i64 (n3 + 1))) rfl) ?_)
            exact ⟨q4, Nat.le_refl _, (i64 ((i64 (10 * n2)) + (i64 y15))), (i64 (n3 + 1)), J1, H, (Nat.le_of_succ_le hq11), ⟨rfl, rfl, rfl, rfl, trivial⟩, hL5, S⟩
      · rw [if_neg cc12] at H
        refine FW.condF rfl (deF cc12) ?_
        refine FW.exit ?_
        exact ⟨n2, J1, (Option.some.inj H), ⟨rfl, rfl, trivial⟩, hL5, S⟩
  · rintro σ w ⟨n10, J9, ho, hσ, hL5, S⟩
    subst ho
    have H := HO7
    try dsimp only at H
    have hI := hI.trans hL5
    have hG := hG.mono hL5
    rw [hσ.eq]
    refine FW.seq ?_
    refine FW.seq ?_
    refine FW.region ?_
    refine U rfl rfl (V (x_movV (v := .string x0) rfl) ?_)
    refine U rfl rfl (V (x_seq rfl rfl) ?_)
    refine U rfl rfl (V (x_movV (v := .bool (decide (x0 = (⟨#[]⟩)))) rfl) ?_)
    by_cases cc19 : x0 = (⟨#[]⟩)
    · rw [if_pos cc19] at H
      refine OK.gf rfl rfl rfl (deT cc19) ?_
      refine OK.gf rfl rfl rfl (deT cc19) ?_
      refine U rfl rfl (V (x_pickTV (v := .bool true) rfl (deT cc19) rfl) ?_)
      refine U rfl rfl (V (x_movV (v := .bool true) rfl) ?_)
      refine OK.gf rfl rfl rfl rfl ?_
      refine OK.gf rfl rfl rfl rfl ?_
      refine OK.gf rfl rfl rfl rfl ?_
      refine OK.gf rfl rfl rfl rfl ?_
      refine U rfl rfl (V (x_pickTV (v := .bool true) rfl rfl rfl) ?_)
      refine FW.condT rfl rfl ?_
      refine FW.seq ?_
      refine FW.region ?_
      refine U rfl rfl (V (x_asgV (v := .int .i64 0) rfl) ?_)
      refine U rfl rfl (V (x_asgV (v := .bool false) rfl) ?_)
      refine FW.ret ?_
      obtain rfl := Option.some.inj H
      exact ⟨_, ⟨_, rfl, ⟨_, rfl, rfl⟩⟩, ⟨rfl, (S.weaken hI)⟩⟩
    · rw [if_neg cc19] at H
      refine OK.gt rfl rfl rfl (deF cc19) (V (x_movV (v := .int .i64 n10) rfl) ?_)
      refine OK.gt rfl rfl rfl (deF cc19) (V (x_bin rfl rfl rfl) ?_)
      refine U rfl rfl (V (x_pickFV (v := .bool (decide (n10 > 4294967295))) rfl (deF cc19) rfl) ?_)
      refine U rfl rfl (V (x_movV (v := .bool (decide (n10 > 4294967295))) rfl) ?_)
      by_cases cc20 : n10 > 4294967295
      · rw [if_pos cc20] at H
        refine OK.gf rfl rfl rfl (deT cc20) ?_
        refine OK.gf rfl rfl rfl (deT cc20) ?_
        refine OK.gf rfl rfl rfl (deT cc20) ?_
        refine OK.gf rfl rfl rfl (deT cc20) ?_
        refine U rfl rfl (V (x_pickTV (v := .bool true) rfl (deT cc20) rfl) ?_)
        refine FW.condT rfl rfl ?_
        refine FW.seq ?_
        refine FW.anew [] trivial fun σ => ?_
        refine FW.region ?_
        refine U rfl rfl (V (x_asgV (v := .int .i64 0) rfl) ?_)
        refine U rfl rfl (V (x_asgV (v := .bool false) rfl) ?_)
        refine FW.ret ?_
        obtain rfl := Option.some.inj H
        exact ⟨_, ⟨_, rfl, ⟨_, rfl, rfl⟩⟩, ⟨rfl, (S.weaken hI)⟩⟩
      · rw [if_neg cc20] at H
        refine OK.gt rfl rfl rfl (deF cc20) (V (x_movV (v := .int .i64 n10) rfl) ?_)
        obtain ⟨y21, hy22, H⟩ := obx H
        refine OK.gt rfl rfl rfl (deF cc20) (cl fb42 (@octet_Text.ok k n10 _ _ _ _ hG S hy22) rfl ?_)
        rintro _ w ⟨rfl, S⟩
        refine OK.gt rfl rfl rfl (deF cc20) (V (x_movV (v := .string x0) rfl) ?_)
        refine OK.gt rfl rfl rfl (deF cc20) (V (x_sne rfl rfl) ?_)
        refine U rfl rfl (V (x_pickFV (v := .bool (!decide (y21 = x0))) rfl (deF cc20) rfl) ?_)
        by_cases cc23 : y21 = x0
        · rw [if_pos cc23] at H
          refine FW.condF rfl (noF (deT cc23)) ?_
          refine FW.skip ?_
          refine FW.seq ?_
          refine FW.anew [(4, .int .i64 n10)] ⟨rfl, trivial⟩ fun σ => ?_
          refine FW.region ?_
          refine U rfl rfl (V (x_movV (v := .int .i64 n10) rfl) ?_)
          refine U rfl rfl (V (x_asgV (v := .int .i64 n10) rfl) ?_)
          refine U rfl rfl (V (x_asgV (v := .bool true) rfl) ?_)
          refine FW.ret ?_
          obtain rfl := Option.some.inj H
          exact ⟨_, ⟨_, rfl, ⟨_, rfl, rfl⟩⟩, ⟨rfl, (S.weaken hI)⟩⟩
        · rw [if_neg cc23] at H
          refine FW.condT rfl (noT (deF cc23)) ?_
          refine FW.seq ?_
          refine FW.anew [] trivial fun σ => ?_
          refine FW.region ?_
          refine U rfl rfl (V (x_asgV (v := .int .i64 0) rfl) ?_)
          refine U rfl rfl (V (x_asgV (v := .bool false) rfl) ?_)
          refine FW.ret ?_
          obtain rfl := Option.some.inj H
          exact ⟨_, ⟨_, rfl, ⟨_, rfl, rfl⟩⟩, ⟨rfl, (S.weaken hI)⟩⟩
def regex_signs_1.f (k : Nat) (x0 : Int) (x1 : Int) (x2 : ByteArray) (x3 : (List T_regex_sign)) : Option (Bool × Int × (List T_regex_sign)) := (if x1 < 0 then (some (true, x1, x3)) else ((scutLR x2 x1 x0).bind fun s3 => ((octet_Int.f k s3).bind fun y4 => ((app 12 x3 [(T_regex_sign.mk 0 (u32 y4.1) true)]).bind fun l10 => (some (y4.2, (-1), l10))))))
abbrev regex_signs_1.C (k : Nat) : Prop := ∀ {x0 : Int} {x1 : Int} {x2 : ByteArray} {x3 : (List T_regex_sign)} {vx3 : Value} {bx1 : Nat} {bx2 : Nat} {bx3 : Nat} {F : List It} {I : IMem} {w : World} {r : Bool × Int × (List T_regex_sign)}, Glob I → Own I w (.bk bx1 3 [.int .i64 x1] :: .bk bx2 9 [.string x2] :: .bk bx3 39 [vx3] :: .tv vx3 51 3 :: F) → SlR R_regex_sign I vx3 x3 → regex_signs_1.f k x0 x1 x2 x3 = some r →
    Calls Tryd.prog 26 #[.int .i64 x0, .pointer (some ⟨bx1, 0, none⟩), .pointer (some ⟨bx2, 0, none⟩), .pointer (some ⟨bx3, 0, none⟩)] w fun e w' => ∃ v, e = .returned v ∧ ∃ (vy_2 : Value) (J : IMem), I.le J ∧ v = .bool r.1 ∧ SlR R_regex_sign J vy_2 r.2.2 ∧ Own J w' (.bk bx1 3 [.int .i64 r.2.1] :: .bk bx2 9 [.string x2] :: .bk bx3 39 [vy_2] :: .tv vy_2 51 3 :: F)
theorem regex_signs_1.ok (k : Nat) : regex_signs_1.C k := by
  intro x0 x1 x2 x3 vx3 bx1 bx2 bx3 F I w r hG S hx3 H
  have hI := IMem.le.refl I
  rw [regex_signs_1.f] at H
  refine Calls.ofFW (args := [.int .i64 x0, .pointer (some ⟨bx1, 0, none⟩), .pointer (some ⟨bx2, 0, none⟩), .pointer (some ⟨bx3, 0, none⟩)]) Tryd.func26 rfl rfl ?_
  refine FW.seq ?_
  refine FW.region ?_
  refine U rfl rfl (V (x_asgV (v := .bool false) rfl) ?_)
  refine FW.seq ?_
  refine FW.seq ?_
  refine FW.region ?_
  refine U rfl rfl (V (x_ld tsc3 rfl (S.load 0 rfl 0 rfl)) ?_)
  refine U rfl rfl (V (x_bin rfl rfl rfl) ?_)
  by_cases cc1 : x1 < 0
  · rw [if_pos cc1] at H
    refine FW.condT rfl (deT cc1) ?_
    refine FW.seq ?_
    refine FW.region ?_
    refine U rfl rfl (V (x_asgV (v := .bool true) rfl) ?_)
    refine FW.ret ?_
    obtain rfl := Option.some.inj H
    exact ⟨_, ⟨_, rfl, rfl⟩, ⟨vx3, I, hI, rfl, hx3, S⟩⟩
  · rw [if_neg cc1] at H
    refine FW.condF rfl (deF cc1) ?_
    refine FW.skip ?_
    refine FW.seq ?_
    refine FW.region ?_
    refine U rfl rfl (V (x_ld tsc9 rfl (S.load 1 rfl 0 rfl)) ?_)
    refine U rfl rfl (V (x_ld tsc3 rfl (S.load 0 rfl 0 rfl)) ?_)
    refine U rfl rfl (V (x_movV (v := .int .i64 x0) rfl) ?_)
    obtain ⟨s3, h2, H⟩ := obx H
    refine U rfl rfl (o_scutLR tstr9 rfl rfl rfl h2 ?_)
    obtain ⟨y4, hy5, H⟩ := obx H
    refine U rfl rfl (cl fb27 (@octet_Int.ok k s3 _ _ _ _ hG S hy5) rfl ?_)
    rintro _ w ⟨rfl, S⟩
    refine U rfl rfl (V (x_movV (v := .tuple #[.int .i64 y4.1, .bool y4.2]) rfl) ?_)
    refine U rfl rfl (V (x_ext rfl rfl) ?_)
    refine U rfl rfl (V (x_ext rfl rfl) ?_)
    refine U rfl rfl (V (x_asgV (v := .int .i64 y4.1) rfl) ?_)
    refine U rfl rfl (V (x_asgV (v := .bool y4.2) rfl) ?_)
    refine FW.seq ?_
    refine FW.anew [(1, .pointer (some ⟨bx1, 0, none⟩)), (3, .pointer (some ⟨bx3, 0, none⟩)), (6, .int .i64 y4.1), (7, .bool y4.2)] ⟨rfl, rfl, rfl, rfl, trivial⟩ fun σ => ?_
    refine FW.region ?_
    refine U rfl rfl (V (x_ld tsc39 rfl (S.load 2 rfl 0 rfl)) ?_)
    refine U rfl rfl (V (x_movV (v := .int .i64 y4.1) rfl) ?_)
    refine U rfl rfl (V (x_conv tint38 tint_3 rfl) ?_)
    refine U rfl rfl (V (x_bld tz51 tpl51 rfl (.one rfl (.one rfl PC.nil)) rfl) ?_)
    refine U rfl rfl (o_bsl tsl39 tz51 rfl rfl rfl rfl (.agg PC.nil) rfl S fun b6 w S => ?_)
    obtain ⟨J7, hJ9, S, h8⟩ := S.freeze (r := R_regex_sign) (l := [(T_regex_sign.mk 0 (u32 y4.1) true)]) 0 rfl ⟨[.int .i32 0, .int .u32 (u32 y4.1), .bool true], _, rfl, rfl, rfl⟩ rfl rfl
    have hx3 := hx3.mono hJ9
    have hI := hI.trans hJ9
    have hG := hG.mono hJ9
    obtain ⟨l10, h12, H⟩ := obx H
    refine U rfl rfl (o_appD (r := R_regex_sign) tsl39 rfl tz51 rfl rfl S 4 rfl rfl hx3 h8 h12 fun v11 w J14 hJ15 S h13 => ?_)
    have hx3 := hx3.mono hJ15
    have h8 := h8.mono hJ15
    have hI := hI.trans hJ15
    have hG := hG.mono hJ15
    refine U rfl rfl (o_st tone39 S 3 rfl rfl rfl h13.one fun w S => ?_)
    refine FW.seq ?_
    refine FW.anew [(1, .pointer (some ⟨bx1, 0, none⟩)), (7, .bool y4.2)] ⟨rfl, rfl, trivial⟩ fun σ => ?_
    refine FW.region ?_
    refine U rfl rfl (o_st tone3 S 1 rfl rfl rfl rfl fun w S => ?_)
    refine FW.seq ?_
    refine FW.region ?_
    refine U rfl rfl (V (x_movV (v := .bool y4.2) rfl) ?_)
    refine U rfl rfl (V (x_asgV (v := .bool y4.2) rfl) ?_)
    refine FW.ret ?_
    obtain rfl := Option.some.inj H
    exact ⟨_, ⟨_, rfl, rfl⟩, ⟨v11, J14, hI, rfl, h13, (S.sel 5 [1, 2, 3, 4] rfl)⟩⟩
def regex_signs.l0 : Nat → ByteArray → Nat → Int → (List T_regex_sign) → Option (Sum ((List T_regex_sign) × Bool) (Nat × Int × (List T_regex_sign)))
  | 0, _, _, _, _ => none
  | k + 1, x0, p7, n8, l9 => (if p7 < x0.size then (if (runeAt x0 p7) ≥ 48 then (if (runeAt x0 p7) ≤ 57 then ((if n8 < 0 then (some ((p7 : Nat) : Int)) else (some n8)).bind fun n28 => (regex_signs.l0 k x0 (p7 + runeW x0 p7) n28 l9)) else ((regex_signs_1.f k ((p7 : Nat) : Int) n8 x0 l9).bind fun y33 => (if y33.1 = true then ((if (runeAt x0 p7) = 32 then (some ((runeAt x0 p7) == 32)) else (some ((runeAt x0 p7) == 95))).bind fun b39 => (if b39 = true then ((app 12 y33.2.2 [(T_regex_sign.mk 32 0 false)]).bind fun l49 => (regex_signs.l0 k x0 (p7 + runeW x0 p7) y33.2.1 l49)) else (if (runeAt x0 p7) = 124 then ((app 12 y33.2.2 [(T_regex_sign.mk (runeAt x0 p7) 0 false)]).bind fun l60 => (regex_signs.l0 k x0 (p7 + runeW x0 p7) y33.2.1 l60)) else (if (runeAt x0 p7) = 40 then ((app 12 y33.2.2 [(T_regex_sign.mk (runeAt x0 p7) 0 false)]).bind fun l71 => (regex_signs.l0 k x0 (p7 + runeW x0 p7) y33.2.1 l71)) else (if (runeAt x0 p7) = 41 then ((app 12 y33.2.2 [(T_regex_sign.mk (runeAt x0 p7) 0 false)]).bind fun l82 => (regex_signs.l0 k x0 (p7 + runeW x0 p7) y33.2.1 l82)) else (if (runeAt x0 p7) = 91 then ((app 12 y33.2.2 [(T_regex_sign.mk (runeAt x0 p7) 0 false)]).bind fun l93 => (regex_signs.l0 k x0 (p7 + runeW x0 p7) y33.2.1 l93)) else (if (runeAt x0 p7) = 93 then ((app 12 y33.2.2 [(T_regex_sign.mk (runeAt x0 p7) 0 false)]).bind fun l104 => (regex_signs.l0 k x0 (p7 + runeW x0 p7) y33.2.1 l104)) else (if (runeAt x0 p7) = 94 then ((app 12 y33.2.2 [(T_regex_sign.mk (runeAt x0 p7) 0 false)]).bind fun l115 => (regex_signs.l0 k x0 (p7 + runeW x0 p7) y33.2.1 l115)) else (if (runeAt x0 p7) = 36 then ((app 12 y33.2.2 [(T_regex_sign.mk (runeAt x0 p7) 0 false)]).bind fun l126 => (regex_signs.l0 k x0 (p7 + runeW x0 p7) y33.2.1 l126)) else (if (runeAt x0 p7) = 46 then ((app 12 y33.2.2 [(T_regex_sign.mk (runeAt x0 p7) 0 false)]).bind fun l137 => (regex_signs.l0 k x0 (p7 + runeW x0 p7) y33.2.1 l137)) else (if (runeAt x0 p7) = 42 then ((app 12 y33.2.2 [(T_regex_sign.mk (runeAt x0 p7) 0 false)]).bind fun l148 => (regex_signs.l0 k x0 (p7 + runeW x0 p7) y33.2.1 l148)) else (if (runeAt x0 p7) = 43 then ((app 12 y33.2.2 [(T_regex_sign.mk (runeAt x0 p7) 0 false)]).bind fun l159 => (regex_signs.l0 k x0 (p7 + runeW x0 p7) y33.2.1 l159)) else (if (runeAt x0 p7) = 63 then ((app 12 y33.2.2 [(T_regex_sign.mk (runeAt x0 p7) 0 false)]).bind fun l170 => (regex_signs.l0 k x0 (p7 + runeW x0 p7) y33.2.1 l170)) else (if (runeAt x0 p7) = 45 then ((app 12 y33.2.2 [(T_regex_sign.mk (runeAt x0 p7) 0 false)]).bind fun l181 => (regex_signs.l0 k x0 (p7 + runeW x0 p7) y33.2.1 l181)) else (if (runeAt x0 p7) = 44 then ((app 12 y33.2.2 [(T_regex_sign.mk (runeAt x0 p7) 0 false)]).bind fun l192 => (regex_signs.l0 k x0 (p7 + runeW x0 p7) y33.2.1 l192)) else (some (.inl ([], false)))))))))))))))))) else (some (.inl ([], false)))))) else ((regex_signs_1.f k ((p7 : Nat) : Int) n8 x0 l9).bind fun y200 => (if y200.1 = true then ((if (runeAt x0 p7) = 32 then (some ((runeAt x0 p7) == 32)) else (some ((runeAt x0 p7) == 95))).bind fun b206 => (if b206 = true then ((app 12 y200.2.2 [(T_regex_sign.mk 32 0 false)]).bind fun l216 => (regex_signs.l0 k x0 (p7 + runeW x0 p7) y200.2.1 l216)) else (if (runeAt x0 p7) = 124 then ((app 12 y200.2.2 [(T_regex_sign.mk (runeAt x0 p7) 0 false)]).bind fun l227 => (regex_signs.l0 k x0 (p7 + runeW x0 p7) y200.2.1 l227)) else (if (runeAt x0 p7) = 40 then ((app 12 y200.2.2 [(T_regex_sign.mk (runeAt x0 p7) 0 false)]).bind fun l238 => (regex_signs.l0 k x0 (p7 + runeW x0 p7) y200.2.1 l238)) else (if (runeAt x0 p7) = 41 then ((app 12 y200.2.2 [(T_regex_sign.mk (runeAt x0 p7) 0 false)]).bind fun l249 => (regex_signs.l0 k x0 (p7 + runeW x0 p7) y200.2.1 l249)) else (if (runeAt x0 p7) = 91 then ((app 12 y200.2.2 [(T_regex_sign.mk (runeAt x0 p7) 0 false)]).bind fun l260 => (regex_signs.l0 k x0 (p7 + runeW x0 p7) y200.2.1 l260)) else (if (runeAt x0 p7) = 93 then ((app 12 y200.2.2 [(T_regex_sign.mk (runeAt x0 p7) 0 false)]).bind fun l271 => (regex_signs.l0 k x0 (p7 + runeW x0 p7) y200.2.1 l271)) else (if (runeAt x0 p7) = 94 then ((app 12 y200.2.2 [(T_regex_sign.mk (runeAt x0 p7) 0 false)]).bind fun l282 => (regex_signs.l0 k x0 (p7 + runeW x0 p7) y200.2.1 l282)) else (if (runeAt x0 p7) = 36 then ((app 12 y200.2.2 [(T_regex_sign.mk (runeAt x0 p7) 0 false)]).bind fun l293 => (regex_signs.l0 k x0 (p7 + runeW x0 p7) y200.2.1 l293)) else (if (runeAt x0 p7) = 46 then ((app 12 y200.2.2 [(T_regex_sign.mk (runeAt x0 p7) 0 false)]).bind fun l304 => (regex_signs.l0 k x0 (p7 + runeW x0 p7) y200.2.1 l304)) else (if (runeAt x0 p7) = 42 then ((app 12 y200.2.2 [(T_regex_sign.mk (runeAt x0 p7) 0 false)]).bind fun l315 => (regex_signs.l0 k x0 (p7 + runeW x0 p7) y200.2.1 l315)) else (if (runeAt x0 p7) = 43 then ((app 12 y200.2.2 [(T_regex_sign.mk (runeAt x0 p7) 0 false)]).bind fun l326 => (regex_signs.l0 k x0 (p7 + runeW x0 p7) y200.2.1 l326)) else (if (runeAt x0 p7) = 63 then ((app 12 y200.2.2 [(T_regex_sign.mk (runeAt x0 p7) 0 false)]).bind fun l337 => (regex_signs.l0 k x0 (p7 + runeW x0 p7) y200.2.1 l337)) else (if (runeAt x0 p7) = 45 then ((app 12 y200.2.2 [(T_regex_sign.mk (runeAt x0 p7) 0 false)]).bind fun l348 => (regex_signs.l0 k x0 (p7 + runeW x0 p7) y200.2.1 l348)) else (if (runeAt x0 p7) = 44 then ((app 12 y200.2.2 [(T_regex_sign.mk (runeAt x0 p7) 0 false)]).bind fun l359 => (regex_signs.l0 k x0 (p7 + runeW x0 p7) y200.2.1 l359)) else (some (.inl ([], false)))))))))))))))))) else (some (.inl ([], false)))))) else (some (.inr (p7, n8, l9))))
def regex_signs.f (k : Nat) (x0 : ByteArray) : Option ((List T_regex_sign) × Bool) := (((regex_signs.l0 k x0 0 (-1) []) : Option (Sum ((List T_regex_sign) × Bool) (Nat × Int × (List T_regex_sign)))).bind fun o => match o with | .inl r => some r | .inr (p18, n19, l20) => ((regex_signs_1.f k (x0.size : Int) n19 x0 l20).bind fun y367 => (some (y367.2.2, y367.1))))
abbrev regex_signs.C (k : Nat) : Prop := ∀ {x0 : ByteArray} {F : List It} {I : IMem} {w : World} {r : (List T_regex_sign) × Bool}, Glob I → Own I w (F) → regex_signs.f k x0 = some r →
    Calls Tryd.prog 16 #[.string x0] w fun e w' => ∃ v, e = .returned v ∧ ∃ (vy_0 : Value) (J : IMem), I.le J ∧ v = .tuple #[vy_0, .bool r.2] ∧ SlR R_regex_sign J vy_0 r.1 ∧ Own J w' (.tv vy_0 51 3 :: F)
theorem regex_signs.ok (k : Nat) : regex_signs.C k := by
  intro x0 F I w r hG S H
  have hI := IMem.le.refl I
  rw [regex_signs.f] at H
  refine Calls.ofFW (args := [.string x0]) Tryd.func16 rfl rfl ?_
  refine FW.seq ?_
  refine FW.region ?_
  refine U rfl rfl (o_box rfl S fun b1 w S => ?_)
  refine U rfl rfl (V (x_asgV (v := (.slice none 0 0)) rfl) ?_)
  refine U rfl rfl (V (x_asgV (v := .bool false) rfl) ?_)
  refine FW.seq ?_
  refine FW.region ?_
  refine U rfl rfl (o_all tz39 S fun b2 w S => ?_)
  refine FW.seq ?_
  refine FW.region ?_
  refine U rfl rfl (o_all tz3 S fun b3 w S => ?_)
  refine U rfl rfl (o_st tone3 S 0 rfl rfl rfl rfl fun w S => ?_)
  refine FW.seq ?_
  refine FW.region ?_
  refine U rfl rfl (V (x_mkfL (l := [.pointer (some ⟨b3, 0, none⟩), .pointer (some ⟨b1, 0, none⟩), .pointer (some ⟨b2, 0, none⟩)]) rfl) ?_)
  refine U rfl rfl (V (x_asgV (v := .func (.func 26) #[] #[.pointer (some ⟨b3, 0, none⟩), .pointer (some ⟨b1, 0, none⟩), .pointer (some ⟨b2, 0, none⟩)]) rfl) ?_)
  refine FW.seq ?_
  refine FW.seq ?_
  refine FW.anew [(1, .pointer (some ⟨b1, 0, none⟩)), (4, .pointer (some ⟨b2, 0, none⟩)), (5, .pointer (some ⟨b3, 0, none⟩)), (6, .func (.func 26) #[] #[.pointer (some ⟨b3, 0, none⟩), .pointer (some ⟨b1, 0, none⟩), .pointer (some ⟨b2, 0, none⟩)])] ⟨rfl, rfl, rfl, rfl, trivial⟩ fun σ => ?_
  refine FW.region ?_
  refine U rfl rfl (V (x_ld tsc9 rfl (S.load 2 rfl 0 rfl)) ?_)
  refine U rfl rfl (o_rng tstr9 rfl S fun b4 w S => ?_)
  refine FW.block ?_
  have S := S.nil_tv 51 3
  obtain ⟨o14, hl16, HO15⟩ := obx H
  refine FW.cutX 0 (fun σ w => ∃ (p18 : Nat) (n19 : Int) (l20 : (List T_regex_sign)) (v21 : Value) (J17 : IMem), (.inr (p18, n19, l20)) = o14 ∧ Has σ [(1, .pointer (some ⟨b1, 0, none⟩)), (4, .pointer (some ⟨b2, 0, none⟩)), (6, .func (.func 26) #[] #[.pointer (some ⟨b3, 0, none⟩), .pointer (some ⟨b1, 0, none⟩), .pointer (some ⟨b2, 0, none⟩)])] ∧ I.le J17 ∧ Own J17 w (.tv v21 51 3 :: .ob b4 (.stringIter x0 p18) :: .bk b3 3 [.int .i64 n19] :: .bk b2 39 [v21] :: .bk b1 9 [.string x0] :: F) ∧ SlR R_regex_sign J17 v21 l20) ?_ ?_
  ·
    refine FW.loop k (FL.ind (fun q σ w => ∃ (p7 : Nat) (n8 : Int) (l9 : (List T_regex_sign)) (v10 : Value) (J6 : IMem), regex_signs.l0 q x0 p7 n8 l9 = some o14 ∧ q ≤ k ∧ Has σ [(1, .pointer (some ⟨b1, 0, none⟩)), (4, .pointer (some ⟨b2, 0, none⟩)), (5, .pointer (some ⟨b3, 0, none⟩)), (6, .func (.func 26) #[] #[.pointer (some ⟨b3, 0, none⟩), .pointer (some ⟨b1, 0, none⟩), .pointer (some ⟨b2, 0, none⟩)]), (13, .pointer (some ⟨b4, 0, none⟩))] ∧ I.le J6 ∧ Own J6 w (.tv v10 51 3 :: .ob b4 (.stringIter x0 p7) :: .bk b3 3 [.int .i64 n8] :: .bk b2 39 [v10] :: .bk b1 9 [.string x0] :: F) ∧ SlR R_regex_sign J6 v10 l9) ?_ ?_ k k _ _ (Nat.le_refl _) ⟨0, (-1), [], (.slice none 0 0), I, hl16, Nat.le_refl _, ⟨rfl, rfl, rfl, rfl, rfl, trivial⟩, (IMem.le.refl _), S, (SlR.nil _ _)⟩)
    · rintro σ w ⟨p7, n8, l9, v10, J6, H, _⟩; cases H
    · rintro q12 σ w ⟨p7, n8, l9, v10, J6, H, hq23, hσ, hL13, S, h11⟩
      have hI := hI.trans hL13
      have hG := hG.mono hL13
      rw [hσ.eq]
      rw [regex_signs.l0] at H
      refine FW.seq ?_
      refine FW.region ?_
      by_cases cc24 : p7 < x0.size
      · rw [if_pos cc24] at H
        refine U rfl rfl (o_nxtT S 1 rfl rfl cc24 fun w S => ?_)
        refine U rfl rfl (V (x_ext rfl rfl) ?_)
        refine FW.seq ?_
        refine FW.condT rfl rfl ?_
        refine FW.skip ?_
        refine FW.block ?_
        refine FW.seq ?_
        refine FW.region ?_
        refine U rfl rfl (V (x_ext rfl rfl) ?_)
        refine U rfl rfl (V (x_ext rfl rfl) ?_)
        refine U rfl rfl (V (x_asgV (v := .int .i64 ((p7 : Nat) : Int)) rfl) ?_)
        refine U rfl rfl (V (x_asgV (v := .int .i32 (runeAt x0 p7)) rfl) ?_)
        refine FW.seq ?_
        refine FW.seq ?_
        refine FW.region ?_
        refine U rfl rfl (V (x_movV (v := .int .i32 (runeAt x0 p7)) rfl) ?_)
        refine U rfl rfl (V (x_bin rfl rfl rfl) ?_)
        refine U rfl rfl (V (x_movV (v := .bool (decide ((runeAt x0 p7) ≥ 48))) rfl) ?_)
        by_cases cc25 : (runeAt x0 p7) ≥ 48
        · rw [if_pos cc25] at H
          refine OK.gt rfl rfl rfl (deT cc25) (V (x_movV (v := .int .i32 (runeAt x0 p7)) rfl) ?_)
          refine OK.gt rfl rfl rfl (deT cc25) (V (x_bin rfl rfl rfl) ?_)
          refine U rfl rfl (V (x_pickTV (v := .bool (decide ((runeAt x0 p7) ≤ 57))) rfl (deT cc25) rfl) ?_)
          by_cases cc26 : (runeAt x0 p7) ≤ 57
          · rw [if_pos cc26] at H
            refine FW.condT rfl (deT cc26) ?_
            refine FW.seq ?_
            refine FW.seq ?_
            refine FW.anew [(1, .pointer (some ⟨b1, 0, none⟩)), (4, .pointer (some ⟨b2, 0, none⟩)), (5, .pointer (some ⟨b3, 0, none⟩)), (6, .func (.func 26) #[] #[.pointer (some ⟨b3, 0, none⟩), .pointer (some ⟨b1, 0, none⟩), .pointer (some ⟨b2, 0, none⟩)]), (7, .int .i64 ((p7 : Nat) : Int)), (13, .pointer (some ⟨b4, 0, none⟩))] ⟨rfl, rfl, rfl, rfl, rfl, rfl, trivial⟩ fun σ => ?_
            refine FW.region ?_
            refine U rfl rfl (V (x_ld tsc3 rfl (S.load 2 rfl 0 rfl)) ?_)
            refine U rfl rfl (V (x_bin rfl rfl rfl) ?_)
            obtain ⟨o29, H, HO30⟩ := obx H
            have hL31 := IMem.le.refl J6
            refine FW.cutN (fun σ w => ∃ (n28 : Int) (J27 : IMem), n28 = o29 ∧ Has σ [(1, .pointer (some ⟨b1, 0, none⟩)), (4, .pointer (some ⟨b2, 0, none⟩)), (5, .pointer (some ⟨b3, 0, none⟩)), (6, .func (.func 26) #[] #[.pointer (some ⟨b3, 0, none⟩), .pointer (some ⟨b1, 0, none⟩), .pointer (some ⟨b2, 0, none⟩)]), (13, .pointer (some ⟨b4, 0, none⟩))] ∧ J6.le J27 ∧ Own J27 w (.tv v10 51 3 :: .ob b4 (.stringIter x0 (p7 + runeW x0 p7)) :: .bk b3 3 [.int .i64 n28] :: .bk b2 39 [v10] :: .bk b1 9 [.string x0] :: F)) ?_ ?_
            ·
              by_cases cc32 : n8 < 0
              · rw [if_pos cc32] at H
                refine FW.condT rfl (deT cc32) ?_
                refine FW.region ?_
                refine U rfl rfl (V (x_movV (v := .int .i64 ((p7 : Nat) : Int)) rfl) ?_)
                refine U rfl rfl (o_st tone3 S 2 rfl rfl rfl rfl fun w S => ?_)
                exact ⟨((p7 : Nat) : Int), J6, (Option.some.inj H), ⟨rfl, rfl, rfl, rfl, rfl, trivial⟩, hL31, S⟩
              · rw [if_neg cc32] at H
                refine FW.condF rfl (deF cc32) ?_
                refine FW.skip ?_
                exact ⟨n8, J6, (Option.some.inj H), ⟨rfl, rfl, rfl, rfl, rfl, trivial⟩, hL31, S⟩
            · rintro σ w ⟨n28, J27, ho, hσ, hL31, S⟩
              subst ho
              have H := HO30
              have h11 := h11.mono hL31
              have hI := hI.trans hL31
              have hL13 := hL13.trans hL31
              have hG := hG.mono hL31
              rw [hσ.eq]
              refine FW.exit ?_
              exact ⟨q12, Nat.le_refl _, (p7 + runeW x0 p7), n28, l9, v10, J27, H, (Nat.le_of_succ_le hq23), ⟨rfl, rfl, rfl, rfl, rfl, trivial⟩, hL13, S, h11⟩
          · rw [if_neg cc26] at H
            refine FW.condF rfl (deF cc26) ?_
            refine FW.skip ?_
            refine FW.seq ?_
            refine FW.seq ?_
            refine FW.anew [(1, .pointer (some ⟨b1, 0, none⟩)), (4, .pointer (some ⟨b2, 0, none⟩)), (5, .pointer (some ⟨b3, 0, none⟩)), (6, .func (.func 26) #[] #[.pointer (some ⟨b3, 0, none⟩), .pointer (some ⟨b1, 0, none⟩), .pointer (some ⟨b2, 0, none⟩)]), (7, .int .i64 ((p7 : Nat) : Int)), (8, .int .i32 (runeAt x0 p7)), (13, .pointer (some ⟨b4, 0, none⟩))] ⟨rfl, rfl, rfl, rfl, rfl, rfl, rfl, trivial⟩ fun σ => ?_
            refine FW.region ?_
            refine U rfl rfl (V (x_movV (v := .func (.func 26) #[] #[.pointer (some ⟨b3, 0, none⟩), .pointer (some ⟨b1, 0, none⟩), .pointer (some ⟨b2, 0, none⟩)]) rfl) ?_)
            refine U rfl rfl (V (x_movV (v := .int .i64 ((p7 : Nat) : Int)) rfl) ?_)
            obtain ⟨y33, hy34, H⟩ := obx H
            refine U rfl rfl (clv rfl fb26 (@regex_signs_1.ok q12 ((p7 : Nat) : Int) n8 x0 l9 _ _ _ _ _ _ _ _ hG (S.sel 5 [2, 4, 3, 0, 1] rfl) h11 hy34) rfl ?_)
            rintro _ w ⟨vy33_2, J35, hJ36, rfl, hy33_2, S⟩
            have hI := hI.trans hJ36
            have hL13 := hL13.trans hJ36
            have hG := hG.mono hJ36
            refine U rfl rfl (V (x_not' rfl) ?_)
            by_cases cc37 : y33.1 = true
            · rw [if_pos cc37] at H
              refine FW.condF rfl (noF cc37) ?_
              refine FW.skip ?_
              refine FW.seq ?_
              refine FW.region ?_
              refine U rfl rfl (V (x_movV (v := .int .i32 (runeAt x0 p7)) rfl) ?_)
              refine FW.block ?_
              refine FW.seq ?_
              refine FW.seq ?_
              refine FW.region ?_
              refine U rfl rfl (V (x_bin rfl rfl rfl) ?_)
              refine U rfl rfl (V (x_asgV (v := .bool ((runeAt x0 p7) == 32)) rfl) ?_)
              obtain ⟨o40, H, HO41⟩ := obx H
              have hL42 := IMem.le.refl J35
              refine FW.cutN (fun σ w => ∃ (b39 : Bool) (J38 : IMem), b39 = o40 ∧ Has σ [(1, .pointer (some ⟨b1, 0, none⟩)), (4, .pointer (some ⟨b2, 0, none⟩)), (5, .pointer (some ⟨b3, 0, none⟩)), (6, .func (.func 26) #[] #[.pointer (some ⟨b3, 0, none⟩), .pointer (some ⟨b1, 0, none⟩), .pointer (some ⟨b2, 0, none⟩)]), (8, .int .i32 (runeAt x0 p7)), (13, .pointer (some ⟨b4, 0, none⟩)), (31, .int .i32 (runeAt x0 p7)), (32, .bool b39)] ∧ J35.le J38 ∧ Own J38 w (.bk b3 3 [.int .i64 y33.2.1] :: .bk b1 9 [.string x0] :: .bk b2 39 [vy33_2] :: .tv vy33_2 51 3 :: .ob b4 (.stringIter x0 (p7 + runeW x0 p7)) :: F)) ?_ ?_
              ·
                by_cases cc43 : (runeAt x0 p7) = 32
                · rw [if_pos cc43] at H
                  refine FW.condT rfl (eqT cc43) ?_
                  refine FW.skip ?_
                  exact ⟨((runeAt x0 p7) == 32), J35, (Option.some.inj H), ⟨rfl, rfl, rfl, rfl, rfl, rfl, rfl, rfl, trivial⟩, hL42, S⟩
                · rw [if_neg cc43] at H
                  refine FW.condF rfl (eqF cc43) ?_
                  refine FW.anew [(1, .pointer (some ⟨b1, 0, none⟩)), (4, .pointer (some ⟨b2, 0, none⟩)), (5, .pointer (some ⟨b3, 0, none⟩)), (6, .func (.func 26) #[] #[.pointer (some ⟨b3, 0, none⟩), .pointer (some ⟨b1, 0, none⟩), .pointer (some ⟨b2, 0, none⟩)]), (8, .int .i32 (runeAt x0 p7)), (13, .pointer (some ⟨b4, 0, none⟩)), (31, .int .i32 (runeAt x0 p7))] ⟨rfl, rfl, rfl, rfl, rfl, rfl, rfl, trivial⟩ fun σ => ?_
                  refine FW.region ?_
                  refine U rfl rfl (V (x_bin rfl rfl rfl) ?_)
                  refine U rfl rfl (V (x_asgV (v := .bool ((runeAt x0 p7) == 95)) rfl) ?_)
                  exact ⟨((runeAt x0 p7) == 95), J35, (Option.some.inj H), ⟨rfl, rfl, rfl, rfl, rfl, rfl, rfl, rfl, trivial⟩, hL42, S⟩
              · rintro σ w ⟨b39, J38, ho, hσ, hL42, S⟩
                subst ho
                have H := HO41
                have hy33_2 := hy33_2.mono hL42
                have hI := hI.trans hL42
                have hL13 := hL13.trans hL42
                have hG := hG.mono hL42
                rw [hσ.eq]
                by_cases cc44 : b39 = true
                · rw [if_pos cc44] at H
                  refine FW.condT rfl cc44 ?_
                  refine FW.region ?_
                  refine U rfl rfl (V (x_ld tsc39 rfl (S.load 2 rfl 0 rfl)) ?_)
                  refine U rfl rfl (V (x_bld tz51 tpl51 rfl (.one rfl PC.nil) rfl) ?_)
                  refine U rfl rfl (o_bsl tsl39 tz51 rfl rfl rfl rfl (.agg PC.nil) rfl S fun b45 w S => ?_)
                  obtain ⟨J46, hJ48, S, h47⟩ := S.freeze (r := R_regex_sign) (l := [(T_regex_sign.mk 32 0 false)]) 0 rfl ⟨[.int .i32 32, .int .u32 0, .bool false], _, rfl, rfl, rfl⟩ rfl rfl
                  have hy33_2 := hy33_2.mono hJ48
                  have hI := hI.trans hJ48
                  have hL13 := hL13.trans hJ48
                  have hG := hG.mono hJ48
                  obtain ⟨l49, h51, H⟩ := obx H
                  refine U rfl rfl (o_appD (r := R_regex_sign) tsl39 rfl tz51 rfl rfl S 4 rfl rfl hy33_2 h47 h51 fun v50 w J53 hJ54 S h52 => ?_)
                  have hy33_2 := hy33_2.mono hJ54
                  have h47 := h47.mono hJ54
                  have hI := hI.trans hJ54
                  have hL13 := hL13.trans hJ54
                  have hG := hG.mono hJ54
                  refine U rfl rfl (o_st tone39 S 3 rfl rfl rfl h52.one fun w S => ?_)
                  exact ⟨q12, Nat.le_refl _, (p7 + runeW x0 p7), y33.2.1, l49, v50, J53, H, (Nat.le_of_succ_le hq23), ⟨rfl, rfl, rfl, rfl, rfl, trivial⟩, hL13, (S.sel 6 [4, 5, 1, 3, 2] rfl), h52⟩
                · rw [if_neg cc44] at H
                  refine FW.condF rfl (vaF cc44) ?_
                  refine FW.seq ?_
                  refine FW.seq ?_
                  refine FW.region ?_
                  refine U rfl rfl (V (x_bin rfl rfl rfl) ?_)
                  refine U rfl rfl (V (x_asgV (v := .bool ((runeAt x0 p7) == 124)) rfl) ?_)
                  by_cases cc55 : (runeAt x0 p7) = 124
                  · rw [if_pos cc55] at H
                    refine FW.condT rfl (eqT cc55) ?_
                    refine FW.skip ?_
                    refine FW.condT rfl (eqT cc55) ?_
                    refine FW.region ?_
                    refine U rfl rfl (V (x_ld tsc39 rfl (S.load 2 rfl 0 rfl)) ?_)
                    refine U rfl rfl (V (x_movV (v := .int .i32 (runeAt x0 p7)) rfl) ?_)
                    refine U rfl rfl (V (x_bld tz51 tpl51 rfl (.one rfl PC.nil) rfl) ?_)
                    refine U rfl rfl (o_bsl tsl39 tz51 rfl rfl rfl rfl (.agg PC.nil) rfl S fun b56 w S => ?_)
                    obtain ⟨J57, hJ59, S, h58⟩ := S.freeze (r := R_regex_sign) (l := [(T_regex_sign.mk (runeAt x0 p7) 0 false)]) 0 rfl ⟨[.int .i32 (runeAt x0 p7), .int .u32 0, .bool false], _, rfl, rfl, rfl⟩ rfl rfl
                    have hy33_2 := hy33_2.mono hJ59
                    have hI := hI.trans hJ59
                    have hL13 := hL13.trans hJ59
                    have hG := hG.mono hJ59
                    obtain ⟨l60, h62, H⟩ := obx H
                    refine U rfl rfl (o_appD (r := R_regex_sign) tsl39 rfl tz51 rfl rfl S 4 rfl rfl hy33_2 h58 h62 fun v61 w J64 hJ65 S h63 => ?_)
                    have hy33_2 := hy33_2.mono hJ65
                    have h58 := h58.mono hJ65
                    have hI := hI.trans hJ65
                    have hL13 := hL13.trans hJ65
                    have hG := hG.mono hJ65
                    refine U rfl rfl (o_st tone39 S 3 rfl rfl rfl h63.one fun w S => ?_)
                    exact ⟨q12, Nat.le_refl _, (p7 + runeW x0 p7), y33.2.1, l60, v61, J64, H, (Nat.le_of_succ_le hq23), ⟨rfl, rfl, rfl, rfl, rfl, trivial⟩, hL13, (S.sel 6 [4, 5, 1, 3, 2] rfl), h63⟩
                  · rw [if_neg cc55] at H
                    refine FW.condF rfl (eqF cc55) ?_
                    refine FW.seq ?_
                    refine FW.region ?_
                    refine U rfl rfl (V (x_bin rfl rfl rfl) ?_)
                    refine U rfl rfl (V (x_asgV (v := .bool ((runeAt x0 p7) == 40)) rfl) ?_)
                    by_cases cc66 : (runeAt x0 p7) = 40
                    · rw [if_pos cc66] at H
                      refine FW.condT rfl (eqT cc66) ?_
                      refine FW.skip ?_
                      refine FW.condT rfl (eqT cc66) ?_
                      refine FW.region ?_
                      refine U rfl rfl (V (x_ld tsc39 rfl (S.load 2 rfl 0 rfl)) ?_)
                      refine U rfl rfl (V (x_movV (v := .int .i32 (runeAt x0 p7)) rfl) ?_)
                      refine U rfl rfl (V (x_bld tz51 tpl51 rfl (.one rfl PC.nil) rfl) ?_)
                      refine U rfl rfl (o_bsl tsl39 tz51 rfl rfl rfl rfl (.agg PC.nil) rfl S fun b67 w S => ?_)
                      obtain ⟨J68, hJ70, S, h69⟩ := S.freeze (r := R_regex_sign) (l := [(T_regex_sign.mk (runeAt x0 p7) 0 false)]) 0 rfl ⟨[.int .i32 (runeAt x0 p7), .int .u32 0, .bool false], _, rfl, rfl, rfl⟩ rfl rfl
                      have hy33_2 := hy33_2.mono hJ70
                      have hI := hI.trans hJ70
                      have hL13 := hL13.trans hJ70
                      have hG := hG.mono hJ70
                      obtain ⟨l71, h73, H⟩ := obx H
                      refine U rfl rfl (o_appD (r := R_regex_sign) tsl39 rfl tz51 rfl rfl S 4 rfl rfl hy33_2 h69 h73 fun v72 w J75 hJ76 S h74 => ?_)
                      have hy33_2 := hy33_2.mono hJ76
                      have h69 := h69.mono hJ76
                      have hI := hI.trans hJ76
                      have hL13 := hL13.trans hJ76
                      have hG := hG.mono hJ76
                      refine U rfl rfl (o_st tone39 S 3 rfl rfl rfl h74.one fun w S => ?_)
                      exact ⟨q12, Nat.le_refl _, (p7 + runeW x0 p7), y33.2.1, l71, v72, J75, H, (Nat.le_of_succ_le hq23), ⟨rfl, rfl, rfl, rfl, rfl, trivial⟩, hL13, (S.sel 6 [4, 5, 1, 3, 2] rfl), h74⟩
                    · rw [if_neg cc66] at H
                      refine FW.condF rfl (eqF cc66) ?_
                      refine FW.seq ?_
                      refine FW.region ?_
                      refine U rfl rfl (V (x_bin rfl rfl rfl) ?_)
                      refine U rfl rfl (V (x_asgV (v := .bool ((runeAt x0 p7) == 41)) rfl) ?_)
                      by_cases cc77 : (runeAt x0 p7) = 41
                      · rw [if_pos cc77] at H
                        refine FW.condT rfl (eqT cc77) ?_
                        refine FW.skip ?_
                        refine FW.condT rfl (eqT cc77) ?_
                        refine FW.region ?_
                        refine U rfl rfl (V (x_ld tsc39 rfl (S.load 2 rfl 0 rfl)) ?_)
                        refine U rfl rfl (V (x_movV (v := .int .i32 (runeAt x0 p7)) rfl) ?_)
                        refine U rfl rfl (V (x_bld tz51 tpl51 rfl (.one rfl PC.nil) rfl) ?_)
                        refine U rfl rfl (o_bsl tsl39 tz51 rfl rfl rfl rfl (.agg PC.nil) rfl S fun b78 w S => ?_)
                        obtain ⟨J79, hJ81, S, h80⟩ := S.freeze (r := R_regex_sign) (l := [(T_regex_sign.mk (runeAt x0 p7) 0 false)]) 0 rfl ⟨[.int .i32 (runeAt x0 p7), .int .u32 0, .bool false], _, rfl, rfl, rfl⟩ rfl rfl
                        have hy33_2 := hy33_2.mono hJ81
                        have hI := hI.trans hJ81
                        have hL13 := hL13.trans hJ81
                        have hG := hG.mono hJ81
                        obtain ⟨l82, h84, H⟩ := obx H
                        refine U rfl rfl (o_appD (r := R_regex_sign) tsl39 rfl tz51 rfl rfl S 4 rfl rfl hy33_2 h80 h84 fun v83 w J86 hJ87 S h85 => ?_)
                        have hy33_2 := hy33_2.mono hJ87
                        have h80 := h80.mono hJ87
                        have hI := hI.trans hJ87
                        have hL13 := hL13.trans hJ87
                        have hG := hG.mono hJ87
                        refine U rfl rfl (o_st tone39 S 3 rfl rfl rfl h85.one fun w S => ?_)
                        exact ⟨q12, Nat.le_refl _, (p7 + runeW x0 p7), y33.2.1, l82, v83, J86, H, (Nat.le_of_succ_le hq23), ⟨rfl, rfl, rfl, rfl, rfl, trivial⟩, hL13, (S.sel 6 [4, 5, 1, 3, 2] rfl), h85⟩
                      · rw [if_neg cc77] at H
                        refine FW.condF rfl (eqF cc77) ?_
                        refine FW.seq ?_
                        refine FW.region ?_
                        refine U rfl rfl (V (x_bin rfl rfl rfl) ?_)
                        refine U rfl rfl (V (x_asgV (v := .bool ((runeAt x0 p7) == 91)) rfl) ?_)
                        by_cases cc88 : (runeAt x0 p7) = 91
                        · rw [if_pos cc88] at H
                          refine FW.condT rfl (eqT cc88) ?_
                          refine FW.skip ?_
                          refine FW.condT rfl (eqT cc88) ?_
                          refine FW.anew [(1, .pointer (some ⟨b1, 0, none⟩)), (4, .pointer (some ⟨b2, 0, none⟩)), (5, .pointer (some ⟨b3, 0, none⟩)), (6, .func (.func 26) #[] #[.pointer (some ⟨b3, 0, none⟩), .pointer (some ⟨b1, 0, none⟩), .pointer (some ⟨b2, 0, none⟩)]), (8, .int .i32 (runeAt x0 p7)), (13, .pointer (some ⟨b4, 0, none⟩))] ⟨rfl, rfl, rfl, rfl, rfl, rfl, trivial⟩ fun σ => ?_
                          refine FW.region ?_
                          refine U rfl rfl (V (x_ld tsc39 rfl (S.load 2 rfl 0 rfl)) ?_)
                          refine U rfl rfl (V (x_movV (v := .int .i32 (runeAt x0 p7)) rfl) ?_)
                          refine U rfl rfl (V (x_bld tz51 tpl51 rfl (.one rfl PC.nil) rfl) ?_)
                          refine U rfl rfl (o_bsl tsl39 tz51 rfl rfl rfl rfl (.agg PC.nil) rfl S fun b89 w S => ?_)
                          obtain ⟨J90, hJ92, S, h91⟩ := S.freeze (r := R_regex_sign) (l := [(T_regex_sign.mk (runeAt x0 p7) 0 false)]) 0 rfl ⟨[.int .i32 (runeAt x0 p7), .int .u32 0, .bool false], _, rfl, rfl, rfl⟩ rfl rfl
                          have hy33_2 := hy33_2.mono hJ92
                          have hI := hI.trans hJ92
                          have hL13 := hL13.trans hJ92
                          have hG := hG.mono hJ92
                          obtain ⟨l93, h95, H⟩ := obx H
                          refine U rfl rfl (o_appD (r := R_regex_sign) tsl39 rfl tz51 rfl rfl S 4 rfl rfl hy33_2 h91 h95 fun v94 w J97 hJ98 S h96 => ?_)
                          have hy33_2 := hy33_2.mono hJ98
                          have h91 := h91.mono hJ98
                          have hI := hI.trans hJ98
                          have hL13 := hL13.trans hJ98
                          have hG := hG.mono hJ98
                          refine U rfl rfl (o_st tone39 S 3 rfl rfl rfl h96.one fun w S => ?_)
                          exact ⟨q12, Nat.le_refl _, (p7 + runeW x0 p7), y33.2.1, l93, v94, J97, H, (Nat.le_of_succ_le hq23), ⟨rfl, rfl, rfl, rfl, rfl, trivial⟩, hL13, (S.sel 6 [4, 5, 1, 3, 2] rfl), h96⟩
                        · rw [if_neg cc88] at H
                          refine FW.condF rfl (eqF cc88) ?_
                          refine FW.seq ?_
                          refine FW.anew [(1, .pointer (some ⟨b1, 0, none⟩)), (4, .pointer (some ⟨b2, 0, none⟩)), (5, .pointer (some ⟨b3, 0, none⟩)), (6, .func (.func 26) #[] #[.pointer (some ⟨b3, 0, none⟩), .pointer (some ⟨b1, 0, none⟩), .pointer (some ⟨b2, 0, none⟩)]), (8, .int .i32 (runeAt x0 p7)), (13, .pointer (some ⟨b4, 0, none⟩)), (31, .int .i32 (runeAt x0 p7))] ⟨rfl, rfl, rfl, rfl, rfl, rfl, rfl, trivial⟩ fun σ => ?_
                          refine FW.region ?_
                          refine U rfl rfl (V (x_bin rfl rfl rfl) ?_)
                          refine U rfl rfl (V (x_asgV (v := .bool ((runeAt x0 p7) == 93)) rfl) ?_)
                          by_cases cc99 : (runeAt x0 p7) = 93
                          · rw [if_pos cc99] at H
                            refine FW.condT rfl (eqT cc99) ?_
                            refine FW.skip ?_
                            refine FW.condT rfl (eqT cc99) ?_
                            refine FW.region ?_
                            refine U rfl rfl (V (x_ld tsc39 rfl (S.load 2 rfl 0 rfl)) ?_)
                            refine U rfl rfl (V (x_movV (v := .int .i32 (runeAt x0 p7)) rfl) ?_)
                            refine U rfl rfl (V (x_bld tz51 tpl51 rfl (.one rfl PC.nil) rfl) ?_)
                            refine U rfl rfl (o_bsl tsl39 tz51 rfl rfl rfl rfl (.agg PC.nil) rfl S fun b100 w S => ?_)
                            obtain ⟨J101, hJ103, S, h102⟩ := S.freeze (r := R_regex_sign) (l := [(T_regex_sign.mk (runeAt x0 p7) 0 false)]) 0 rfl ⟨[.int .i32 (runeAt x0 p7), .int .u32 0, .bool false], _, rfl, rfl, rfl⟩ rfl rfl
                            have hy33_2 := hy33_2.mono hJ103
                            have hI := hI.trans hJ103
                            have hL13 := hL13.trans hJ103
                            have hG := hG.mono hJ103
                            obtain ⟨l104, h106, H⟩ := obx H
                            refine U rfl rfl (o_appD (r := R_regex_sign) tsl39 rfl tz51 rfl rfl S 4 rfl rfl hy33_2 h102 h106 fun v105 w J108 hJ109 S h107 => ?_)
                            have hy33_2 := hy33_2.mono hJ109
                            have h102 := h102.mono hJ109
                            have hI := hI.trans hJ109
                            have hL13 := hL13.trans hJ109
                            have hG := hG.mono hJ109
                            refine U rfl rfl (o_st tone39 S 3 rfl rfl rfl h107.one fun w S => ?_)
                            exact ⟨q12, Nat.le_refl _, (p7 + runeW x0 p7), y33.2.1, l104, v105, J108, H, (Nat.le_of_succ_le hq23), ⟨rfl, rfl, rfl, rfl, rfl, trivial⟩, hL13, (S.sel 6 [4, 5, 1, 3, 2] rfl), h107⟩
                          · rw [if_neg cc99] at H
                            refine FW.condF rfl (eqF cc99) ?_
                            refine FW.seq ?_
                            refine FW.region ?_
                            refine U rfl rfl (V (x_bin rfl rfl rfl) ?_)
                            refine U rfl rfl (V (x_asgV (v := .bool ((runeAt x0 p7) == 94)) rfl) ?_)
                            by_cases cc110 : (runeAt x0 p7) = 94
                            · rw [if_pos cc110] at H
                              refine FW.condT rfl (eqT cc110) ?_
                              refine FW.skip ?_
                              refine FW.condT rfl (eqT cc110) ?_
                              refine FW.region ?_
                              refine U rfl rfl (V (x_ld tsc39 rfl (S.load 2 rfl 0 rfl)) ?_)
                              refine U rfl rfl (V (x_movV (v := .int .i32 (runeAt x0 p7)) rfl) ?_)
                              refine U rfl rfl (V (x_bld tz51 tpl51 rfl (.one rfl PC.nil) rfl) ?_)
                              refine U rfl rfl (o_bsl tsl39 tz51 rfl rfl rfl rfl (.agg PC.nil) rfl S fun b111 w S => ?_)
                              obtain ⟨J112, hJ114, S, h113⟩ := S.freeze (r := R_regex_sign) (l := [(T_regex_sign.mk (runeAt x0 p7) 0 false)]) 0 rfl ⟨[.int .i32 (runeAt x0 p7), .int .u32 0, .bool false], _, rfl, rfl, rfl⟩ rfl rfl
                              have hy33_2 := hy33_2.mono hJ114
                              have hI := hI.trans hJ114
                              have hL13 := hL13.trans hJ114
                              have hG := hG.mono hJ114
                              obtain ⟨l115, h117, H⟩ := obx H
                              refine U rfl rfl (o_appD (r := R_regex_sign) tsl39 rfl tz51 rfl rfl S 4 rfl rfl hy33_2 h113 h117 fun v116 w J119 hJ120 S h118 => ?_)
                              have hy33_2 := hy33_2.mono hJ120
                              have h113 := h113.mono hJ120
                              have hI := hI.trans hJ120
                              have hL13 := hL13.trans hJ120
                              have hG := hG.mono hJ120
                              refine U rfl rfl (o_st tone39 S 3 rfl rfl rfl h118.one fun w S => ?_)
                              exact ⟨q12, Nat.le_refl _, (p7 + runeW x0 p7), y33.2.1, l115, v116, J119, H, (Nat.le_of_succ_le hq23), ⟨rfl, rfl, rfl, rfl, rfl, trivial⟩, hL13, (S.sel 6 [4, 5, 1, 3, 2] rfl), h118⟩
                            · rw [if_neg cc110] at H
                              refine FW.condF rfl (eqF cc110) ?_
                              refine FW.seq ?_
                              refine FW.region ?_
                              refine U rfl rfl (V (x_bin rfl rfl rfl) ?_)
                              refine U rfl rfl (V (x_asgV (v := .bool ((runeAt x0 p7) == 36)) rfl) ?_)
                              by_cases cc121 : (runeAt x0 p7) = 36
                              · rw [if_pos cc121] at H
                                refine FW.condT rfl (eqT cc121) ?_
                                refine FW.skip ?_
                                refine FW.condT rfl (eqT cc121) ?_
                                refine FW.region ?_
                                refine U rfl rfl (V (x_ld tsc39 rfl (S.load 2 rfl 0 rfl)) ?_)
                                refine U rfl rfl (V (x_movV (v := .int .i32 (runeAt x0 p7)) rfl) ?_)
                                refine U rfl rfl (V (x_bld tz51 tpl51 rfl (.one rfl PC.nil) rfl) ?_)
                                refine U rfl rfl (o_bsl tsl39 tz51 rfl rfl rfl rfl (.agg PC.nil) rfl S fun b122 w S => ?_)
                                obtain ⟨J123, hJ125, S, h124⟩ := S.freeze (r := R_regex_sign) (l := [(T_regex_sign.mk (runeAt x0 p7) 0 false)]) 0 rfl ⟨[.int .i32 (runeAt x0 p7), .int .u32 0, .bool false], _, rfl, rfl, rfl⟩ rfl rfl
                                have hy33_2 := hy33_2.mono hJ125
                                have hI := hI.trans hJ125
                                have hL13 := hL13.trans hJ125
                                have hG := hG.mono hJ125
                                obtain ⟨l126, h128, H⟩ := obx H
                                refine U rfl rfl (o_appD (r := R_regex_sign) tsl39 rfl tz51 rfl rfl S 4 rfl rfl hy33_2 h124 h128 fun v127 w J130 hJ131 S h129 => ?_)
                                have hy33_2 := hy33_2.mono hJ131
                                have h124 := h124.mono hJ131
                                have hI := hI.trans hJ131
                                have hL13 := hL13.trans hJ131
                                have hG := hG.mono hJ131
                                refine U rfl rfl (o_st tone39 S 3 rfl rfl rfl h129.one fun w S => ?_)
                                exact ⟨q12, Nat.le_refl _, (p7 + runeW x0 p7), y33.2.1, l126, v127, J130, H, (Nat.le_of_succ_le hq23), ⟨rfl, rfl, rfl, rfl, rfl, trivial⟩, hL13, (S.sel 6 [4, 5, 1, 3, 2] rfl), h129⟩
                              · rw [if_neg cc121] at H
                                refine FW.condF rfl (eqF cc121) ?_
                                refine FW.seq ?_
                                refine FW.region ?_
                                refine U rfl rfl (V (x_bin rfl rfl rfl) ?_)
                                refine U rfl rfl (V (x_asgV (v := .bool ((runeAt x0 p7) == 46)) rfl) ?_)
                                by_cases cc132 : (runeAt x0 p7) = 46
                                · rw [if_pos cc132] at H
                                  refine FW.condT rfl (eqT cc132) ?_
                                  refine FW.skip ?_
                                  refine FW.condT rfl (eqT cc132) ?_
                                  refine FW.anew [(1, .pointer (some ⟨b1, 0, none⟩)), (4, .pointer (some ⟨b2, 0, none⟩)), (5, .pointer (some ⟨b3, 0, none⟩)), (6, .func (.func 26) #[] #[.pointer (some ⟨b3, 0, none⟩), .pointer (some ⟨b1, 0, none⟩), .pointer (some ⟨b2, 0, none⟩)]), (8, .int .i32 (runeAt x0 p7)), (13, .pointer (some ⟨b4, 0, none⟩))] ⟨rfl, rfl, rfl, rfl, rfl, rfl, trivial⟩ fun σ => ?_
                                  refine FW.region ?_
                                  refine U rfl rfl (V (x_ld tsc39 rfl (S.load 2 rfl 0 rfl)) ?_)
                                  refine U rfl rfl (V (x_movV (v := .int .i32 (runeAt x0 p7)) rfl) ?_)
                                  refine U rfl rfl (V (x_bld tz51 tpl51 rfl (.one rfl PC.nil) rfl) ?_)
                                  refine U rfl rfl (o_bsl tsl39 tz51 rfl rfl rfl rfl (.agg PC.nil) rfl S fun b133 w S => ?_)
                                  obtain ⟨J134, hJ136, S, h135⟩ := S.freeze (r := R_regex_sign) (l := [(T_regex_sign.mk (runeAt x0 p7) 0 false)]) 0 rfl ⟨[.int .i32 (runeAt x0 p7), .int .u32 0, .bool false], _, rfl, rfl, rfl⟩ rfl rfl
                                  have hy33_2 := hy33_2.mono hJ136
                                  have hI := hI.trans hJ136
                                  have hL13 := hL13.trans hJ136
                                  have hG := hG.mono hJ136
                                  obtain ⟨l137, h139, H⟩ := obx H
                                  refine U rfl rfl (o_appD (r := R_regex_sign) tsl39 rfl tz51 rfl rfl S 4 rfl rfl hy33_2 h135 h139 fun v138 w J141 hJ142 S h140 => ?_)
                                  have hy33_2 := hy33_2.mono hJ142
                                  have h135 := h135.mono hJ142
                                  have hI := hI.trans hJ142
                                  have hL13 := hL13.trans hJ142
                                  have hG := hG.mono hJ142
                                  refine U rfl rfl (o_st tone39 S 3 rfl rfl rfl h140.one fun w S => ?_)
                                  exact ⟨q12, Nat.le_refl _, (p7 + runeW x0 p7), y33.2.1, l137, v138, J141, H, (Nat.le_of_succ_le hq23), ⟨rfl, rfl, rfl, rfl, rfl, trivial⟩, hL13, (S.sel 6 [4, 5, 1, 3, 2] rfl), h140⟩
                                · rw [if_neg cc132] at H
                                  refine FW.condF rfl (eqF cc132) ?_
                                  refine FW.seq ?_
                                  refine FW.anew [(1, .pointer (some ⟨b1, 0, none⟩)), (4, .pointer (some ⟨b2, 0, none⟩)), (5, .pointer (some ⟨b3, 0, none⟩)), (6, .func (.func 26) #[] #[.pointer (some ⟨b3, 0, none⟩), .pointer (some ⟨b1, 0, none⟩), .pointer (some ⟨b2, 0, none⟩)]), (8, .int .i32 (runeAt x0 p7)), (13, .pointer (some ⟨b4, 0, none⟩)), (31, .int .i32 (runeAt x0 p7))] ⟨rfl, rfl, rfl, rfl, rfl, rfl, rfl, trivial⟩ fun σ => ?_
                                  refine FW.region ?_
                                  refine U rfl rfl (V (x_bin rfl rfl rfl) ?_)
                                  refine U rfl rfl (V (x_asgV (v := .bool ((runeAt x0 p7) == 42)) rfl) ?_)
                                  by_cases cc143 : (runeAt x0 p7) = 42
                                  · rw [if_pos cc143] at H
                                    refine FW.condT rfl (eqT cc143) ?_
                                    refine FW.skip ?_
                                    refine FW.condT rfl (eqT cc143) ?_
                                    refine FW.region ?_
                                    refine U rfl rfl (V (x_ld tsc39 rfl (S.load 2 rfl 0 rfl)) ?_)
                                    refine U rfl rfl (V (x_movV (v := .int .i32 (runeAt x0 p7)) rfl) ?_)
                                    refine U rfl rfl (V (x_bld tz51 tpl51 rfl (.one rfl PC.nil) rfl) ?_)
                                    refine U rfl rfl (o_bsl tsl39 tz51 rfl rfl rfl rfl (.agg PC.nil) rfl S fun b144 w S => ?_)
                                    obtain ⟨J145, hJ147, S, h146⟩ := S.freeze (r := R_regex_sign) (l := [(T_regex_sign.mk (runeAt x0 p7) 0 false)]) 0 rfl ⟨[.int .i32 (runeAt x0 p7), .int .u32 0, .bool false], _, rfl, rfl, rfl⟩ rfl rfl
                                    have hy33_2 := hy33_2.mono hJ147
                                    have hI := hI.trans hJ147
                                    have hL13 := hL13.trans hJ147
                                    have hG := hG.mono hJ147
                                    obtain ⟨l148, h150, H⟩ := obx H
                                    refine U rfl rfl (o_appD (r := R_regex_sign) tsl39 rfl tz51 rfl rfl S 4 rfl rfl hy33_2 h146 h150 fun v149 w J152 hJ153 S h151 => ?_)
                                    have hy33_2 := hy33_2.mono hJ153
                                    have h146 := h146.mono hJ153
                                    have hI := hI.trans hJ153
                                    have hL13 := hL13.trans hJ153
                                    have hG := hG.mono hJ153
                                    refine U rfl rfl (o_st tone39 S 3 rfl rfl rfl h151.one fun w S => ?_)
                                    exact ⟨q12, Nat.le_refl _, (p7 + runeW x0 p7), y33.2.1, l148, v149, J152, H, (Nat.le_of_succ_le hq23), ⟨rfl, rfl, rfl, rfl, rfl, trivial⟩, hL13, (S.sel 6 [4, 5, 1, 3, 2] rfl), h151⟩
                                  · rw [if_neg cc143] at H
                                    refine FW.condF rfl (eqF cc143) ?_
                                    refine FW.seq ?_
                                    refine FW.region ?_
                                    refine U rfl rfl (V (x_bin rfl rfl rfl) ?_)
                                    refine U rfl rfl (V (x_asgV (v := .bool ((runeAt x0 p7) == 43)) rfl) ?_)
                                    by_cases cc154 : (runeAt x0 p7) = 43
                                    · rw [if_pos cc154] at H
                                      refine FW.condT rfl (eqT cc154) ?_
                                      refine FW.skip ?_
                                      refine FW.condT rfl (eqT cc154) ?_
                                      refine FW.region ?_
                                      refine U rfl rfl (V (x_ld tsc39 rfl (S.load 2 rfl 0 rfl)) ?_)
                                      refine U rfl rfl (V (x_movV (v := .int .i32 (runeAt x0 p7)) rfl) ?_)
                                      refine U rfl rfl (V (x_bld tz51 tpl51 rfl (.one rfl PC.nil) rfl) ?_)
                                      refine U rfl rfl (o_bsl tsl39 tz51 rfl rfl rfl rfl (.agg PC.nil) rfl S fun b155 w S => ?_)
                                      obtain ⟨J156, hJ158, S, h157⟩ := S.freeze (r := R_regex_sign) (l := [(T_regex_sign.mk (runeAt x0 p7) 0 false)]) 0 rfl ⟨[.int .i32 (runeAt x0 p7), .int .u32 0, .bool false], _, rfl, rfl, rfl⟩ rfl rfl
                                      have hy33_2 := hy33_2.mono hJ158
                                      have hI := hI.trans hJ158
                                      have hL13 := hL13.trans hJ158
                                      have hG := hG.mono hJ158
                                      obtain ⟨l159, h161, H⟩ := obx H
                                      refine U rfl rfl (o_appD (r := R_regex_sign) tsl39 rfl tz51 rfl rfl S 4 rfl rfl hy33_2 h157 h161 fun v160 w J163 hJ164 S h162 => ?_)
                                      have hy33_2 := hy33_2.mono hJ164
                                      have h157 := h157.mono hJ164
                                      have hI := hI.trans hJ164
                                      have hL13 := hL13.trans hJ164
                                      have hG := hG.mono hJ164
                                      refine U rfl rfl (o_st tone39 S 3 rfl rfl rfl h162.one fun w S => ?_)
                                      exact ⟨q12, Nat.le_refl _, (p7 + runeW x0 p7), y33.2.1, l159, v160, J163, H, (Nat.le_of_succ_le hq23), ⟨rfl, rfl, rfl, rfl, rfl, trivial⟩, hL13, (S.sel 6 [4, 5, 1, 3, 2] rfl), h162⟩
                                    · rw [if_neg cc154] at H
                                      refine FW.condF rfl (eqF cc154) ?_
                                      refine FW.seq ?_
                                      refine FW.region ?_
                                      refine U rfl rfl (V (x_bin rfl rfl rfl) ?_)
                                      refine U rfl rfl (V (x_asgV (v := .bool ((runeAt x0 p7) == 63)) rfl) ?_)
                                      by_cases cc165 : (runeAt x0 p7) = 63
                                      · rw [if_pos cc165] at H
                                        refine FW.condT rfl (eqT cc165) ?_
                                        refine FW.skip ?_
                                        refine FW.condT rfl (eqT cc165) ?_
                                        refine FW.region ?_
                                        refine U rfl rfl (V (x_ld tsc39 rfl (S.load 2 rfl 0 rfl)) ?_)
                                        refine U rfl rfl (V (x_movV (v := .int .i32 (runeAt x0 p7)) rfl) ?_)
                                        refine U rfl rfl (V (x_bld tz51 tpl51 rfl (.one rfl PC.nil) rfl) ?_)
                                        refine U rfl rfl (o_bsl tsl39 tz51 rfl rfl rfl rfl (.agg PC.nil) rfl S fun b166 w S => ?_)
                                        obtain ⟨J167, hJ169, S, h168⟩ := S.freeze (r := R_regex_sign) (l := [(T_regex_sign.mk (runeAt x0 p7) 0 false)]) 0 rfl ⟨[.int .i32 (runeAt x0 p7), .int .u32 0, .bool false], _, rfl, rfl, rfl⟩ rfl rfl
                                        have hy33_2 := hy33_2.mono hJ169
                                        have hI := hI.trans hJ169
                                        have hL13 := hL13.trans hJ169
                                        have hG := hG.mono hJ169
                                        obtain ⟨l170, h172, H⟩ := obx H
                                        refine U rfl rfl (o_appD (r := R_regex_sign) tsl39 rfl tz51 rfl rfl S 4 rfl rfl hy33_2 h168 h172 fun v171 w J174 hJ175 S h173 => ?_)
                                        have hy33_2 := hy33_2.mono hJ175
                                        have h168 := h168.mono hJ175
                                        have hI := hI.trans hJ175
                                        have hL13 := hL13.trans hJ175
                                        have hG := hG.mono hJ175
                                        refine U rfl rfl (o_st tone39 S 3 rfl rfl rfl h173.one fun w S => ?_)
                                        exact ⟨q12, Nat.le_refl _, (p7 + runeW x0 p7), y33.2.1, l170, v171, J174, H, (Nat.le_of_succ_le hq23), ⟨rfl, rfl, rfl, rfl, rfl, trivial⟩, hL13, (S.sel 6 [4, 5, 1, 3, 2] rfl), h173⟩
                                      · rw [if_neg cc165] at H
                                        refine FW.condF rfl (eqF cc165) ?_
                                        refine FW.seq ?_
                                        refine FW.region ?_
                                        refine U rfl rfl (V (x_bin rfl rfl rfl) ?_)
                                        refine U rfl rfl (V (x_asgV (v := .bool ((runeAt x0 p7) == 45)) rfl) ?_)
                                        by_cases cc176 : (runeAt x0 p7) = 45
                                        · rw [if_pos cc176] at H
                                          refine FW.condT rfl (eqT cc176) ?_
                                          refine FW.skip ?_
                                          refine FW.condT rfl (eqT cc176) ?_
                                          refine FW.anew [(1, .pointer (some ⟨b1, 0, none⟩)), (4, .pointer (some ⟨b2, 0, none⟩)), (5, .pointer (some ⟨b3, 0, none⟩)), (6, .func (.func 26) #[] #[.pointer (some ⟨b3, 0, none⟩), .pointer (some ⟨b1, 0, none⟩), .pointer (some ⟨b2, 0, none⟩)]), (8, .int .i32 (runeAt x0 p7)), (13, .pointer (some ⟨b4, 0, none⟩))] ⟨rfl, rfl, rfl, rfl, rfl, rfl, trivial⟩ fun σ => ?_
                                          refine FW.region ?_
                                          refine U rfl rfl (V (x_ld tsc39 rfl (S.load 2 rfl 0 rfl)) ?_)
                                          refine U rfl rfl (V (x_movV (v := .int .i32 (runeAt x0 p7)) rfl) ?_)
                                          refine U rfl rfl (V (x_bld tz51 tpl51 rfl (.one rfl PC.nil) rfl) ?_)
                                          refine U rfl rfl (o_bsl tsl39 tz51 rfl rfl rfl rfl (.agg PC.nil) rfl S fun b177 w S => ?_)
                                          obtain ⟨J178, hJ180, S, h179⟩ := S.freeze (r := R_regex_sign) (l := [(T_regex_sign.mk (runeAt x0 p7) 0 false)]) 0 rfl ⟨[.int .i32 (runeAt x0 p7), .int .u32 0, .bool false], _, rfl, rfl, rfl⟩ rfl rfl
                                          have hy33_2 := hy33_2.mono hJ180
                                          have hI := hI.trans hJ180
                                          have hL13 := hL13.trans hJ180
                                          have hG := hG.mono hJ180
                                          obtain ⟨l181, h183, H⟩ := obx H
                                          refine U rfl rfl (o_appD (r := R_regex_sign) tsl39 rfl tz51 rfl rfl S 4 rfl rfl hy33_2 h179 h183 fun v182 w J185 hJ186 S h184 => ?_)
                                          have hy33_2 := hy33_2.mono hJ186
                                          have h179 := h179.mono hJ186
                                          have hI := hI.trans hJ186
                                          have hL13 := hL13.trans hJ186
                                          have hG := hG.mono hJ186
                                          refine U rfl rfl (o_st tone39 S 3 rfl rfl rfl h184.one fun w S => ?_)
                                          exact ⟨q12, Nat.le_refl _, (p7 + runeW x0 p7), y33.2.1, l181, v182, J185, H, (Nat.le_of_succ_le hq23), ⟨rfl, rfl, rfl, rfl, rfl, trivial⟩, hL13, (S.sel 6 [4, 5, 1, 3, 2] rfl), h184⟩
                                        · rw [if_neg cc176] at H
                                          refine FW.condF rfl (eqF cc176) ?_
                                          refine FW.anew [(1, .pointer (some ⟨b1, 0, none⟩)), (4, .pointer (some ⟨b2, 0, none⟩)), (5, .pointer (some ⟨b3, 0, none⟩)), (6, .func (.func 26) #[] #[.pointer (some ⟨b3, 0, none⟩), .pointer (some ⟨b1, 0, none⟩), .pointer (some ⟨b2, 0, none⟩)]), (8, .int .i32 (runeAt x0 p7)), (13, .pointer (some ⟨b4, 0, none⟩)), (31, .int .i32 (runeAt x0 p7))] ⟨rfl, rfl, rfl, rfl, rfl, rfl, rfl, trivial⟩ fun σ => ?_
                                          refine FW.region ?_
                                          refine U rfl rfl (V (x_bin rfl rfl rfl) ?_)
                                          refine U rfl rfl (V (x_asgV (v := .bool ((runeAt x0 p7) == 44)) rfl) ?_)
                                          by_cases cc187 : (runeAt x0 p7) = 44
                                          · rw [if_pos cc187] at H
                                            refine FW.condT rfl (eqT cc187) ?_
                                            refine FW.region ?_
                                            refine U rfl rfl (V (x_ld tsc39 rfl (S.load 2 rfl 0 rfl)) ?_)
                                            refine U rfl rfl (V (x_movV (v := .int .i32 (runeAt x0 p7)) rfl) ?_)
                                            refine U rfl rfl (V (x_bld tz51 tpl51 rfl (.one rfl PC.nil) rfl) ?_)
                                            refine U rfl rfl (o_bsl tsl39 tz51 rfl rfl rfl rfl (.agg PC.nil) rfl S fun b188 w S => ?_)
                                            obtain ⟨J189, hJ191, S, h190⟩ := S.freeze (r := R_regex_sign) (l := [(T_regex_sign.mk (runeAt x0 p7) 0 false)]) 0 rfl ⟨[.int .i32 (runeAt x0 p7), .int .u32 0, .bool false], _, rfl, rfl, rfl⟩ rfl rfl
                                            have hy33_2 := hy33_2.mono hJ191
                                            have hI := hI.trans hJ191
                                            have hL13 := hL13.trans hJ191
                                            have hG := hG.mono hJ191
                                            obtain ⟨l192, h194, H⟩ := obx H
                                            refine U rfl rfl (o_appD (r := R_regex_sign) tsl39 rfl tz51 rfl rfl S 4 rfl rfl hy33_2 h190 h194 fun v193 w J196 hJ197 S h195 => ?_)
                                            have hy33_2 := hy33_2.mono hJ197
                                            have h190 := h190.mono hJ197
                                            have hI := hI.trans hJ197
                                            have hL13 := hL13.trans hJ197
                                            have hG := hG.mono hJ197
                                            refine U rfl rfl (o_st tone39 S 3 rfl rfl rfl h195.one fun w S => ?_)
                                            exact ⟨q12, Nat.le_refl _, (p7 + runeW x0 p7), y33.2.1, l192, v193, J196, H, (Nat.le_of_succ_le hq23), ⟨rfl, rfl, rfl, rfl, rfl, trivial⟩, hL13, (S.sel 6 [4, 5, 1, 3, 2] rfl), h195⟩
                                          · rw [if_neg cc187] at H
                                            refine FW.condF rfl (eqF cc187) ?_
                                            refine FW.seq ?_
                                            refine FW.region ?_
                                            refine U rfl rfl (V (x_asgV (v := (.slice none 0 0)) rfl) ?_)
                                            refine U rfl rfl (V (x_asgV (v := .bool false) rfl) ?_)
                                            refine FW.ret ?_
                                            have S := S.nil_tv 51 3
                                            obtain rfl := Option.some.inj H
                                            obtain rfl := Option.some.inj HO15
                                            exact ⟨_, ⟨_, rfl, ⟨_, rfl, rfl⟩⟩, ⟨(.slice none 0 0), J38, hI, rfl, (SlR.nil _ _), (S.sel 6 [0] rfl)⟩⟩
            · rw [if_neg cc37] at H
              refine FW.condT rfl (noT (vaF cc37)) ?_
              refine FW.seq ?_
              refine FW.region ?_
              refine U rfl rfl (V (x_asgV (v := (.slice none 0 0)) rfl) ?_)
              refine U rfl rfl (V (x_asgV (v := .bool false) rfl) ?_)
              refine FW.ret ?_
              have S := S.nil_tv 51 3
              obtain rfl := Option.some.inj H
              obtain rfl := Option.some.inj HO15
              exact ⟨_, ⟨_, rfl, ⟨_, rfl, rfl⟩⟩, ⟨(.slice none 0 0), J35, hI, rfl, (SlR.nil _ _), (S.sel 6 [0] rfl)⟩⟩
        · rw [if_neg cc25] at H
          refine OK.gf rfl rfl rfl (deF cc25) ?_
          refine OK.gf rfl rfl rfl (deF cc25) ?_
          refine U rfl rfl (V (x_pickFV (v := .bool false) rfl (deF cc25) rfl) ?_)
          refine FW.condF rfl rfl ?_
          refine FW.skip ?_
          refine FW.seq ?_
          refine FW.seq ?_
          refine FW.anew [(1, .pointer (some ⟨b1, 0, none⟩)), (4, .pointer (some ⟨b2, 0, none⟩)), (5, .pointer (some ⟨b3, 0, none⟩)), (6, .func (.func 26) #[] #[.pointer (some ⟨b3, 0, none⟩), .pointer (some ⟨b1, 0, none⟩), .pointer (some ⟨b2, 0, none⟩)]), (7, .int .i64 ((p7 : Nat) : Int)), (8, .int .i32 (runeAt x0 p7)), (13, .pointer (some ⟨b4, 0, none⟩))] ⟨rfl, rfl, rfl, rfl, rfl, rfl, rfl, trivial⟩ fun σ => ?_
          refine FW.region ?_
          refine U rfl rfl (V (x_movV (v := .func (.func 26) #[] #[.pointer (some ⟨b3, 0, none⟩), .pointer (some ⟨b1, 0, none⟩), .pointer (some ⟨b2, 0, none⟩)]) rfl) ?_)
          refine U rfl rfl (V (x_movV (v := .int .i64 ((p7 : Nat) : Int)) rfl) ?_)
          obtain ⟨y200, hy201, H⟩ := obx H
          refine U rfl rfl (clv rfl fb26 (@regex_signs_1.ok q12 ((p7 : Nat) : Int) n8 x0 l9 _ _ _ _ _ _ _ _ hG (S.sel 5 [2, 4, 3, 0, 1] rfl) h11 hy201) rfl ?_)
          rintro _ w ⟨vy200_2, J202, hJ203, rfl, hy200_2, S⟩
          have hI := hI.trans hJ203
          have hL13 := hL13.trans hJ203
          have hG := hG.mono hJ203
          refine U rfl rfl (V (x_not' rfl) ?_)
          by_cases cc204 : y200.1 = true
          · rw [if_pos cc204] at H
            refine FW.condF rfl (noF cc204) ?_
            refine FW.skip ?_
            refine FW.seq ?_
            refine FW.region ?_
            refine U rfl rfl (V (x_movV (v := .int .i32 (runeAt x0 p7)) rfl) ?_)
            refine FW.block ?_
            refine FW.seq ?_
            refine FW.seq ?_
            refine FW.region ?_
            refine U rfl rfl (V (x_bin rfl rfl rfl) ?_)
            refine U rfl rfl (V (x_asgV (v := .bool ((runeAt x0 p7) == 32)) rfl) ?_)
            obtain ⟨o207, H, HO208⟩ := obx H
            have hL209 := IMem.le.refl J202
            refine FW.cutN (fun σ w => ∃ (b206 : Bool) (J205 : IMem), b206 = o207 ∧ Has σ [(1, .pointer (some ⟨b1, 0, none⟩)), (4, .pointer (some ⟨b2, 0, none⟩)), (5, .pointer (some ⟨b3, 0, none⟩)), (6, .func (.func 26) #[] #[.pointer (some ⟨b3, 0, none⟩), .pointer (some ⟨b1, 0, none⟩), .pointer (some ⟨b2, 0, none⟩)]), (8, .int .i32 (runeAt x0 p7)), (13, .pointer (some ⟨b4, 0, none⟩)), (31, .int .i32 (runeAt x0 p7)), (32, .bool b206)] ∧ J202.le J205 ∧ Own J205 w (.bk b3 3 [.int .i64 y200.2.1] :: .bk b1 9 [.string x0] :: .bk b2 39 [vy200_2] :: .tv vy200_2 51 3 :: .ob b4 (.stringIter x0 (p7 + runeW x0 p7)) :: F)) ?_ ?_
            ·
              by_cases cc210 : (runeAt x0 p7) = 32
              · rw [if_pos cc210] at H
                refine FW.condT rfl (eqT cc210) ?_
                refine FW.skip ?_
                exact ⟨((runeAt x0 p7) == 32), J202, (Option.some.inj H), ⟨rfl, rfl, rfl, rfl, rfl, rfl, rfl, rfl, trivial⟩, hL209, S⟩
              · rw [if_neg cc210] at H
                refine FW.condF rfl (eqF cc210) ?_
                refine FW.anew [(1, .pointer (some ⟨b1, 0, none⟩)), (4, .pointer (some ⟨b2, 0, none⟩)), (5, .pointer (some ⟨b3, 0, none⟩)), (6, .func (.func 26) #[] #[.pointer (some ⟨b3, 0, none⟩), .pointer (some ⟨b1, 0, none⟩), .pointer (some ⟨b2, 0, none⟩)]), (8, .int .i32 (runeAt x0 p7)), (13, .pointer (some ⟨b4, 0, none⟩)), (31, .int .i32 (runeAt x0 p7))] ⟨rfl, rfl, rfl, rfl, rfl, rfl, rfl, trivial⟩ fun σ => ?_
                refine FW.region ?_
                refine U rfl rfl (V (x_bin rfl rfl rfl) ?_)
                refine U rfl rfl (V (x_asgV (v := .bool ((runeAt x0 p7) == 95)) rfl) ?_)
                exact ⟨((runeAt x0 p7) == 95), J202, (Option.some.inj H), ⟨rfl, rfl, rfl, rfl, rfl, rfl, rfl, rfl, trivial⟩, hL209, S⟩
            · rintro σ w ⟨b206, J205, ho, hσ, hL209, S⟩
              subst ho
              have H := HO208
              have hy200_2 := hy200_2.mono hL209
              have hI := hI.trans hL209
              have hL13 := hL13.trans hL209
              have hG := hG.mono hL209
              rw [hσ.eq]
              by_cases cc211 : b206 = true
              · rw [if_pos cc211] at H
                refine FW.condT rfl cc211 ?_
                refine FW.region ?_
                refine U rfl rfl (V (x_ld tsc39 rfl (S.load 2 rfl 0 rfl)) ?_)
                refine U rfl rfl (V (x_bld tz51 tpl51 rfl (.one rfl PC.nil) rfl) ?_)
                refine U rfl rfl (o_bsl tsl39 tz51 rfl rfl rfl rfl (.agg PC.nil) rfl S fun b212 w S => ?_)
                obtain ⟨J213, hJ215, S, h214⟩ := S.freeze (r := R_regex_sign) (l := [(T_regex_sign.mk 32 0 false)]) 0 rfl ⟨[.int .i32 32, .int .u32 0, .bool false], _, rfl, rfl, rfl⟩ rfl rfl
                have hy200_2 := hy200_2.mono hJ215
                have hI := hI.trans hJ215
                have hL13 := hL13.trans hJ215
                have hG := hG.mono hJ215
                obtain ⟨l216, h218, H⟩ := obx H
                refine U rfl rfl (o_appD (r := R_regex_sign) tsl39 rfl tz51 rfl rfl S 4 rfl rfl hy200_2 h214 h218 fun v217 w J220 hJ221 S h219 => ?_)
                have hy200_2 := hy200_2.mono hJ221
                have h214 := h214.mono hJ221
                have hI := hI.trans hJ221
                have hL13 := hL13.trans hJ221
                have hG := hG.mono hJ221
                refine U rfl rfl (o_st tone39 S 3 rfl rfl rfl h219.one fun w S => ?_)
                exact ⟨q12, Nat.le_refl _, (p7 + runeW x0 p7), y200.2.1, l216, v217, J220, H, (Nat.le_of_succ_le hq23), ⟨rfl, rfl, rfl, rfl, rfl, trivial⟩, hL13, (S.sel 6 [4, 5, 1, 3, 2] rfl), h219⟩
              · rw [if_neg cc211] at H
                refine FW.condF rfl (vaF cc211) ?_
                refine FW.seq ?_
                refine FW.seq ?_
                refine FW.region ?_
                refine U rfl rfl (V (x_bin rfl rfl rfl) ?_)
                refine U rfl rfl (V (x_asgV (v := .bool ((runeAt x0 p7) == 124)) rfl) ?_)
                by_cases cc222 : (runeAt x0 p7) = 124
                · rw [if_pos cc222] at H
                  refine FW.condT rfl (eqT cc222) ?_
                  refine FW.skip ?_
                  refine FW.condT rfl (eqT cc222) ?_
                  refine FW.region ?_
                  refine U rfl rfl (V (x_ld tsc39 rfl (S.load 2 rfl 0 rfl)) ?_)
                  refine U rfl rfl (V (x_movV (v := .int .i32 (runeAt x0 p7)) rfl) ?_)
                  refine U rfl rfl (V (x_bld tz51 tpl51 rfl (.one rfl PC.nil) rfl) ?_)
                  refine U rfl rfl (o_bsl tsl39 tz51 rfl rfl rfl rfl (.agg PC.nil) rfl S fun b223 w S => ?_)
                  obtain ⟨J224, hJ226, S, h225⟩ := S.freeze (r := R_regex_sign) (l := [(T_regex_sign.mk (runeAt x0 p7) 0 false)]) 0 rfl ⟨[.int .i32 (runeAt x0 p7), .int .u32 0, .bool false], _, rfl, rfl, rfl⟩ rfl rfl
                  have hy200_2 := hy200_2.mono hJ226
                  have hI := hI.trans hJ226
                  have hL13 := hL13.trans hJ226
                  have hG := hG.mono hJ226
                  obtain ⟨l227, h229, H⟩ := obx H
                  refine U rfl rfl (o_appD (r := R_regex_sign) tsl39 rfl tz51 rfl rfl S 4 rfl rfl hy200_2 h225 h229 fun v228 w J231 hJ232 S h230 => ?_)
                  have hy200_2 := hy200_2.mono hJ232
                  have h225 := h225.mono hJ232
                  have hI := hI.trans hJ232
                  have hL13 := hL13.trans hJ232
                  have hG := hG.mono hJ232
                  refine U rfl rfl (o_st tone39 S 3 rfl rfl rfl h230.one fun w S => ?_)
                  exact ⟨q12, Nat.le_refl _, (p7 + runeW x0 p7), y200.2.1, l227, v228, J231, H, (Nat.le_of_succ_le hq23), ⟨rfl, rfl, rfl, rfl, rfl, trivial⟩, hL13, (S.sel 6 [4, 5, 1, 3, 2] rfl), h230⟩
                · rw [if_neg cc222] at H
                  refine FW.condF rfl (eqF cc222) ?_
                  refine FW.seq ?_
                  refine FW.region ?_
                  refine U rfl rfl (V (x_bin rfl rfl rfl) ?_)
                  refine U rfl rfl (V (x_asgV (v := .bool ((runeAt x0 p7) == 40)) rfl) ?_)
                  by_cases cc233 : (runeAt x0 p7) = 40
                  · rw [if_pos cc233] at H
                    refine FW.condT rfl (eqT cc233) ?_
                    refine FW.skip ?_
                    refine FW.condT rfl (eqT cc233) ?_
                    refine FW.region ?_
                    refine U rfl rfl (V (x_ld tsc39 rfl (S.load 2 rfl 0 rfl)) ?_)
                    refine U rfl rfl (V (x_movV (v := .int .i32 (runeAt x0 p7)) rfl) ?_)
                    refine U rfl rfl (V (x_bld tz51 tpl51 rfl (.one rfl PC.nil) rfl) ?_)
                    refine U rfl rfl (o_bsl tsl39 tz51 rfl rfl rfl rfl (.agg PC.nil) rfl S fun b234 w S => ?_)
                    obtain ⟨J235, hJ237, S, h236⟩ := S.freeze (r := R_regex_sign) (l := [(T_regex_sign.mk (runeAt x0 p7) 0 false)]) 0 rfl ⟨[.int .i32 (runeAt x0 p7), .int .u32 0, .bool false], _, rfl, rfl, rfl⟩ rfl rfl
                    have hy200_2 := hy200_2.mono hJ237
                    have hI := hI.trans hJ237
                    have hL13 := hL13.trans hJ237
                    have hG := hG.mono hJ237
                    obtain ⟨l238, h240, H⟩ := obx H
                    refine U rfl rfl (o_appD (r := R_regex_sign) tsl39 rfl tz51 rfl rfl S 4 rfl rfl hy200_2 h236 h240 fun v239 w J242 hJ243 S h241 => ?_)
                    have hy200_2 := hy200_2.mono hJ243
                    have h236 := h236.mono hJ243
                    have hI := hI.trans hJ243
                    have hL13 := hL13.trans hJ243
                    have hG := hG.mono hJ243
                    refine U rfl rfl (o_st tone39 S 3 rfl rfl rfl h241.one fun w S => ?_)
                    exact ⟨q12, Nat.le_refl _, (p7 + runeW x0 p7), y200.2.1, l238, v239, J242, H, (Nat.le_of_succ_le hq23), ⟨rfl, rfl, rfl, rfl, rfl, trivial⟩, hL13, (S.sel 6 [4, 5, 1, 3, 2] rfl), h241⟩
                  · rw [if_neg cc233] at H
                    refine FW.condF rfl (eqF cc233) ?_
                    refine FW.seq ?_
                    refine FW.region ?_
                    refine U rfl rfl (V (x_bin rfl rfl rfl) ?_)
                    refine U rfl rfl (V (x_asgV (v := .bool ((runeAt x0 p7) == 41)) rfl) ?_)
                    by_cases cc244 : (runeAt x0 p7) = 41
                    · rw [if_pos cc244] at H
                      refine FW.condT rfl (eqT cc244) ?_
                      refine FW.skip ?_
                      refine FW.condT rfl (eqT cc244) ?_
                      refine FW.region ?_
                      refine U rfl rfl (V (x_ld tsc39 rfl (S.load 2 rfl 0 rfl)) ?_)
                      refine U rfl rfl (V (x_movV (v := .int .i32 (runeAt x0 p7)) rfl) ?_)
                      refine U rfl rfl (V (x_bld tz51 tpl51 rfl (.one rfl PC.nil) rfl) ?_)
                      refine U rfl rfl (o_bsl tsl39 tz51 rfl rfl rfl rfl (.agg PC.nil) rfl S fun b245 w S => ?_)
                      obtain ⟨J246, hJ248, S, h247⟩ := S.freeze (r := R_regex_sign) (l := [(T_regex_sign.mk (runeAt x0 p7) 0 false)]) 0 rfl ⟨[.int .i32 (runeAt x0 p7), .int .u32 0, .bool false], _, rfl, rfl, rfl⟩ rfl rfl
                      have hy200_2 := hy200_2.mono hJ248
                      have hI := hI.trans hJ248
                      have hL13 := hL13.trans hJ248
                      have hG := hG.mono hJ248
                      obtain ⟨l249, h251, H⟩ := obx H
                      refine U rfl rfl (o_appD (r := R_regex_sign) tsl39 rfl tz51 rfl rfl S 4 rfl rfl hy200_2 h247 h251 fun v250 w J253 hJ254 S h252 => ?_)
                      have hy200_2 := hy200_2.mono hJ254
                      have h247 := h247.mono hJ254
                      have hI := hI.trans hJ254
                      have hL13 := hL13.trans hJ254
                      have hG := hG.mono hJ254
                      refine U rfl rfl (o_st tone39 S 3 rfl rfl rfl h252.one fun w S => ?_)
                      exact ⟨q12, Nat.le_refl _, (p7 + runeW x0 p7), y200.2.1, l249, v250, J253, H, (Nat.le_of_succ_le hq23), ⟨rfl, rfl, rfl, rfl, rfl, trivial⟩, hL13, (S.sel 6 [4, 5, 1, 3, 2] rfl), h252⟩
                    · rw [if_neg cc244] at H
                      refine FW.condF rfl (eqF cc244) ?_
                      refine FW.seq ?_
                      refine FW.region ?_
                      refine U rfl rfl (V (x_bin rfl rfl rfl) ?_)
                      refine U rfl rfl (V (x_asgV (v := .bool ((runeAt x0 p7) == 91)) rfl) ?_)
                      by_cases cc255 : (runeAt x0 p7) = 91
                      · rw [if_pos cc255] at H
                        refine FW.condT rfl (eqT cc255) ?_
                        refine FW.skip ?_
                        refine FW.condT rfl (eqT cc255) ?_
                        refine FW.anew [(1, .pointer (some ⟨b1, 0, none⟩)), (4, .pointer (some ⟨b2, 0, none⟩)), (5, .pointer (some ⟨b3, 0, none⟩)), (6, .func (.func 26) #[] #[.pointer (some ⟨b3, 0, none⟩), .pointer (some ⟨b1, 0, none⟩), .pointer (some ⟨b2, 0, none⟩)]), (8, .int .i32 (runeAt x0 p7)), (13, .pointer (some ⟨b4, 0, none⟩))] ⟨rfl, rfl, rfl, rfl, rfl, rfl, trivial⟩ fun σ => ?_
                        refine FW.region ?_
                        refine U rfl rfl (V (x_ld tsc39 rfl (S.load 2 rfl 0 rfl)) ?_)
                        refine U rfl rfl (V (x_movV (v := .int .i32 (runeAt x0 p7)) rfl) ?_)
                        refine U rfl rfl (V (x_bld tz51 tpl51 rfl (.one rfl PC.nil) rfl) ?_)
                        refine U rfl rfl (o_bsl tsl39 tz51 rfl rfl rfl rfl (.agg PC.nil) rfl S fun b256 w S => ?_)
                        obtain ⟨J257, hJ259, S, h258⟩ := S.freeze (r := R_regex_sign) (l := [(T_regex_sign.mk (runeAt x0 p7) 0 false)]) 0 rfl ⟨[.int .i32 (runeAt x0 p7), .int .u32 0, .bool false], _, rfl, rfl, rfl⟩ rfl rfl
                        have hy200_2 := hy200_2.mono hJ259
                        have hI := hI.trans hJ259
                        have hL13 := hL13.trans hJ259
                        have hG := hG.mono hJ259
                        obtain ⟨l260, h262, H⟩ := obx H
                        refine U rfl rfl (o_appD (r := R_regex_sign) tsl39 rfl tz51 rfl rfl S 4 rfl rfl hy200_2 h258 h262 fun v261 w J264 hJ265 S h263 => ?_)
                        have hy200_2 := hy200_2.mono hJ265
                        have h258 := h258.mono hJ265
                        have hI := hI.trans hJ265
                        have hL13 := hL13.trans hJ265
                        have hG := hG.mono hJ265
                        refine U rfl rfl (o_st tone39 S 3 rfl rfl rfl h263.one fun w S => ?_)
                        exact ⟨q12, Nat.le_refl _, (p7 + runeW x0 p7), y200.2.1, l260, v261, J264, H, (Nat.le_of_succ_le hq23), ⟨rfl, rfl, rfl, rfl, rfl, trivial⟩, hL13, (S.sel 6 [4, 5, 1, 3, 2] rfl), h263⟩
                      · rw [if_neg cc255] at H
                        refine FW.condF rfl (eqF cc255) ?_
                        refine FW.seq ?_
                        refine FW.anew [(1, .pointer (some ⟨b1, 0, none⟩)), (4, .pointer (some ⟨b2, 0, none⟩)), (5, .pointer (some ⟨b3, 0, none⟩)), (6, .func (.func 26) #[] #[.pointer (some ⟨b3, 0, none⟩), .pointer (some ⟨b1, 0, none⟩), .pointer (some ⟨b2, 0, none⟩)]), (8, .int .i32 (runeAt x0 p7)), (13, .pointer (some ⟨b4, 0, none⟩)), (31, .int .i32 (runeAt x0 p7))] ⟨rfl, rfl, rfl, rfl, rfl, rfl, rfl, trivial⟩ fun σ => ?_
                        refine FW.region ?_
                        refine U rfl rfl (V (x_bin rfl rfl rfl) ?_)
                        refine U rfl rfl (V (x_asgV (v := .bool ((runeAt x0 p7) == 93)) rfl) ?_)
                        by_cases cc266 : (runeAt x0 p7) = 93
                        · rw [if_pos cc266] at H
                          refine FW.condT rfl (eqT cc266) ?_
                          refine FW.skip ?_
                          refine FW.condT rfl (eqT cc266) ?_
                          refine FW.region ?_
                          refine U rfl rfl (V (x_ld tsc39 rfl (S.load 2 rfl 0 rfl)) ?_)
                          refine U rfl rfl (V (x_movV (v := .int .i32 (runeAt x0 p7)) rfl) ?_)
                          refine U rfl rfl (V (x_bld tz51 tpl51 rfl (.one rfl PC.nil) rfl) ?_)
                          refine U rfl rfl (o_bsl tsl39 tz51 rfl rfl rfl rfl (.agg PC.nil) rfl S fun b267 w S => ?_)
                          obtain ⟨J268, hJ270, S, h269⟩ := S.freeze (r := R_regex_sign) (l := [(T_regex_sign.mk (runeAt x0 p7) 0 false)]) 0 rfl ⟨[.int .i32 (runeAt x0 p7), .int .u32 0, .bool false], _, rfl, rfl, rfl⟩ rfl rfl
                          have hy200_2 := hy200_2.mono hJ270
                          have hI := hI.trans hJ270
                          have hL13 := hL13.trans hJ270
                          have hG := hG.mono hJ270
                          obtain ⟨l271, h273, H⟩ := obx H
                          refine U rfl rfl (o_appD (r := R_regex_sign) tsl39 rfl tz51 rfl rfl S 4 rfl rfl hy200_2 h269 h273 fun v272 w J275 hJ276 S h274 => ?_)
                          have hy200_2 := hy200_2.mono hJ276
                          have h269 := h269.mono hJ276
                          have hI := hI.trans hJ276
                          have hL13 := hL13.trans hJ276
                          have hG := hG.mono hJ276
                          refine U rfl rfl (o_st tone39 S 3 rfl rfl rfl h274.one fun w S => ?_)
                          exact ⟨q12, Nat.le_refl _, (p7 + runeW x0 p7), y200.2.1, l271, v272, J275, H, (Nat.le_of_succ_le hq23), ⟨rfl, rfl, rfl, rfl, rfl, trivial⟩, hL13, (S.sel 6 [4, 5, 1, 3, 2] rfl), h274⟩
                        · rw [if_neg cc266] at H
                          refine FW.condF rfl (eqF cc266) ?_
                          refine FW.seq ?_
                          refine FW.region ?_
                          refine U rfl rfl (V (x_bin rfl rfl rfl) ?_)
                          refine U rfl rfl (V (x_asgV (v := .bool ((runeAt x0 p7) == 94)) rfl) ?_)
                          by_cases cc277 : (runeAt x0 p7) = 94
                          · rw [if_pos cc277] at H
                            refine FW.condT rfl (eqT cc277) ?_
                            refine FW.skip ?_
                            refine FW.condT rfl (eqT cc277) ?_
                            refine FW.region ?_
                            refine U rfl rfl (V (x_ld tsc39 rfl (S.load 2 rfl 0 rfl)) ?_)
                            refine U rfl rfl (V (x_movV (v := .int .i32 (runeAt x0 p7)) rfl) ?_)
                            refine U rfl rfl (V (x_bld tz51 tpl51 rfl (.one rfl PC.nil) rfl) ?_)
                            refine U rfl rfl (o_bsl tsl39 tz51 rfl rfl rfl rfl (.agg PC.nil) rfl S fun b278 w S => ?_)
                            obtain ⟨J279, hJ281, S, h280⟩ := S.freeze (r := R_regex_sign) (l := [(T_regex_sign.mk (runeAt x0 p7) 0 false)]) 0 rfl ⟨[.int .i32 (runeAt x0 p7), .int .u32 0, .bool false], _, rfl, rfl, rfl⟩ rfl rfl
                            have hy200_2 := hy200_2.mono hJ281
                            have hI := hI.trans hJ281
                            have hL13 := hL13.trans hJ281
                            have hG := hG.mono hJ281
                            obtain ⟨l282, h284, H⟩ := obx H
                            refine U rfl rfl (o_appD (r := R_regex_sign) tsl39 rfl tz51 rfl rfl S 4 rfl rfl hy200_2 h280 h284 fun v283 w J286 hJ287 S h285 => ?_)
                            have hy200_2 := hy200_2.mono hJ287
                            have h280 := h280.mono hJ287
                            have hI := hI.trans hJ287
                            have hL13 := hL13.trans hJ287
                            have hG := hG.mono hJ287
                            refine U rfl rfl (o_st tone39 S 3 rfl rfl rfl h285.one fun w S => ?_)
                            exact ⟨q12, Nat.le_refl _, (p7 + runeW x0 p7), y200.2.1, l282, v283, J286, H, (Nat.le_of_succ_le hq23), ⟨rfl, rfl, rfl, rfl, rfl, trivial⟩, hL13, (S.sel 6 [4, 5, 1, 3, 2] rfl), h285⟩
                          · rw [if_neg cc277] at H
                            refine FW.condF rfl (eqF cc277) ?_
                            refine FW.seq ?_
                            refine FW.region ?_
                            refine U rfl rfl (V (x_bin rfl rfl rfl) ?_)
                            refine U rfl rfl (V (x_asgV (v := .bool ((runeAt x0 p7) == 36)) rfl) ?_)
                            by_cases cc288 : (runeAt x0 p7) = 36
                            · rw [if_pos cc288] at H
                              refine FW.condT rfl (eqT cc288) ?_
                              refine FW.skip ?_
                              refine FW.condT rfl (eqT cc288) ?_
                              refine FW.region ?_
                              refine U rfl rfl (V (x_ld tsc39 rfl (S.load 2 rfl 0 rfl)) ?_)
                              refine U rfl rfl (V (x_movV (v := .int .i32 (runeAt x0 p7)) rfl) ?_)
                              refine U rfl rfl (V (x_bld tz51 tpl51 rfl (.one rfl PC.nil) rfl) ?_)
                              refine U rfl rfl (o_bsl tsl39 tz51 rfl rfl rfl rfl (.agg PC.nil) rfl S fun b289 w S => ?_)
                              obtain ⟨J290, hJ292, S, h291⟩ := S.freeze (r := R_regex_sign) (l := [(T_regex_sign.mk (runeAt x0 p7) 0 false)]) 0 rfl ⟨[.int .i32 (runeAt x0 p7), .int .u32 0, .bool false], _, rfl, rfl, rfl⟩ rfl rfl
                              have hy200_2 := hy200_2.mono hJ292
                              have hI := hI.trans hJ292
                              have hL13 := hL13.trans hJ292
                              have hG := hG.mono hJ292
                              obtain ⟨l293, h295, H⟩ := obx H
                              refine U rfl rfl (o_appD (r := R_regex_sign) tsl39 rfl tz51 rfl rfl S 4 rfl rfl hy200_2 h291 h295 fun v294 w J297 hJ298 S h296 => ?_)
                              have hy200_2 := hy200_2.mono hJ298
                              have h291 := h291.mono hJ298
                              have hI := hI.trans hJ298
                              have hL13 := hL13.trans hJ298
                              have hG := hG.mono hJ298
                              refine U rfl rfl (o_st tone39 S 3 rfl rfl rfl h296.one fun w S => ?_)
                              exact ⟨q12, Nat.le_refl _, (p7 + runeW x0 p7), y200.2.1, l293, v294, J297, H, (Nat.le_of_succ_le hq23), ⟨rfl, rfl, rfl, rfl, rfl, trivial⟩, hL13, (S.sel 6 [4, 5, 1, 3, 2] rfl), h296⟩
                            · rw [if_neg cc288] at H
                              refine FW.condF rfl (eqF cc288) ?_
                              refine FW.seq ?_
                              refine FW.region ?_
                              refine U rfl rfl (V (x_bin rfl rfl rfl) ?_)
                              refine U rfl rfl (V (x_asgV (v := .bool ((runeAt x0 p7) == 46)) rfl) ?_)
                              by_cases cc299 : (runeAt x0 p7) = 46
                              · rw [if_pos cc299] at H
                                refine FW.condT rfl (eqT cc299) ?_
                                refine FW.skip ?_
                                refine FW.condT rfl (eqT cc299) ?_
                                refine FW.anew [(1, .pointer (some ⟨b1, 0, none⟩)), (4, .pointer (some ⟨b2, 0, none⟩)), (5, .pointer (some ⟨b3, 0, none⟩)), (6, .func (.func 26) #[] #[.pointer (some ⟨b3, 0, none⟩), .pointer (some ⟨b1, 0, none⟩), .pointer (some ⟨b2, 0, none⟩)]), (8, .int .i32 (runeAt x0 p7)), (13, .pointer (some ⟨b4, 0, none⟩))] ⟨rfl, rfl, rfl, rfl, rfl, rfl, trivial⟩ fun σ => ?_
                                refine FW.region ?_
                                refine U rfl rfl (V (x_ld tsc39 rfl (S.load 2 rfl 0 rfl)) ?_)
                                refine U rfl rfl (V (x_movV (v := .int .i32 (runeAt x0 p7)) rfl) ?_)
                                refine U rfl rfl (V (x_bld tz51 tpl51 rfl (.one rfl PC.nil) rfl) ?_)
                                refine U rfl rfl (o_bsl tsl39 tz51 rfl rfl rfl rfl (.agg PC.nil) rfl S fun b300 w S => ?_)
                                obtain ⟨J301, hJ303, S, h302⟩ := S.freeze (r := R_regex_sign) (l := [(T_regex_sign.mk (runeAt x0 p7) 0 false)]) 0 rfl ⟨[.int .i32 (runeAt x0 p7), .int .u32 0, .bool false], _, rfl, rfl, rfl⟩ rfl rfl
                                have hy200_2 := hy200_2.mono hJ303
                                have hI := hI.trans hJ303
                                have hL13 := hL13.trans hJ303
                                have hG := hG.mono hJ303
                                obtain ⟨l304, h306, H⟩ := obx H
                                refine U rfl rfl (o_appD (r := R_regex_sign) tsl39 rfl tz51 rfl rfl S 4 rfl rfl hy200_2 h302 h306 fun v305 w J308 hJ309 S h307 => ?_)
                                have hy200_2 := hy200_2.mono hJ309
                                have h302 := h302.mono hJ309
                                have hI := hI.trans hJ309
                                have hL13 := hL13.trans hJ309
                                have hG := hG.mono hJ309
                                refine U rfl rfl (o_st tone39 S 3 rfl rfl rfl h307.one fun w S => ?_)
                                exact ⟨q12, Nat.le_refl _, (p7 + runeW x0 p7), y200.2.1, l304, v305, J308, H, (Nat.le_of_succ_le hq23), ⟨rfl, rfl, rfl, rfl, rfl, trivial⟩, hL13, (S.sel 6 [4, 5, 1, 3, 2] rfl), h307⟩
                              · rw [if_neg cc299] at H
                                refine FW.condF rfl (eqF cc299) ?_
                                refine FW.seq ?_
                                refine FW.anew [(1, .pointer (some ⟨b1, 0, none⟩)), (4, .pointer (some ⟨b2, 0, none⟩)), (5, .pointer (some ⟨b3, 0, none⟩)), (6, .func (.func 26) #[] #[.pointer (some ⟨b3, 0, none⟩), .pointer (some ⟨b1, 0, none⟩), .pointer (some ⟨b2, 0, none⟩)]), (8, .int .i32 (runeAt x0 p7)), (13, .pointer (some ⟨b4, 0, none⟩)), (31, .int .i32 (runeAt x0 p7))] ⟨rfl, rfl, rfl, rfl, rfl, rfl, rfl, trivial⟩ fun σ => ?_
                                refine FW.region ?_
                                refine U rfl rfl (V (x_bin rfl rfl rfl) ?_)
                                refine U rfl rfl (V (x_asgV (v := .bool ((runeAt x0 p7) == 42)) rfl) ?_)
                                by_cases cc310 : (runeAt x0 p7) = 42
                                · rw [if_pos cc310] at H
                                  refine FW.condT rfl (eqT cc310) ?_
                                  refine FW.skip ?_
                                  refine FW.condT rfl (eqT cc310) ?_
                                  refine FW.region ?_
                                  refine U rfl rfl (V (x_ld tsc39 rfl (S.load 2 rfl 0 rfl)) ?_)
                                  refine U rfl rfl (V (x_movV (v := .int .i32 (runeAt x0 p7)) rfl) ?_)
                                  refine U rfl rfl (V (x_bld tz51 tpl51 rfl (.one rfl PC.nil) rfl) ?_)
                                  refine U rfl rfl (o_bsl tsl39 tz51 rfl rfl rfl rfl (.agg PC.nil) rfl S fun b311 w S => ?_)
                                  obtain ⟨J312, hJ314, S, h313⟩ := S.freeze (r := R_regex_sign) (l := [(T_regex_sign.mk (runeAt x0 p7) 0 false)]) 0 rfl ⟨[.int .i32 (runeAt x0 p7), .int .u32 0, .bool false], _, rfl, rfl, rfl⟩ rfl rfl
                                  have hy200_2 := hy200_2.mono hJ314
                                  have hI := hI.trans hJ314
                                  have hL13 := hL13.trans hJ314
                                  have hG := hG.mono hJ314
                                  obtain ⟨l315, h317, H⟩ := obx H
                                  refine U rfl rfl (o_appD (r := R_regex_sign) tsl39 rfl tz51 rfl rfl S 4 rfl rfl hy200_2 h313 h317 fun v316 w J319 hJ320 S h318 => ?_)
                                  have hy200_2 := hy200_2.mono hJ320
                                  have h313 := h313.mono hJ320
                                  have hI := hI.trans hJ320
                                  have hL13 := hL13.trans hJ320
                                  have hG := hG.mono hJ320
                                  refine U rfl rfl (o_st tone39 S 3 rfl rfl rfl h318.one fun w S => ?_)
                                  exact ⟨q12, Nat.le_refl _, (p7 + runeW x0 p7), y200.2.1, l315, v316, J319, H, (Nat.le_of_succ_le hq23), ⟨rfl, rfl, rfl, rfl, rfl, trivial⟩, hL13, (S.sel 6 [4, 5, 1, 3, 2] rfl), h318⟩
                                · rw [if_neg cc310] at H
                                  refine FW.condF rfl (eqF cc310) ?_
                                  refine FW.seq ?_
                                  refine FW.region ?_
                                  refine U rfl rfl (V (x_bin rfl rfl rfl) ?_)
                                  refine U rfl rfl (V (x_asgV (v := .bool ((runeAt x0 p7) == 43)) rfl) ?_)
                                  by_cases cc321 : (runeAt x0 p7) = 43
                                  · rw [if_pos cc321] at H
                                    refine FW.condT rfl (eqT cc321) ?_
                                    refine FW.skip ?_
                                    refine FW.condT rfl (eqT cc321) ?_
                                    refine FW.region ?_
                                    refine U rfl rfl (V (x_ld tsc39 rfl (S.load 2 rfl 0 rfl)) ?_)
                                    refine U rfl rfl (V (x_movV (v := .int .i32 (runeAt x0 p7)) rfl) ?_)
                                    refine U rfl rfl (V (x_bld tz51 tpl51 rfl (.one rfl PC.nil) rfl) ?_)
                                    refine U rfl rfl (o_bsl tsl39 tz51 rfl rfl rfl rfl (.agg PC.nil) rfl S fun b322 w S => ?_)
                                    obtain ⟨J323, hJ325, S, h324⟩ := S.freeze (r := R_regex_sign) (l := [(T_regex_sign.mk (runeAt x0 p7) 0 false)]) 0 rfl ⟨[.int .i32 (runeAt x0 p7), .int .u32 0, .bool false], _, rfl, rfl, rfl⟩ rfl rfl
                                    have hy200_2 := hy200_2.mono hJ325
                                    have hI := hI.trans hJ325
                                    have hL13 := hL13.trans hJ325
                                    have hG := hG.mono hJ325
                                    obtain ⟨l326, h328, H⟩ := obx H
                                    refine U rfl rfl (o_appD (r := R_regex_sign) tsl39 rfl tz51 rfl rfl S 4 rfl rfl hy200_2 h324 h328 fun v327 w J330 hJ331 S h329 => ?_)
                                    have hy200_2 := hy200_2.mono hJ331
                                    have h324 := h324.mono hJ331
                                    have hI := hI.trans hJ331
                                    have hL13 := hL13.trans hJ331
                                    have hG := hG.mono hJ331
                                    refine U rfl rfl (o_st tone39 S 3 rfl rfl rfl h329.one fun w S => ?_)
                                    exact ⟨q12, Nat.le_refl _, (p7 + runeW x0 p7), y200.2.1, l326, v327, J330, H, (Nat.le_of_succ_le hq23), ⟨rfl, rfl, rfl, rfl, rfl, trivial⟩, hL13, (S.sel 6 [4, 5, 1, 3, 2] rfl), h329⟩
                                  · rw [if_neg cc321] at H
                                    refine FW.condF rfl (eqF cc321) ?_
                                    refine FW.seq ?_
                                    refine FW.region ?_
                                    refine U rfl rfl (V (x_bin rfl rfl rfl) ?_)
                                    refine U rfl rfl (V (x_asgV (v := .bool ((runeAt x0 p7) == 63)) rfl) ?_)
                                    by_cases cc332 : (runeAt x0 p7) = 63
                                    · rw [if_pos cc332] at H
                                      refine FW.condT rfl (eqT cc332) ?_
                                      refine FW.skip ?_
                                      refine FW.condT rfl (eqT cc332) ?_
                                      refine FW.region ?_
                                      refine U rfl rfl (V (x_ld tsc39 rfl (S.load 2 rfl 0 rfl)) ?_)
                                      refine U rfl rfl (V (x_movV (v := .int .i32 (runeAt x0 p7)) rfl) ?_)
                                      refine U rfl rfl (V (x_bld tz51 tpl51 rfl (.one rfl PC.nil) rfl) ?_)
                                      refine U rfl rfl (o_bsl tsl39 tz51 rfl rfl rfl rfl (.agg PC.nil) rfl S fun b333 w S => ?_)
                                      obtain ⟨J334, hJ336, S, h335⟩ := S.freeze (r := R_regex_sign) (l := [(T_regex_sign.mk (runeAt x0 p7) 0 false)]) 0 rfl ⟨[.int .i32 (runeAt x0 p7), .int .u32 0, .bool false], _, rfl, rfl, rfl⟩ rfl rfl
                                      have hy200_2 := hy200_2.mono hJ336
                                      have hI := hI.trans hJ336
                                      have hL13 := hL13.trans hJ336
                                      have hG := hG.mono hJ336
                                      obtain ⟨l337, h339, H⟩ := obx H
                                      refine U rfl rfl (o_appD (r := R_regex_sign) tsl39 rfl tz51 rfl rfl S 4 rfl rfl hy200_2 h335 h339 fun v338 w J341 hJ342 S h340 => ?_)
                                      have hy200_2 := hy200_2.mono hJ342
                                      have h335 := h335.mono hJ342
                                      have hI := hI.trans hJ342
                                      have hL13 := hL13.trans hJ342
                                      have hG := hG.mono hJ342
                                      refine U rfl rfl (o_st tone39 S 3 rfl rfl rfl h340.one fun w S => ?_)
                                      exact ⟨q12, Nat.le_refl _, (p7 + runeW x0 p7), y200.2.1, l337, v338, J341, H, (Nat.le_of_succ_le hq23), ⟨rfl, rfl, rfl, rfl, rfl, trivial⟩, hL13, (S.sel 6 [4, 5, 1, 3, 2] rfl), h340⟩
                                    · rw [if_neg cc332] at H
                                      refine FW.condF rfl (eqF cc332) ?_
                                      refine FW.seq ?_
                                      refine FW.region ?_
                                      refine U rfl rfl (V (x_bin rfl rfl rfl) ?_)
                                      refine U rfl rfl (V (x_asgV (v := .bool ((runeAt x0 p7) == 45)) rfl) ?_)
                                      by_cases cc343 : (runeAt x0 p7) = 45
                                      · rw [if_pos cc343] at H
                                        refine FW.condT rfl (eqT cc343) ?_
                                        refine FW.skip ?_
                                        refine FW.condT rfl (eqT cc343) ?_
                                        refine FW.anew [(1, .pointer (some ⟨b1, 0, none⟩)), (4, .pointer (some ⟨b2, 0, none⟩)), (5, .pointer (some ⟨b3, 0, none⟩)), (6, .func (.func 26) #[] #[.pointer (some ⟨b3, 0, none⟩), .pointer (some ⟨b1, 0, none⟩), .pointer (some ⟨b2, 0, none⟩)]), (8, .int .i32 (runeAt x0 p7)), (13, .pointer (some ⟨b4, 0, none⟩))] ⟨rfl, rfl, rfl, rfl, rfl, rfl, trivial⟩ fun σ => ?_
                                        refine FW.region ?_
                                        refine U rfl rfl (V (x_ld tsc39 rfl (S.load 2 rfl 0 rfl)) ?_)
                                        refine U rfl rfl (V (x_movV (v := .int .i32 (runeAt x0 p7)) rfl) ?_)
                                        refine U rfl rfl (V (x_bld tz51 tpl51 rfl (.one rfl PC.nil) rfl) ?_)
                                        refine U rfl rfl (o_bsl tsl39 tz51 rfl rfl rfl rfl (.agg PC.nil) rfl S fun b344 w S => ?_)
                                        obtain ⟨J345, hJ347, S, h346⟩ := S.freeze (r := R_regex_sign) (l := [(T_regex_sign.mk (runeAt x0 p7) 0 false)]) 0 rfl ⟨[.int .i32 (runeAt x0 p7), .int .u32 0, .bool false], _, rfl, rfl, rfl⟩ rfl rfl
                                        have hy200_2 := hy200_2.mono hJ347
                                        have hI := hI.trans hJ347
                                        have hL13 := hL13.trans hJ347
                                        have hG := hG.mono hJ347
                                        obtain ⟨l348, h350, H⟩ := obx H
                                        refine U rfl rfl (o_appD (r := R_regex_sign) tsl39 rfl tz51 rfl rfl S 4 rfl rfl hy200_2 h346 h350 fun v349 w J352 hJ353 S h351 => ?_)
                                        have hy200_2 := hy200_2.mono hJ353
                                        have h346 := h346.mono hJ353
                                        have hI := hI.trans hJ353
                                        have hL13 := hL13.trans hJ353
                                        have hG := hG.mono hJ353
                                        refine U rfl rfl (o_st tone39 S 3 rfl rfl rfl h351.one fun w S => ?_)
                                        exact ⟨q12, Nat.le_refl _, (p7 + runeW x0 p7), y200.2.1, l348, v349, J352, H, (Nat.le_of_succ_le hq23), ⟨rfl, rfl, rfl, rfl, rfl, trivial⟩, hL13, (S.sel 6 [4, 5, 1, 3, 2] rfl), h351⟩
                                      · rw [if_neg cc343] at H
                                        refine FW.condF rfl (eqF cc343) ?_
                                        refine FW.anew [(1, .pointer (some ⟨b1, 0, none⟩)), (4, .pointer (some ⟨b2, 0, none⟩)), (5, .pointer (some ⟨b3, 0, none⟩)), (6, .func (.func 26) #[] #[.pointer (some ⟨b3, 0, none⟩), .pointer (some ⟨b1, 0, none⟩), .pointer (some ⟨b2, 0, none⟩)]), (8, .int .i32 (runeAt x0 p7)), (13, .pointer (some ⟨b4, 0, none⟩)), (31, .int .i32 (runeAt x0 p7))] ⟨rfl, rfl, rfl, rfl, rfl, rfl, rfl, trivial⟩ fun σ => ?_
                                        refine FW.region ?_
                                        refine U rfl rfl (V (x_bin rfl rfl rfl) ?_)
                                        refine U rfl rfl (V (x_asgV (v := .bool ((runeAt x0 p7) == 44)) rfl) ?_)
                                        by_cases cc354 : (runeAt x0 p7) = 44
                                        · rw [if_pos cc354] at H
                                          refine FW.condT rfl (eqT cc354) ?_
                                          refine FW.region ?_
                                          refine U rfl rfl (V (x_ld tsc39 rfl (S.load 2 rfl 0 rfl)) ?_)
                                          refine U rfl rfl (V (x_movV (v := .int .i32 (runeAt x0 p7)) rfl) ?_)
                                          refine U rfl rfl (V (x_bld tz51 tpl51 rfl (.one rfl PC.nil) rfl) ?_)
                                          refine U rfl rfl (o_bsl tsl39 tz51 rfl rfl rfl rfl (.agg PC.nil) rfl S fun b355 w S => ?_)
                                          obtain ⟨J356, hJ358, S, h357⟩ := S.freeze (r := R_regex_sign) (l := [(T_regex_sign.mk (runeAt x0 p7) 0 false)]) 0 rfl ⟨[.int .i32 (runeAt x0 p7), .int .u32 0, .bool false], _, rfl, rfl, rfl⟩ rfl rfl
                                          have hy200_2 := hy200_2.mono hJ358
                                          have hI := hI.trans hJ358
                                          have hL13 := hL13.trans hJ358
                                          have hG := hG.mono hJ358
                                          obtain ⟨l359, h361, H⟩ := obx H
                                          refine U rfl rfl (o_appD (r := R_regex_sign) tsl39 rfl tz51 rfl rfl S 4 rfl rfl hy200_2 h357 h361 fun v360 w J363 hJ364 S h362 => ?_)
                                          have hy200_2 := hy200_2.mono hJ364
                                          have h357 := h357.mono hJ364
                                          have hI := hI.trans hJ364
                                          have hL13 := hL13.trans hJ364
                                          have hG := hG.mono hJ364
                                          refine U rfl rfl (o_st tone39 S 3 rfl rfl rfl h362.one fun w S => ?_)
                                          exact ⟨q12, Nat.le_refl _, (p7 + runeW x0 p7), y200.2.1, l359, v360, J363, H, (Nat.le_of_succ_le hq23), ⟨rfl, rfl, rfl, rfl, rfl, trivial⟩, hL13, (S.sel 6 [4, 5, 1, 3, 2] rfl), h362⟩
                                        · rw [if_neg cc354] at H
                                          refine FW.condF rfl (eqF cc354) ?_
                                          refine FW.seq ?_
                                          refine FW.region ?_
                                          refine U rfl rfl (V (x_asgV (v := (.slice none 0 0)) rfl) ?_)
                                          refine U rfl rfl (V (x_asgV (v := .bool false) rfl) ?_)
                                          refine FW.ret ?_
                                          have S := S.nil_tv 51 3
                                          obtain rfl := Option.some.inj H
                                          obtain rfl := Option.some.inj HO15
                                          exact ⟨_, ⟨_, rfl, ⟨_, rfl, rfl⟩⟩, ⟨(.slice none 0 0), J205, hI, rfl, (SlR.nil _ _), (S.sel 6 [0] rfl)⟩⟩
          · rw [if_neg cc204] at H
            refine FW.condT rfl (noT (vaF cc204)) ?_
            refine FW.seq ?_
            refine FW.region ?_
            refine U rfl rfl (V (x_asgV (v := (.slice none 0 0)) rfl) ?_)
            refine U rfl rfl (V (x_asgV (v := .bool false) rfl) ?_)
            refine FW.ret ?_
            have S := S.nil_tv 51 3
            obtain rfl := Option.some.inj H
            obtain rfl := Option.some.inj HO15
            exact ⟨_, ⟨_, rfl, ⟨_, rfl, rfl⟩⟩, ⟨(.slice none 0 0), J202, hI, rfl, (SlR.nil _ _), (S.sel 6 [0] rfl)⟩⟩
      · rw [if_neg cc24] at H
        refine U rfl rfl (o_nxtF S 1 rfl rfl cc24 ?_)
        refine U rfl rfl (V (x_ext rfl rfl) ?_)
        refine FW.seq ?_
        refine FW.condF rfl rfl ?_
        refine FW.exit ?_
        exact ⟨p7, n8, l9, v10, J6, (Option.some.inj H), ⟨rfl, rfl, rfl, trivial⟩, hL13, S, h11⟩
  · rintro σ w ⟨p18, n19, l20, v21, J17, ho, hσ, hL13, S, h22⟩
    subst ho
    have H := HO15
    try dsimp only at H
    have hI := hI.trans hL13
    have hG := hG.mono hL13
    rw [hσ.eq]
    refine FW.seq ?_
    refine FW.region ?_
    refine U rfl rfl (V (x_ld tsc9 rfl (S.load 4 rfl 0 rfl)) ?_)
    refine U rfl rfl (V (x_lens tstr9 rfl) ?_)
    refine U rfl rfl (V (x_asgV (v := .int .i64 (x0.size : Int)) rfl) ?_)
    refine FW.seq ?_
    refine FW.region ?_
    refine U rfl rfl (V (x_movV (v := .func (.func 26) #[] #[.pointer (some ⟨b3, 0, none⟩), .pointer (some ⟨b1, 0, none⟩), .pointer (some ⟨b2, 0, none⟩)]) rfl) ?_)
    refine U rfl rfl (V (x_movV (v := .int .i64 (x0.size : Int)) rfl) ?_)
    obtain ⟨y367, hy368, H⟩ := obx H
    refine U rfl rfl (clv rfl fb26 (@regex_signs_1.ok k (x0.size : Int) n19 x0 l20 _ _ _ _ _ _ _ _ hG (S.sel 5 [2, 4, 3, 0, 1] rfl) h22 hy368) rfl ?_)
    rintro _ w ⟨vy367_2, J369, hJ370, rfl, hy367_2, S⟩
    have hI := hI.trans hJ370
    have hG := hG.mono hJ370
    refine U rfl rfl (V (x_asgV (v := .bool y367.1) rfl) ?_)
    refine FW.seq ?_
    refine FW.anew [(4, .pointer (some ⟨b2, 0, none⟩)), (10, .bool y367.1)] ⟨rfl, rfl, trivial⟩ fun σ => ?_
    refine FW.region ?_
    refine U rfl rfl (V (x_ld tsc39 rfl (S.load 2 rfl 0 rfl)) ?_)
    refine U rfl rfl (V (x_movV (v := .bool y367.1) rfl) ?_)
    refine U rfl rfl (V (x_asgV (v := vy367_2) rfl) ?_)
    refine U rfl rfl (V (x_asgV (v := .bool y367.1) rfl) ?_)
    refine FW.ret ?_
    obtain rfl := Option.some.inj H
    exact ⟨_, ⟨_, rfl, ⟨_, rfl, rfl⟩⟩, ⟨vy367_2, J369, hI, rfl, hy367_2, (S.sel 5 [3] rfl)⟩⟩
def regex_reader_peek.l0 : Nat → (List T_regex_sign) → Option (List T_regex_sign)
  | 0, _ => none
  | k + 1, l3 => (if (l3.length : Int) > 0 then ((lat l3 0).bind fun y17 => (if y17.c = 32 then ((cutL l3 1).bind fun l26 => (regex_reader_peek.l0 k l26)) else (some l3))) else (some l3))
def regex_reader_peek.f (k : Nat) (x0 : T_regex_reader) : Option (T_regex_sign × T_regex_reader) := ((regex_reader_peek.l0 k x0.rest).bind fun l12 => (if (l12.length : Int) = 0 then (some ((T_regex_sign.mk 0 0 false), (T_regex_reader.mk l12 x0.bad))) else ((lat l12 0).bind fun y30 => (some (y30, (T_regex_reader.mk l12 x0.bad))))))
abbrev regex_reader_peek.C (k : Nat) : Prop := ∀ {x0 : T_regex_reader} {x0v0 : Value} {bx0 : Nat} {F : List It} {I : IMem} {w : World} {r : T_regex_sign × T_regex_reader}, Glob I → Own I w (.bk bx0 44 [x0v0, .bool x0.bad] :: F) → SlR R_regex_sign I x0v0 x0.rest → regex_reader_peek.f k x0 = some r →
    Calls Tryd.prog 18 #[.pointer (some ⟨bx0, 0, none⟩)] w fun e w' => ∃ v, e = .returned v ∧ ∃ (y_1v0 : Value) (J : IMem), I.le J ∧ v = .agg #[.int .i32 r.1.c, .int .u32 r.1.n, .bool r.1.digits] ∧ SlR R_regex_sign J y_1v0 r.2.rest ∧ Own J w' (.bk bx0 44 [y_1v0, .bool r.2.bad] :: F)
theorem regex_reader_peek.ok (k : Nat) : regex_reader_peek.C k := by
  intro x0 x0v0 bx0 F I w r hG S x0h0 H
  have hI := IMem.le.refl I
  rw [regex_reader_peek.f] at H
  refine Calls.ofFW (args := [.pointer (some ⟨bx0, 0, none⟩)]) Tryd.func18 rfl rfl ?_
  refine FW.seq ?_
  refine FW.region ?_
  refine U rfl rfl (o_all tz51 S fun b1 w S => ?_)
  refine FW.seq ?_
  refine FW.block ?_
  obtain ⟨o8, hl10, HO9⟩ := obx H
  refine FW.cutX 0 (fun σ w => ∃ (l12 : (List T_regex_sign)) (v13 : Value) (J11 : IMem), l12 = o8 ∧ Has σ [(0, .pointer (some ⟨bx0, 0, none⟩)), (2, .pointer (some ⟨b1, 0, none⟩))] ∧ I.le J11 ∧ Own J11 w (.bk b1 51 [.int .i32 0, .int .u32 0, .bool false] :: .bk bx0 44 [v13, .bool x0.bad] :: F) ∧ SlR R_regex_sign J11 v13 l12) ?_ ?_
  ·
    refine FW.loop k (FL.ind (fun q σ w => ∃ (l3 : (List T_regex_sign)) (v4 : Value) (J2 : IMem), regex_reader_peek.l0 q l3 = some o8 ∧ q ≤ k ∧ Has σ [(0, .pointer (some ⟨bx0, 0, none⟩)), (2, .pointer (some ⟨b1, 0, none⟩))] ∧ I.le J2 ∧ Own J2 w (.bk b1 51 [.int .i32 0, .int .u32 0, .bool false] :: .bk bx0 44 [v4, .bool x0.bad] :: F) ∧ SlR R_regex_sign J2 v4 l3) ?_ ?_ k k _ _ (Nat.le_refl _) ⟨x0.rest, x0v0, I, hl10, Nat.le_refl _, ⟨rfl, rfl, trivial⟩, (IMem.le.refl _), S, x0h0⟩)
    · rintro σ w ⟨l3, v4, J2, H, _⟩; cases H
    · rintro q6 σ w ⟨l3, v4, J2, H, hq15, hσ, hL7, S, h5⟩
      have hI := hI.trans hL7
      have hG := hG.mono hL7
      rw [hσ.eq]
      rw [regex_reader_peek.l0] at H
      refine FW.seq ?_
      refine FW.seq ?_
      refine FW.region ?_
      refine U rfl rfl (V (x_movV (v := .pointer (some ⟨bx0, 0, none⟩)) rfl) ?_)
      refine U rfl rfl (V (x_nk rfl) ?_)
      refine U rfl rfl (V (x_fa tf44_0 rfl) ?_)
      refine U rfl rfl (V (x_ld tsc39 rfl (S.load 1 rfl 0 rfl)) ?_)
      refine U rfl rfl (V (x_lenD (r := R_regex_sign) tsl39 h5) ?_)
      refine U rfl rfl (V (x_bin rfl rfl rfl) ?_)
      refine U rfl rfl (V (x_movV (v := .bool (decide ((l3.length : Int) > 0))) rfl) ?_)
      by_cases cc16 : (l3.length : Int) > 0
      · rw [if_pos cc16] at H
        refine OK.gt rfl rfl rfl (deT cc16) (V (x_movV (v := .pointer (some ⟨bx0, 0, none⟩)) rfl) ?_)
        refine OK.gt rfl rfl rfl (deT cc16) (V (x_nk rfl) ?_)
        refine OK.gt rfl rfl rfl (deT cc16) (V (x_fa tf44_0 rfl) ?_)
        refine OK.gt rfl rfl rfl (deT cc16) (V (x_ld tsc39 rfl (S.load 1 rfl 0 rfl)) ?_)
        obtain ⟨y17, h18, H⟩ := obx H
        refine OK.gt rfl rfl rfl (deT cc16) (o_ia (r := R_regex_sign) tsl39 rfl rfl h5 rfl h18 fun b19 o20 cs21 hr22 hc23 => ?_)
        obtain rfl := hr22
        refine OK.gt rfl rfl rfl (deT cc16) (V (x_fa tf51_0 rfl) ?_)
        refine OK.gt rfl rfl rfl (deT cc16) (V (x_ld tsc21 rfl (S.cell _ _ _ (hc23 0 _ rfl))) ?_)
        refine OK.gt rfl rfl rfl (deT cc16) (V (x_bin rfl rfl rfl) ?_)
        refine U rfl rfl (V (x_pickTV (v := .bool (y17.c == 32)) rfl (deT cc16) rfl) ?_)
        by_cases cc24 : y17.c = 32
        · rw [if_pos cc24] at H
          refine FW.condT rfl (eqT cc24) ?_
          refine FW.skip ?_
          refine FW.block ?_
          refine FW.anew [(0, .pointer (some ⟨bx0, 0, none⟩)), (2, .pointer (some ⟨b1, 0, none⟩))] ⟨rfl, rfl, trivial⟩ fun σ => ?_
          refine FW.region ?_
          refine U rfl rfl (V (x_movV (v := .pointer (some ⟨bx0, 0, none⟩)) rfl) ?_)
          refine U rfl rfl (V (x_movV (v := .pointer (some ⟨bx0, 0, none⟩)) rfl) ?_)
          refine U rfl rfl (V (x_nk rfl) ?_)
          refine U rfl rfl (V (x_fa tf44_0 rfl) ?_)
          refine U rfl rfl (V (x_ld tsc39 rfl (S.load 1 rfl 0 rfl)) ?_)
          obtain ⟨l26, h25, H⟩ := obx H
          refine U rfl rfl (o_cutL (r := R_regex_sign) tsl39 rfl h5 rfl h25 fun v27 h28 => ?_)
          refine U rfl rfl (V (x_nk rfl) ?_)
          refine U rfl rfl (V (x_fa tf44_0 rfl) ?_)
          refine U rfl rfl (o_st tone39 S 1 rfl rfl rfl h28.one fun w S => ?_)
          exact ⟨q6, Nat.le_refl _, l26, v27, J2, H, (Nat.le_of_succ_le hq15), ⟨rfl, rfl, trivial⟩, hL7, S, h28⟩
        · rw [if_neg cc24] at H
          refine FW.condF rfl (eqF cc24) ?_
          refine FW.exit ?_
          exact ⟨l3, v4, J2, (Option.some.inj H), ⟨rfl, rfl, trivial⟩, hL7, S, h5⟩
      · rw [if_neg cc16] at H
        refine OK.gf rfl rfl rfl (deF cc16) ?_
        refine OK.gf rfl rfl rfl (deF cc16) ?_
        refine OK.gf rfl rfl rfl (deF cc16) ?_
        refine OK.gf rfl rfl rfl (deF cc16) ?_
        refine OK.gf rfl rfl rfl (deF cc16) ?_
        refine OK.gf rfl rfl rfl (deF cc16) ?_
        refine OK.gf rfl rfl rfl (deF cc16) ?_
        refine OK.gf rfl rfl rfl (deF cc16) ?_
        refine U rfl rfl (V (x_pickFV (v := .bool false) rfl (deF cc16) rfl) ?_)
        refine FW.condF rfl rfl ?_
        refine FW.exit ?_
        exact ⟨l3, v4, J2, (Option.some.inj H), ⟨rfl, rfl, trivial⟩, hL7, S, h5⟩
  · rintro σ w ⟨l12, v13, J11, ho, hσ, hL7, S, h14⟩
    subst ho
    have H := HO9
    have hI := hI.trans hL7
    have hG := hG.mono hL7
    rw [hσ.eq]
    refine FW.seq ?_
    refine FW.seq ?_
    refine FW.region ?_
    refine U rfl rfl (V (x_movV (v := .pointer (some ⟨bx0, 0, none⟩)) rfl) ?_)
    refine U rfl rfl (V (x_nk rfl) ?_)
    refine U rfl rfl (V (x_fa tf44_0 rfl) ?_)
    refine U rfl rfl (V (x_ld tsc39 rfl (S.load 1 rfl 0 rfl)) ?_)
    refine U rfl rfl (V (x_lenD (r := R_regex_sign) tsl39 h14) ?_)
    refine U rfl rfl (V (x_bin rfl rfl rfl) ?_)
    by_cases cc29 : (l12.length : Int) = 0
    · rw [if_pos cc29] at H
      refine FW.condT rfl (eqT cc29) ?_
      refine FW.seq ?_
      refine FW.region ?_
      refine U rfl rfl (V (x_bld tz51 tpl51 rfl PC.nil rfl) ?_)
      refine U rfl rfl (o_stA tag51 S 0 rfl rfl rfl rfl (c1 rfl (c1 rfl (c1 rfl c0))) rfl fun w S => ?_)
      refine FW.ret ?_
      obtain rfl := Option.some.inj H
      exact ⟨_, ⟨_, _, _, rfl, rfl, ldA tag51 (S.loadW 0 rfl) rfl, rfl⟩, ⟨v13, J11, hI, rfl, h14, (S.sel 2 [1] rfl)⟩⟩
    · rw [if_neg cc29] at H
      refine FW.condF rfl (eqF cc29) ?_
      refine FW.skip ?_
      refine FW.seq ?_
      refine FW.region ?_
      refine U rfl rfl (V (x_movV (v := .pointer (some ⟨bx0, 0, none⟩)) rfl) ?_)
      refine U rfl rfl (V (x_nk rfl) ?_)
      refine U rfl rfl (V (x_fa tf44_0 rfl) ?_)
      refine U rfl rfl (V (x_ld tsc39 rfl (S.load 1 rfl 0 rfl)) ?_)
      obtain ⟨y30, h31, H⟩ := obx H
      refine U rfl rfl (o_ia (r := R_regex_sign) tsl39 rfl rfl h14 rfl h31 fun b32 o33 cs34 hr35 hc36 => ?_)
      obtain rfl := hr35
      refine U rfl rfl (V (x_ldA tag51 rfl (S.loadI hc36) rfl) ?_)
      refine U rfl rfl (o_stA tag51 S 0 rfl rfl rfl rfl (c1 rfl (c1 rfl (c1 rfl c0))) rfl fun w S => ?_)
      refine FW.ret ?_
      obtain rfl := Option.some.inj H
      exact ⟨_, ⟨_, _, _, rfl, rfl, ldA tag51 (S.loadW 0 rfl) rfl, rfl⟩, ⟨v13, J11, hI, rfl, h14, (S.sel 2 [1] rfl)⟩⟩
end Go.Proofs.YtkkflfmonidepaaDoor
namespace Go.Proofs.YtkkflfmonidepaaDoor
open Sp
set_option maxRecDepth 100000
set_option maxHeartbeats 4000000
def regex_reader_next.f (k : Nat) (x0 : T_regex_reader) : Option (T_regex_sign × T_regex_reader) := ((regex_reader_peek.f k x0).bind fun y2 => (if (y2.2.rest.length : Int) > 0 then ((cutL y2.2.rest 1).bind fun l9 => (some (y2.1, (T_regex_reader.mk l9 y2.2.bad)))) else (some (y2.1, y2.2))))
abbrev regex_reader_next.C (k : Nat) : Prop := ∀ {x0 : T_regex_reader} {x0v0 : Value} {bx0 : Nat} {F : List It} {I : IMem} {w : World} {r : T_regex_sign × T_regex_reader}, Glob I → Own I w (.bk bx0 44 [x0v0, .bool x0.bad] :: F) → SlR R_regex_sign I x0v0 x0.rest → regex_reader_next.f k x0 = some r →
    Calls Tryd.prog 29 #[.pointer (some ⟨bx0, 0, none⟩)] w fun e w' => ∃ v, e = .returned v ∧ ∃ (y_1v0 : Value) (J : IMem), I.le J ∧ v = .agg #[.int .i32 r.1.c, .int .u32 r.1.n, .bool r.1.digits] ∧ SlR R_regex_sign J y_1v0 r.2.rest ∧ Own J w' (.bk bx0 44 [y_1v0, .bool r.2.bad] :: F)
theorem regex_reader_next.ok (k : Nat) : regex_reader_next.C k := by
  intro x0 x0v0 bx0 F I w r hG S x0h0 H
  have hI := IMem.le.refl I
  rw [regex_reader_next.f] at H
  refine Calls.ofFW (args := [.pointer (some ⟨bx0, 0, none⟩)]) Tryd.func29 rfl rfl ?_
  refine FW.seq ?_
  refine FW.region ?_
  refine U rfl rfl (o_all tz51 S fun b1 w S => ?_)
  refine FW.seq ?_
  refine FW.region ?_
  refine U rfl rfl (V (x_movV (v := .pointer (some ⟨bx0, 0, none⟩)) rfl) ?_)
  obtain ⟨y2, hy3, H⟩ := obx H
  refine U rfl rfl (cl fb18 (@regex_reader_peek.ok k x0 _ _ _ _ _ _ hG (S.sel 2 [1, 0] rfl) x0h0 hy3) rfl ?_)
  rintro _ w ⟨y2_1v0, J4, hJ5, rfl, y2_1h0, S⟩
  have hI := hI.trans hJ5
  have hG := hG.mono hJ5
  refine U rfl rfl (o_all tz51 S fun b6 w S => ?_)
  refine U rfl rfl (o_stA tag51 S 0 rfl rfl rfl rfl (c1 rfl (c1 rfl (c1 rfl c0))) rfl fun w S => ?_)
  refine FW.seq ?_
  refine FW.seq ?_
  refine FW.region ?_
  refine U rfl rfl (V (x_movV (v := .pointer (some ⟨bx0, 0, none⟩)) rfl) ?_)
  refine U rfl rfl (V (x_nk rfl) ?_)
  refine U rfl rfl (V (x_fa tf44_0 rfl) ?_)
  refine U rfl rfl (V (x_ld tsc39 rfl (S.load 1 rfl 0 rfl)) ?_)
  refine U rfl rfl (V (x_lenD (r := R_regex_sign) tsl39 y2_1h0) ?_)
  refine U rfl rfl (V (x_bin rfl rfl rfl) ?_)
  by_cases cc7 : (y2.2.rest.length : Int) > 0
  · rw [if_pos cc7] at H
    refine FW.condT rfl (deT cc7) ?_
    refine FW.anew [(0, .pointer (some ⟨bx0, 0, none⟩)), (2, .pointer (some ⟨b1, 0, none⟩)), (3, .pointer (some ⟨b6, 0, none⟩))] ⟨rfl, rfl, rfl, trivial⟩ fun σ => ?_
    refine FW.region ?_
    refine U rfl rfl (V (x_movV (v := .pointer (some ⟨bx0, 0, none⟩)) rfl) ?_)
    refine U rfl rfl (V (x_movV (v := .pointer (some ⟨bx0, 0, none⟩)) rfl) ?_)
    refine U rfl rfl (V (x_nk rfl) ?_)
    refine U rfl rfl (V (x_fa tf44_0 rfl) ?_)
    refine U rfl rfl (V (x_ld tsc39 rfl (S.load 1 rfl 0 rfl)) ?_)
    obtain ⟨l9, h8, H⟩ := obx H
    refine U rfl rfl (o_cutL (r := R_regex_sign) tsl39 rfl y2_1h0 rfl h8 fun v10 h11 => ?_)
    refine U rfl rfl (V (x_nk rfl) ?_)
    refine U rfl rfl (V (x_fa tf44_0 rfl) ?_)
    refine U rfl rfl (o_st tone39 S 1 rfl rfl rfl h11.one fun w S => ?_)
    refine FW.seq ?_
    refine FW.anew [(2, .pointer (some ⟨b1, 0, none⟩)), (3, .pointer (some ⟨b6, 0, none⟩))] ⟨rfl, rfl, trivial⟩ fun σ => ?_
    refine FW.region ?_
    refine U rfl rfl (V (x_ldA tag51 rfl (S.loadW 0 rfl) rfl) ?_)
    refine U rfl rfl (o_stA tag51 S 2 rfl rfl rfl rfl (c1 rfl (c1 rfl (c1 rfl c0))) rfl fun w S => ?_)
    refine FW.ret ?_
    obtain rfl := Option.some.inj H
    exact ⟨_, ⟨_, _, _, rfl, rfl, ldA tag51 (S.loadW 2 rfl) rfl, rfl⟩, ⟨v10, J4, hI, rfl, h11, (S.sel 3 [1] rfl)⟩⟩
  · rw [if_neg cc7] at H
    refine FW.condF rfl (deF cc7) ?_
    refine FW.skip ?_
    refine FW.seq ?_
    refine FW.anew [(2, .pointer (some ⟨b1, 0, none⟩)), (3, .pointer (some ⟨b6, 0, none⟩))] ⟨rfl, rfl, trivial⟩ fun σ => ?_
    refine FW.region ?_
    refine U rfl rfl (V (x_ldA tag51 rfl (S.loadW 0 rfl) rfl) ?_)
    refine U rfl rfl (o_stA tag51 S 2 rfl rfl rfl rfl (c1 rfl (c1 rfl (c1 rfl c0))) rfl fun w S => ?_)
    refine FW.ret ?_
    obtain rfl := Option.some.inj H
    exact ⟨_, ⟨_, _, _, rfl, rfl, ldA tag51 (S.loadW 2 rfl) rfl, rfl⟩, ⟨y2_1v0, J4, hI, rfl, y2_1h0, (S.sel 3 [1] rfl)⟩⟩
def regex_reader_repeats.l0 : Nat → Int → (List T_regex_piece) → (List T_regex_span) → Bool → (List T_regex_sign) → Bool → Option (Sum (T_regex_piece × T_regex_reader) Unit)
  | 0, _, _, _, _, _, _ => none
  | k + 1, n4, l5, l8, b11, l12, b15 => ((regex_reader_peek.f k (T_regex_reader.mk l12 b15)).bind fun y22 => (if y22.1.c = 42 then ((regex_reader_next.f k y22.2).bind fun y27 => (regex_reader_repeats.l0 k 7 [(T_regex_piece.mk n4 l5 l8 b11)] [] false y27.2.rest y27.2.bad)) else (if y22.1.c = 43 then ((regex_reader_next.f k y22.2).bind fun y36 => (regex_reader_repeats.l0 k 8 [(T_regex_piece.mk n4 l5 l8 b11)] [] false y36.2.rest y36.2.bad)) else (if y22.1.c = 63 then ((regex_reader_next.f k y22.2).bind fun y45 => (regex_reader_repeats.l0 k 9 [(T_regex_piece.mk n4 l5 l8 b11)] [] false y45.2.rest y45.2.bad)) else (some (.inl ((T_regex_piece.mk n4 l5 l8 b11), y22.2)))))))
def regex_reader_repeats.f (k : Nat) (x0 : T_regex_reader) (x1 : T_regex_piece) : Option (T_regex_piece × T_regex_reader) := ((regex_reader_repeats.l0 k x1.kind x1.parts x1.spans x1.not x0.rest x0.bad).bind fun o => match o with | .inl r => some r | .inr _ => none)
abbrev regex_reader_repeats.C (k : Nat) : Prop := ∀ {x0 : T_regex_reader} {x1 : T_regex_piece} {x0v0 : Value} {x1v1 : Value} {x1v2 : Value} {bx0 : Nat} {F : List It} {I : IMem} {w : World} {r : T_regex_piece × T_regex_reader}, Glob I → Own I w (.bk bx0 44 [x0v0, .bool x0.bad] :: F) → SlR R_regex_sign I x0v0 x0.rest → SlR R_regex_piece I x1v1 x1.parts → SlR R_regex_span I x1v2 x1.spans → regex_reader_repeats.f k x0 x1 = some r →
    Calls Tryd.prog 43 #[.pointer (some ⟨bx0, 0, none⟩), .agg #[.int .i64 x1.kind, x1v1, x1v2, .bool x1.not]] w fun e w' => ∃ v, e = .returned v ∧ ∃ (y_0v1 : Value) (y_0v2 : Value) (y_1v0 : Value) (J : IMem), I.le J ∧ v = .agg #[.int .i64 r.1.kind, y_0v1, y_0v2, .bool r.1.not] ∧ SlR R_regex_piece J y_0v1 r.1.parts ∧ SlR R_regex_span J y_0v2 r.1.spans ∧ SlR R_regex_sign J y_1v0 r.2.rest ∧ Own J w' (.bk bx0 44 [y_1v0, .bool r.2.bad] :: F)
theorem regex_reader_repeats.ok (k : Nat) : regex_reader_repeats.C k := by
  intro x0 x1 x0v0 x1v1 x1v2 bx0 F I w r hG S x0h0 x1h1 x1h2 H
  have hI := IMem.le.refl I
  rw [regex_reader_repeats.f] at H
  refine Calls.ofFW (args := [.pointer (some ⟨bx0, 0, none⟩), .agg #[.int .i64 x1.kind, x1v1, x1v2, .bool x1.not]]) Tryd.func43 rfl rfl ?_
  refine FW.seq ?_
  refine FW.region ?_
  refine U rfl rfl (o_boxA rfl S fun b1 w S => ?_)
  refine U rfl rfl (o_all tz48 S fun b2 w S => ?_)
  refine FW.block ?_
  obtain ⟨o18, hl20, HO19⟩ := obx H
  ·
    refine FW.loop k (FL.ind (fun q σ w => ∃ (n4 : Int) (l5 : (List T_regex_piece)) (l8 : (List T_regex_span)) (b11 : Bool) (l12 : (List T_regex_sign)) (b15 : Bool) (v6 : Value) (v9 : Value) (v13 : Value) (J3 : IMem), regex_reader_repeats.l0 q n4 l5 l8 b11 l12 b15 = some o18 ∧ q ≤ k ∧ Has σ [(0, .pointer (some ⟨bx0, 0, none⟩)), (3, .pointer (some ⟨b1, 0, none⟩)), (4, .pointer (some ⟨b2, 0, none⟩))] ∧ I.le J3 ∧ Own J3 w (.bk b2 48 [.int .i64 0, (.slice none 0 0), (.slice none 0 0), .bool false] :: .bk b1 48 [.int .i64 n4, v6, v9, .bool b11] :: .bk bx0 44 [v13, .bool b15] :: F) ∧ SlR R_regex_piece J3 v6 l5 ∧ SlR R_regex_span J3 v9 l8 ∧ SlR R_regex_sign J3 v13 l12) ?_ ?_ k k _ _ (Nat.le_refl _) ⟨x1.kind, x1.parts, x1.spans, x1.not, x0.rest, x0.bad, x1v1, x1v2, x0v0, I, hl20, Nat.le_refl _, ⟨rfl, rfl, rfl, trivial⟩, (IMem.le.refl _), S, x1h1, x1h2, x0h0⟩)
    · rintro σ w ⟨n4, l5, l8, b11, l12, b15, v6, v9, v13, J3, H, _⟩; cases H
    · rintro q16 σ w ⟨n4, l5, l8, b11, l12, b15, v6, v9, v13, J3, H, hq21, hσ, hL17, S, h7, h10, h14⟩
      have hI := hI.trans hL17
      have hG := hG.mono hL17
      rw [hσ.eq]
      rw [regex_reader_repeats.l0] at H
      refine FW.block ?_
      refine FW.seq ?_
      refine FW.region ?_
      refine U rfl rfl (V (x_asgV (v := .int .i64 0) rfl) ?_)
      refine FW.seq ?_
      refine FW.seq ?_
      refine FW.region ?_
      refine U rfl rfl (V (x_movV (v := .pointer (some ⟨bx0, 0, none⟩)) rfl) ?_)
      obtain ⟨y22, hy23, H⟩ := obx H
      refine U rfl rfl (cl fb18 (@regex_reader_peek.ok q16 (T_regex_reader.mk l12 b15) _ _ _ _ _ _ hG (S.sel 3 [2, 0, 1] rfl) h14 hy23) rfl ?_)
      rintro _ w ⟨y22_1v0, J24, hJ25, rfl, y22_1h0, S⟩
      have h7 := h7.mono hJ25
      have h10 := h10.mono hJ25
      have hI := hI.trans hJ25
      have hL17 := hL17.trans hJ25
      have hG := hG.mono hJ25
      refine U rfl rfl (V (x_fld tf51_0 tsc21 rfl rfl) ?_)
      refine FW.block ?_
      refine FW.seq ?_
      refine FW.region ?_
      refine U rfl rfl (V (x_bin rfl rfl rfl) ?_)
      refine U rfl rfl (V (x_asgV (v := .bool (y22.1.c == 42)) rfl) ?_)
      by_cases cc26 : y22.1.c = 42
      · rw [if_pos cc26] at H
        refine FW.condT rfl (eqT cc26) ?_
        refine FW.region ?_
        refine U rfl rfl (V (x_asgV (v := .int .i64 7) rfl) ?_)
        refine FW.seq ?_
        refine FW.anew [(0, .pointer (some ⟨bx0, 0, none⟩)), (3, .pointer (some ⟨b1, 0, none⟩)), (4, .pointer (some ⟨b2, 0, none⟩)), (5, .int .i64 7)] ⟨rfl, rfl, rfl, rfl, trivial⟩ fun σ => ?_
        refine FW.region ?_
        refine U rfl rfl (V (x_movV (v := .pointer (some ⟨bx0, 0, none⟩)) rfl) ?_)
        obtain ⟨y27, hy28, H⟩ := obx H
        refine U rfl rfl (cl fb29 (@regex_reader_next.ok q16 y22.2 _ _ _ _ _ _ hG S y22_1h0 hy28) rfl ?_)
        rintro _ w ⟨y27_1v0, J29, hJ30, rfl, y27_1h0, S⟩
        have h7 := h7.mono hJ30
        have h10 := h10.mono hJ30
        have hI := hI.trans hJ30
        have hL17 := hL17.trans hJ30
        have hG := hG.mono hJ30
        refine FW.region ?_
        refine U rfl rfl (V (x_movV (v := .int .i64 7) rfl) ?_)
        refine U rfl rfl (V (x_ldA tag48 rfl (S.loadW 2 rfl) rfl) ?_)
        refine U rfl rfl (o_bsl tsl45 tz48 rfl rfl rfl rfl (.agg PC.nil) rfl S fun b31 w S => ?_)
        obtain ⟨J32, hJ34, S, h33⟩ := S.freeze (r := R_regex_piece) (l := [(T_regex_piece.mk n4 l5 l8 b11)]) 0 rfl ⟨[.int .i64 n4, v6, v9, .bool b11], _, rfl, (R_regex_piece.mk (x := (T_regex_piece.mk n4 l5 l8 b11)) h7 h10), rfl⟩ rfl rfl
        have h7 := h7.mono hJ34
        have h10 := h10.mono hJ34
        have y27_1h0 := y27_1h0.mono hJ34
        have hI := hI.trans hJ34
        have hL17 := hL17.trans hJ34
        have hG := hG.mono hJ34
        refine U rfl rfl (V (x_bld tz48 tpl48 rfl (.one rfl (.one h33.one PC.nil)) rfl) ?_)
        refine U rfl rfl (o_stA tag48 S 3 rfl rfl rfl rfl (c1 rfl (c1 h33.one (c1 rfl (c1 rfl c0)))) rfl fun w S => ?_)
        exact ⟨q16, Nat.le_refl _, 7, [(T_regex_piece.mk n4 l5 l8 b11)], [], false, y27.2.rest, y27.2.bad, (.slice (some ⟨b31, 0, none⟩) 1 1), (.slice none 0 0), y27_1v0, J32, H, (Nat.le_of_succ_le hq21), ⟨rfl, rfl, rfl, trivial⟩, hL17, (S.sel 4 [2, 3, 1] rfl), h33, (SlR.nil _ _), y27_1h0⟩
      · rw [if_neg cc26] at H
        refine FW.condF rfl (eqF cc26) ?_
        refine FW.seq ?_
        refine FW.region ?_
        refine U rfl rfl (V (x_bin rfl rfl rfl) ?_)
        refine U rfl rfl (V (x_asgV (v := .bool (y22.1.c == 43)) rfl) ?_)
        by_cases cc35 : y22.1.c = 43
        · rw [if_pos cc35] at H
          refine FW.condT rfl (eqT cc35) ?_
          refine FW.anew [(0, .pointer (some ⟨bx0, 0, none⟩)), (3, .pointer (some ⟨b1, 0, none⟩)), (4, .pointer (some ⟨b2, 0, none⟩))] ⟨rfl, rfl, rfl, trivial⟩ fun σ => ?_
          refine FW.region ?_
          refine U rfl rfl (V (x_asgV (v := .int .i64 8) rfl) ?_)
          refine FW.seq ?_
          refine FW.region ?_
          refine U rfl rfl (V (x_movV (v := .pointer (some ⟨bx0, 0, none⟩)) rfl) ?_)
          obtain ⟨y36, hy37, H⟩ := obx H
          refine U rfl rfl (cl fb29 (@regex_reader_next.ok q16 y22.2 _ _ _ _ _ _ hG S y22_1h0 hy37) rfl ?_)
          rintro _ w ⟨y36_1v0, J38, hJ39, rfl, y36_1h0, S⟩
          have h7 := h7.mono hJ39
          have h10 := h10.mono hJ39
          have hI := hI.trans hJ39
          have hL17 := hL17.trans hJ39
          have hG := hG.mono hJ39
          refine FW.region ?_
          refine U rfl rfl (V (x_movV (v := .int .i64 8) rfl) ?_)
          refine U rfl rfl (V (x_ldA tag48 rfl (S.loadW 2 rfl) rfl) ?_)
          refine U rfl rfl (o_bsl tsl45 tz48 rfl rfl rfl rfl (.agg PC.nil) rfl S fun b40 w S => ?_)
          obtain ⟨J41, hJ43, S, h42⟩ := S.freeze (r := R_regex_piece) (l := [(T_regex_piece.mk n4 l5 l8 b11)]) 0 rfl ⟨[.int .i64 n4, v6, v9, .bool b11], _, rfl, (R_regex_piece.mk (x := (T_regex_piece.mk n4 l5 l8 b11)) h7 h10), rfl⟩ rfl rfl
          have h7 := h7.mono hJ43
          have h10 := h10.mono hJ43
          have y36_1h0 := y36_1h0.mono hJ43
          have hI := hI.trans hJ43
          have hL17 := hL17.trans hJ43
          have hG := hG.mono hJ43
          refine U rfl rfl (V (x_bld tz48 tpl48 rfl (.one rfl (.one h42.one PC.nil)) rfl) ?_)
          refine U rfl rfl (o_stA tag48 S 3 rfl rfl rfl rfl (c1 rfl (c1 h42.one (c1 rfl (c1 rfl c0)))) rfl fun w S => ?_)
          exact ⟨q16, Nat.le_refl _, 8, [(T_regex_piece.mk n4 l5 l8 b11)], [], false, y36.2.rest, y36.2.bad, (.slice (some ⟨b40, 0, none⟩) 1 1), (.slice none 0 0), y36_1v0, J41, H, (Nat.le_of_succ_le hq21), ⟨rfl, rfl, rfl, trivial⟩, hL17, (S.sel 4 [2, 3, 1] rfl), h42, (SlR.nil _ _), y36_1h0⟩
        · rw [if_neg cc35] at H
          refine FW.condF rfl (eqF cc35) ?_
          refine FW.seq ?_
          refine FW.anew [(0, .pointer (some ⟨bx0, 0, none⟩)), (3, .pointer (some ⟨b1, 0, none⟩)), (4, .pointer (some ⟨b2, 0, none⟩)), (8, .int .i32 y22.1.c)] ⟨rfl, rfl, rfl, rfl, trivial⟩ fun σ => ?_
          refine FW.region ?_
          refine U rfl rfl (V (x_bin rfl rfl rfl) ?_)
          refine U rfl rfl (V (x_asgV (v := .bool (y22.1.c == 63)) rfl) ?_)
          by_cases cc44 : y22.1.c = 63
          · rw [if_pos cc44] at H
            refine FW.condT rfl (eqT cc44) ?_
            refine FW.region ?_
            refine U rfl rfl (V (x_asgV (v := .int .i64 9) rfl) ?_)
            refine FW.seq ?_
            refine FW.region ?_
            refine U rfl rfl (V (x_movV (v := .pointer (some ⟨bx0, 0, none⟩)) rfl) ?_)
            obtain ⟨y45, hy46, H⟩ := obx H
            refine U rfl rfl (cl fb29 (@regex_reader_next.ok q16 y22.2 _ _ _ _ _ _ hG S y22_1h0 hy46) rfl ?_)
            rintro _ w ⟨y45_1v0, J47, hJ48, rfl, y45_1h0, S⟩
            have h7 := h7.mono hJ48
            have h10 := h10.mono hJ48
            have hI := hI.trans hJ48
            have hL17 := hL17.trans hJ48
            have hG := hG.mono hJ48
            refine FW.region ?_
            refine U rfl rfl (V (x_movV (v := .int .i64 9) rfl) ?_)
            refine U rfl rfl (V (x_ldA tag48 rfl (S.loadW 2 rfl) rfl) ?_)
            refine U rfl rfl (o_bsl tsl45 tz48 rfl rfl rfl rfl (.agg PC.nil) rfl S fun b49 w S => ?_)
            obtain ⟨J50, hJ52, S, h51⟩ := S.freeze (r := R_regex_piece) (l := [(T_regex_piece.mk n4 l5 l8 b11)]) 0 rfl ⟨[.int .i64 n4, v6, v9, .bool b11], _, rfl, (R_regex_piece.mk (x := (T_regex_piece.mk n4 l5 l8 b11)) h7 h10), rfl⟩ rfl rfl
            have h7 := h7.mono hJ52
            have h10 := h10.mono hJ52
            have y45_1h0 := y45_1h0.mono hJ52
            have hI := hI.trans hJ52
            have hL17 := hL17.trans hJ52
            have hG := hG.mono hJ52
            refine U rfl rfl (V (x_bld tz48 tpl48 rfl (.one rfl (.one h51.one PC.nil)) rfl) ?_)
            refine U rfl rfl (o_stA tag48 S 3 rfl rfl rfl rfl (c1 rfl (c1 h51.one (c1 rfl (c1 rfl c0)))) rfl fun w S => ?_)
            exact ⟨q16, Nat.le_refl _, 9, [(T_regex_piece.mk n4 l5 l8 b11)], [], false, y45.2.rest, y45.2.bad, (.slice (some ⟨b49, 0, none⟩) 1 1), (.slice none 0 0), y45_1v0, J50, H, (Nat.le_of_succ_le hq21), ⟨rfl, rfl, rfl, trivial⟩, hL17, (S.sel 4 [2, 3, 1] rfl), h51, (SlR.nil _ _), y45_1h0⟩
          · rw [if_neg cc44] at H
            refine FW.condF rfl (eqF cc44) ?_
            refine FW.seq ?_
            refine FW.region ?_
            refine U rfl rfl (V (x_ldA tag48 rfl (S.loadW 2 rfl) rfl) ?_)
            refine U rfl rfl (o_stA tag48 S 1 rfl rfl rfl rfl (c1 rfl (c1 h7.one (c1 h10.one (c1 rfl c0)))) rfl fun w S => ?_)
            refine FW.ret ?_
            obtain rfl := Option.some.inj H
            obtain rfl := Option.some.inj HO19
            exact ⟨_, ⟨_, _, _, rfl, rfl, ldA tag48 (S.loadW 1 rfl) rfl, rfl⟩, ⟨v6, v9, y22_1v0, J24, hI, rfl, h7, h10, y22_1h0, (S.sel 3 [0] rfl)⟩⟩
def regex_reader_set.l1 : Nat → (List T_regex_sign) → Bool → Option ((List T_regex_sign) × Bool)
  | 0, _, _ => none
  | k + 1, l37, b40 => ((regex_reader_peek.f k (T_regex_reader.mk l37 b40)).bind fun y52 => (if y52.1.c = 44 then ((regex_reader_next.f k y52.2).bind fun y57 => (regex_reader_set.l1 k y57.2.rest y57.2.bad)) else (some (y52.2.rest, y52.2.bad))))
def regex_reader_set.l0 : Nat → Bool → (List T_regex_sign) → Bool → (List T_regex_span) → Option (Sum (T_regex_piece × T_regex_reader) Unit)
  | 0, _, _, _, _ => none
  | k + 1, b12, l23, b26, l27 => ((regex_reader_set.l1 k l23 b26).bind fun (l47, b50) => ((regex_reader_next.f k (T_regex_reader.mk l47 b50)).bind fun y61 => (if y61.1.digits = true then (if (y61.2.rest.length : Int) > 0 then ((lat y61.2.rest 0).bind fun y69 => (((if y69.c = 45 then ((regex_reader_next.f k y61.2).bind fun y88 => (if (y88.2.rest.length : Int) = 0 then (some (.inl ((T_regex_piece.mk 4 [] l27 b12), (T_regex_reader.mk y88.2.rest true)))) else ((lat y88.2.rest 0).bind fun y93 => (if y93.digits = true then ((regex_reader_next.f k y88.2).bind fun y101 => (some (.inr (y101.1.c, y101.1.n, y101.1.digits, y101.2.rest, y101.2.bad)))) else (some (.inl ((T_regex_piece.mk 4 [] l27 b12), (T_regex_reader.mk y88.2.rest true)))))))) else (some (.inr (y61.1.c, y61.1.n, y61.1.digits, y61.2.rest, y61.2.bad)))) : Option (Sum (T_regex_piece × T_regex_reader) (Int × Int × Bool × (List T_regex_sign) × Bool))).bind fun o => match o with | .inl r => some (.inl r) | .inr (n77, n78, b79, l80, b83) => (if b83 = true then ((app 8 l27 [(T_regex_span.mk y61.1.n n78)]).bind fun l110 => (regex_reader_set.l0 k b12 l80 true l110)) else ((app 8 l27 [(T_regex_span.mk y61.1.n n78)]).bind fun l120 => (regex_reader_set.l0 k b12 l80 (decide (y61.1.n > n78)) l120))))) else (if y61.2.bad = true then ((app 8 l27 [(T_regex_span.mk y61.1.n y61.1.n)]).bind fun l131 => (regex_reader_set.l0 k b12 y61.2.rest true l131)) else ((app 8 l27 [(T_regex_span.mk y61.1.n y61.1.n)]).bind fun l141 => (regex_reader_set.l0 k b12 y61.2.rest (decide (y61.1.n > y61.1.n)) l141)))) else (if y61.2.bad = true then (some (.inl ((T_regex_piece.mk 4 [] l27 b12), (T_regex_reader.mk y61.2.rest true)))) else (if y61.1.c = 93 then (some (.inl ((T_regex_piece.mk 4 [] l27 b12), (T_regex_reader.mk y61.2.rest ((l27.length : Int) == 0))))) else (some (.inl ((T_regex_piece.mk 4 [] l27 b12), (T_regex_reader.mk y61.2.rest true)))))))))
def regex_reader_set.f (k : Nat) (x0 : T_regex_reader) : Option (T_regex_piece × T_regex_reader) := ((regex_reader_peek.f k x0).bind fun y3 => ((if y3.1.c = 94 then ((regex_reader_next.f k y3.2).bind fun y17 => (some (y17.2.rest, y17.2.bad, true))) else (some (y3.2.rest, y3.2.bad, false))).bind fun (l8, b11, b12) => ((regex_reader_set.l0 k b12 l8 b11 []).bind fun o => match o with | .inl r => some r | .inr _ => none)))
abbrev regex_reader_set.C (k : Nat) : Prop := ∀ {x0 : T_regex_reader} {x0v0 : Value} {bx0 : Nat} {F : List It} {I : IMem} {w : World} {r : T_regex_piece × T_regex_reader}, Glob I → Own I w (.bk bx0 44 [x0v0, .bool x0.bad] :: F) → SlR R_regex_sign I x0v0 x0.rest → regex_reader_set.f k x0 = some r →
    Calls Tryd.prog 50 #[.pointer (some ⟨bx0, 0, none⟩)] w fun e w' => ∃ v, e = .returned v ∧ ∃ (y_0v1 : Value) (y_0v2 : Value) (y_1v0 : Value) (J : IMem), I.le J ∧ v = .agg #[.int .i64 r.1.kind, y_0v1, y_0v2, .bool r.1.not] ∧ SlR R_regex_piece J y_0v1 r.1.parts ∧ SlR R_regex_span J y_0v2 r.1.spans ∧ SlR R_regex_sign J y_1v0 r.2.rest ∧ Own J w' (.bk bx0 44 [y_1v0, .bool r.2.bad] :: F)
theorem regex_reader_set.ok (k : Nat) : regex_reader_set.C k := by
  intro x0 x0v0 bx0 F I w r hG S x0h0 H
  have hI := IMem.le.refl I
  rw [regex_reader_set.f] at H
  refine Calls.ofFW (args := [.pointer (some ⟨bx0, 0, none⟩)]) Tryd.func50 rfl rfl ?_
  refine FW.seq ?_
  refine FW.region ?_
  refine U rfl rfl (o_all tz48 S fun b1 w S => ?_)
  refine FW.seq ?_
  refine FW.region ?_
  refine U rfl rfl (V (x_bld tz48 tpl48 rfl (.one rfl PC.nil) rfl) ?_)
  refine U rfl rfl (o_all tz48 S fun b2 w S => ?_)
  refine U rfl rfl (o_stA tag48 S 0 rfl rfl rfl rfl (c1 rfl (c1 rfl (c1 rfl (c1 rfl c0)))) rfl fun w S => ?_)
  refine FW.seq ?_
  refine FW.seq ?_
  refine FW.region ?_
  refine U rfl rfl (V (x_movV (v := .pointer (some ⟨bx0, 0, none⟩)) rfl) ?_)
  obtain ⟨y3, hy4, H⟩ := obx H
  refine U rfl rfl (cl fb18 (@regex_reader_peek.ok k x0 _ _ _ _ _ _ hG (S.sel 3 [2, 0, 1] rfl) x0h0 hy4) rfl ?_)
  rintro _ w ⟨y3_1v0, J5, hJ6, rfl, y3_1h0, S⟩
  have hI := hI.trans hJ6
  have hG := hG.mono hJ6
  refine U rfl rfl (V (x_fld tf51_0 tsc21 rfl rfl) ?_)
  refine U rfl rfl (V (x_bin rfl rfl rfl) ?_)
  obtain ⟨o13, H, HO14⟩ := obx H
  have hL15 := IMem.le.refl J5
  refine FW.cutN (fun σ w => ∃ (l8 : (List T_regex_sign)) (b11 : Bool) (b12 : Bool) (v9 : Value) (J7 : IMem), (l8, b11, b12) = o13 ∧ Has σ [(0, .pointer (some ⟨bx0, 0, none⟩)), (2, .pointer (some ⟨b1, 0, none⟩)), (3, .pointer (some ⟨b2, 0, none⟩))] ∧ J5.le J7 ∧ Own J7 w (.bk bx0 44 [v9, .bool b11] :: .bk b2 48 [.int .i64 4, (.slice none 0 0), (.slice none 0 0), .bool b12] :: .bk b1 48 [.int .i64 0, (.slice none 0 0), (.slice none 0 0), .bool false] :: F) ∧ SlR R_regex_sign J7 v9 l8) ?_ ?_
  ·
    by_cases cc16 : y3.1.c = 94
    · rw [if_pos cc16] at H
      refine FW.condT rfl (eqT cc16) ?_
      refine FW.seq ?_
      refine FW.anew [(0, .pointer (some ⟨bx0, 0, none⟩)), (2, .pointer (some ⟨b1, 0, none⟩)), (3, .pointer (some ⟨b2, 0, none⟩))] ⟨rfl, rfl, rfl, trivial⟩ fun σ => ?_
      refine FW.region ?_
      refine U rfl rfl (V (x_movV (v := .pointer (some ⟨bx0, 0, none⟩)) rfl) ?_)
      obtain ⟨y17, hy18, H⟩ := obx H
      refine U rfl rfl (cl fb29 (@regex_reader_next.ok k y3.2 _ _ _ _ _ _ hG S y3_1h0 hy18) rfl ?_)
      rintro _ w ⟨y17_1v0, J19, hJ20, rfl, y17_1h0, S⟩
      have hI := hI.trans hJ20
      have hL15 := hL15.trans hJ20
      have hG := hG.mono hJ20
      refine FW.region ?_
      refine U rfl rfl (V (x_fa tf48_3 rfl) ?_)
      refine U rfl rfl (o_st tone4 S 1 rfl rfl rfl rfl fun w S => ?_)
      exact ⟨y17.2.rest, y17.2.bad, true, y17_1v0, J19, (Option.some.inj H), ⟨rfl, rfl, rfl, trivial⟩, hL15, S, y17_1h0⟩
    · rw [if_neg cc16] at H
      refine FW.condF rfl (eqF cc16) ?_
      refine FW.skip ?_
      exact ⟨y3.2.rest, y3.2.bad, false, y3_1v0, J5, (Option.some.inj H), ⟨rfl, rfl, rfl, trivial⟩, hL15, S, y3_1h0⟩
  · rintro σ w ⟨l8, b11, b12, v9, J7, ho, hσ, hL15, S, h10⟩
    subst ho
    have H := HO14
    try dsimp only at H
    have hI := hI.trans hL15
    have hG := hG.mono hL15
    rw [hσ.eq]
    refine FW.block ?_
    have S := S.nil_tv 80 2
    obtain ⟨o32, hl34, HO33⟩ := obx H
    ·
      refine FW.loop k (FL.ind (fun q σ w => ∃ (l23 : (List T_regex_sign)) (b26 : Bool) (l27 : (List T_regex_span)) (v24 : Value) (v28 : Value) (J22 : IMem), regex_reader_set.l0 q b12 l23 b26 l27 = some o32 ∧ q ≤ k ∧ Has σ [(0, .pointer (some ⟨bx0, 0, none⟩)), (2, .pointer (some ⟨b1, 0, none⟩)), (3, .pointer (some ⟨b2, 0, none⟩))] ∧ J7.le J22 ∧ Own J22 w (.tv v28 80 2 :: .bk bx0 44 [v24, .bool b26] :: .bk b2 48 [.int .i64 4, (.slice none 0 0), v28, .bool b12] :: .bk b1 48 [.int .i64 0, (.slice none 0 0), (.slice none 0 0), .bool false] :: F) ∧ SlR R_regex_sign J22 v24 l23 ∧ SlR R_regex_span J22 v28 l27) ?_ ?_ k k _ _ (Nat.le_refl _) ⟨l8, b11, [], v9, (.slice none 0 0), J7, hl34, Nat.le_refl _, ⟨rfl, rfl, rfl, trivial⟩, (IMem.le.refl _), S, h10, (SlR.nil _ _)⟩)
      · rintro σ w ⟨l23, b26, l27, v24, v28, J22, H, _⟩; cases H
      · rintro q30 σ w ⟨l23, b26, l27, v24, v28, J22, H, hq35, hσ, hL31, S, h25, h29⟩
        have hI := hI.trans hL31
        have hG := hG.mono hL31
        rw [hσ.eq]
        rw [regex_reader_set.l0] at H
        refine FW.block ?_
        refine FW.seq ?_
        refine FW.block ?_
        obtain ⟨o43, hl45, HO44⟩ := obx H
        refine FW.cutX 2 (fun σ w => ∃ (l47 : (List T_regex_sign)) (b50 : Bool) (v48 : Value) (J46 : IMem), (l47, b50) = o43 ∧ Has σ [(0, .pointer (some ⟨bx0, 0, none⟩)), (2, .pointer (some ⟨b1, 0, none⟩)), (3, .pointer (some ⟨b2, 0, none⟩))] ∧ J22.le J46 ∧ Own J46 w (.tv v28 80 2 :: .bk bx0 44 [v48, .bool b50] :: .bk b2 48 [.int .i64 4, (.slice none 0 0), v28, .bool b12] :: .bk b1 48 [.int .i64 0, (.slice none 0 0), (.slice none 0 0), .bool false] :: F) ∧ SlR R_regex_sign J46 v48 l47) ?_ ?_
        ·
          refine FW.loop q30 (FL.ind (fun q σ w => ∃ (l37 : (List T_regex_sign)) (b40 : Bool) (v38 : Value) (J36 : IMem), regex_reader_set.l1 q l37 b40 = some o43 ∧ q ≤ q30 ∧ Has σ [(0, .pointer (some ⟨bx0, 0, none⟩)), (2, .pointer (some ⟨b1, 0, none⟩)), (3, .pointer (some ⟨b2, 0, none⟩))] ∧ J22.le J36 ∧ Own J36 w (.tv v28 80 2 :: .bk bx0 44 [v38, .bool b40] :: .bk b2 48 [.int .i64 4, (.slice none 0 0), v28, .bool b12] :: .bk b1 48 [.int .i64 0, (.slice none 0 0), (.slice none 0 0), .bool false] :: F) ∧ SlR R_regex_sign J36 v38 l37) ?_ ?_ q30 q30 _ _ (Nat.le_refl _) ⟨l23, b26, v24, J22, hl45, Nat.le_refl _, ⟨rfl, rfl, rfl, trivial⟩, (IMem.le.refl _), S, h25⟩)
          · rintro σ w ⟨l37, b40, v38, J36, H, _⟩; cases H
          · rintro q41 σ w ⟨l37, b40, v38, J36, H, hq51, hσ, hL42, S, h39⟩
            have h29 := h29.mono hL42
            have hI := hI.trans hL42
            have hL31 := hL31.trans hL42
            have hG := hG.mono hL42
            rw [hσ.eq]
            rw [regex_reader_set.l1] at H
            refine FW.seq ?_
            refine FW.seq ?_
            refine FW.region ?_
            refine U rfl rfl (V (x_movV (v := .pointer (some ⟨bx0, 0, none⟩)) rfl) ?_)
            obtain ⟨y52, hy53, H⟩ := obx H
            refine U rfl rfl (cl fb18 (@regex_reader_peek.ok q41 (T_regex_reader.mk l37 b40) _ _ _ _ _ _ hG (S.sel 4 [1, 0, 2, 3] rfl) h39 hy53) rfl ?_)
            rintro _ w ⟨y52_1v0, J54, hJ55, rfl, y52_1h0, S⟩
            have h29 := h29.mono hJ55
            have hI := hI.trans hJ55
            have hL31 := hL31.trans hJ55
            have hL42 := hL42.trans hJ55
            have hG := hG.mono hJ55
            refine U rfl rfl (V (x_fld tf51_0 tsc21 rfl rfl) ?_)
            refine U rfl rfl (V (x_bin rfl rfl rfl) ?_)
            by_cases cc56 : y52.1.c = 44
            · rw [if_pos cc56] at H
              refine FW.condT rfl (eqT cc56) ?_
              refine FW.skip ?_
              refine FW.block ?_
              refine FW.region ?_
              refine U rfl rfl (V (x_movV (v := .pointer (some ⟨bx0, 0, none⟩)) rfl) ?_)
              obtain ⟨y57, hy58, H⟩ := obx H
              refine U rfl rfl (cl fb29 (@regex_reader_next.ok q41 y52.2 _ _ _ _ _ _ hG S y52_1h0 hy58) rfl ?_)
              rintro _ w ⟨y57_1v0, J59, hJ60, rfl, y57_1h0, S⟩
              have h29 := h29.mono hJ60
              have hI := hI.trans hJ60
              have hL31 := hL31.trans hJ60
              have hL42 := hL42.trans hJ60
              have hG := hG.mono hJ60
              exact ⟨q41, Nat.le_refl _, y57.2.rest, y57.2.bad, y57_1v0, J59, H, (Nat.le_of_succ_le hq51), ⟨rfl, rfl, rfl, trivial⟩, hL42, (S.sel 4 [1, 0, 2, 3] rfl), y57_1h0⟩
            · rw [if_neg cc56] at H
              refine FW.condF rfl (eqF cc56) ?_
              refine FW.exit ?_
              exact ⟨y52.2.rest, y52.2.bad, y52_1v0, J54, (Option.some.inj H), ⟨rfl, rfl, rfl, trivial⟩, hL42, (S.sel 4 [1, 0, 2, 3] rfl), y52_1h0⟩
        · rintro σ w ⟨l47, b50, v48, J46, ho, hσ, hL42, S, h49⟩
          subst ho
          have H := HO44
          try dsimp only at H
          have h29 := h29.mono hL42
          have hI := hI.trans hL42
          have hL31 := hL31.trans hL42
          have hG := hG.mono hL42
          rw [hσ.eq]
          refine FW.seq ?_
          refine FW.region ?_
          refine U rfl rfl (V (x_movV (v := .pointer (some ⟨bx0, 0, none⟩)) rfl) ?_)
          obtain ⟨y61, hy62, H⟩ := obx H
          refine U rfl rfl (cl fb29 (@regex_reader_next.ok q30 (T_regex_reader.mk l47 b50) _ _ _ _ _ _ hG (S.sel 4 [1, 0, 2, 3] rfl) h49 hy62) rfl ?_)
          rintro _ w ⟨y61_1v0, J63, hJ64, rfl, y61_1h0, S⟩
          have h29 := h29.mono hJ64
          have hI := hI.trans hJ64
          have hL31 := hL31.trans hJ64
          have hG := hG.mono hJ64
          refine U rfl rfl (o_all tz51 S fun b65 w S => ?_)
          refine U rfl rfl (o_stA tag51 S 0 rfl rfl rfl rfl (c1 rfl (c1 rfl (c1 rfl c0))) rfl fun w S => ?_)
          refine FW.seq ?_
          refine FW.seq ?_
          refine FW.region ?_
          refine U rfl rfl (V (x_fa tf51_2 rfl) ?_)
          refine U rfl rfl (V (x_ld tsc4 rfl (S.load 0 rfl 2 rfl)) ?_)
          refine U rfl rfl (V (x_not' rfl) ?_)
          by_cases cc66 : y61.1.digits = true
          · rw [if_pos cc66] at H
            refine FW.condF rfl (noF cc66) ?_
            refine FW.skip ?_
            refine FW.seq ?_
            refine FW.anew [(0, .pointer (some ⟨bx0, 0, none⟩)), (2, .pointer (some ⟨b1, 0, none⟩)), (3, .pointer (some ⟨b2, 0, none⟩)), (4, .pointer (some ⟨b65, 0, none⟩))] ⟨rfl, rfl, rfl, rfl, trivial⟩ fun σ => ?_
            refine FW.region ?_
            refine U rfl rfl (V (x_ldA tag51 rfl (S.loadW 0 rfl) rfl) ?_)
            refine U rfl rfl (o_all tz51 S fun b67 w S => ?_)
            refine U rfl rfl (o_stA tag51 S 0 rfl rfl rfl rfl (c1 rfl (c1 rfl (c1 rfl c0))) rfl fun w S => ?_)
            refine FW.seq ?_
            refine FW.seq ?_
            refine FW.region ?_
            refine U rfl rfl (V (x_movV (v := .pointer (some ⟨bx0, 0, none⟩)) rfl) ?_)
            refine U rfl rfl (V (x_nk rfl) ?_)
            refine U rfl rfl (V (x_fa tf44_0 rfl) ?_)
            refine U rfl rfl (V (x_ld tsc39 rfl (S.load 2 rfl 0 rfl)) ?_)
            refine U rfl rfl (V (x_lenD (r := R_regex_sign) tsl39 y61_1h0) ?_)
            refine U rfl rfl (V (x_bin rfl rfl rfl) ?_)
            refine U rfl rfl (V (x_movV (v := .bool (decide ((y61.2.rest.length : Int) > 0))) rfl) ?_)
            by_cases cc68 : (y61.2.rest.length : Int) > 0
            · rw [if_pos cc68] at H
              refine OK.gt rfl rfl rfl (deT cc68) (V (x_movV (v := .pointer (some ⟨bx0, 0, none⟩)) rfl) ?_)
              refine OK.gt rfl rfl rfl (deT cc68) (V (x_nk rfl) ?_)
              refine OK.gt rfl rfl rfl (deT cc68) (V (x_fa tf44_0 rfl) ?_)
              refine OK.gt rfl rfl rfl (deT cc68) (V (x_ld tsc39 rfl (S.load 2 rfl 0 rfl)) ?_)
              obtain ⟨y69, h70, H⟩ := obx H
              refine OK.gt rfl rfl rfl (deT cc68) (o_ia (r := R_regex_sign) tsl39 rfl rfl y61_1h0 rfl h70 fun b71 o72 cs73 hr74 hc75 => ?_)
              obtain rfl := hr74
              refine OK.gt rfl rfl rfl (deT cc68) (V (x_fa tf51_0 rfl) ?_)
              refine OK.gt rfl rfl rfl (deT cc68) (V (x_ld tsc21 rfl (S.cell _ _ _ (hc75 0 _ rfl))) ?_)
              refine OK.gt rfl rfl rfl (deT cc68) (V (x_bin rfl rfl rfl) ?_)
              refine U rfl rfl (V (x_pickTV (v := .bool (y69.c == 45)) rfl (deT cc68) rfl) ?_)
              obtain ⟨o84, H, HO85⟩ := obx H
              have hL86 := IMem.le.refl J63
              refine FW.cutN (fun σ w => ∃ (n77 : Int) (n78 : Int) (b79 : Bool) (l80 : (List T_regex_sign)) (b83 : Bool) (v81 : Value) (J76 : IMem), (.inr (n77, n78, b79, l80, b83)) = o84 ∧ Has σ [(0, .pointer (some ⟨bx0, 0, none⟩)), (2, .pointer (some ⟨b1, 0, none⟩)), (3, .pointer (some ⟨b2, 0, none⟩)), (4, .pointer (some ⟨b65, 0, none⟩)), (5, .pointer (some ⟨b67, 0, none⟩))] ∧ J63.le J76 ∧ Own J76 w (.bk b67 51 [.int .i32 n77, .int .u32 n78, .bool b79] :: .bk b65 51 [.int .i32 y61.1.c, .int .u32 y61.1.n, .bool y61.1.digits] :: .bk bx0 44 [v81, .bool b83] :: .tv v28 80 2 :: .bk b2 48 [.int .i64 4, (.slice none 0 0), v28, .bool b12] :: .bk b1 48 [.int .i64 0, (.slice none 0 0), (.slice none 0 0), .bool false] :: F) ∧ SlR R_regex_sign J76 v81 l80) ?_ ?_
              ·
                by_cases cc87 : y69.c = 45
                · rw [if_pos cc87] at H
                  refine FW.condT rfl (eqT cc87) ?_
                  refine FW.seq ?_
                  refine FW.anew [(0, .pointer (some ⟨bx0, 0, none⟩)), (2, .pointer (some ⟨b1, 0, none⟩)), (3, .pointer (some ⟨b2, 0, none⟩)), (4, .pointer (some ⟨b65, 0, none⟩)), (5, .pointer (some ⟨b67, 0, none⟩))] ⟨rfl, rfl, rfl, rfl, rfl, trivial⟩ fun σ => ?_
                  refine FW.region ?_
                  refine U rfl rfl (V (x_movV (v := .pointer (some ⟨bx0, 0, none⟩)) rfl) ?_)
                  obtain ⟨y88, hy89, H⟩ := obx H
                  refine U rfl rfl (cl fb29 (@regex_reader_next.ok q30 y61.2 _ _ _ _ _ _ hG (S.sel 6 [2, 0, 1, 3, 4, 5] rfl) y61_1h0 hy89) rfl ?_)
                  rintro _ w ⟨y88_1v0, J90, hJ91, rfl, y88_1h0, S⟩
                  have h29 := h29.mono hJ91
                  have hI := hI.trans hJ91
                  have hL31 := hL31.trans hJ91
                  have hL86 := hL86.trans hJ91
                  have hG := hG.mono hJ91
                  refine FW.seq ?_
                  refine FW.seq ?_
                  refine FW.region ?_
                  refine U rfl rfl (V (x_movV (v := .pointer (some ⟨bx0, 0, none⟩)) rfl) ?_)
                  refine U rfl rfl (V (x_nk rfl) ?_)
                  refine U rfl rfl (V (x_fa tf44_0 rfl) ?_)
                  refine U rfl rfl (V (x_ld tsc39 rfl (S.load 0 rfl 0 rfl)) ?_)
                  refine U rfl rfl (V (x_lenD (r := R_regex_sign) tsl39 y88_1h0) ?_)
                  refine U rfl rfl (V (x_bin rfl rfl rfl) ?_)
                  refine U rfl rfl (V (x_movV (v := .bool ((y88.2.rest.length : Int) == 0)) rfl) ?_)
                  by_cases cc92 : (y88.2.rest.length : Int) = 0
                  · rw [if_pos cc92] at H
                    refine OK.gf rfl rfl rfl (eqT cc92) ?_
                    refine OK.gf rfl rfl rfl (eqT cc92) ?_
                    refine OK.gf rfl rfl rfl (eqT cc92) ?_
                    refine OK.gf rfl rfl rfl (eqT cc92) ?_
                    refine OK.gf rfl rfl rfl (eqT cc92) ?_
                    refine OK.gf rfl rfl rfl (eqT cc92) ?_
                    refine OK.gf rfl rfl rfl (eqT cc92) ?_
                    refine OK.gf rfl rfl rfl (eqT cc92) ?_
                    refine U rfl rfl (V (x_pickTV (v := .bool true) rfl (eqT cc92) rfl) ?_)
                    refine FW.condT rfl rfl ?_
                    refine FW.seq ?_
                    refine FW.anew [(0, .pointer (some ⟨bx0, 0, none⟩)), (2, .pointer (some ⟨b1, 0, none⟩)), (3, .pointer (some ⟨b2, 0, none⟩))] ⟨rfl, rfl, rfl, trivial⟩ fun σ => ?_
                    refine FW.region ?_
                    refine U rfl rfl (V (x_movV (v := .pointer (some ⟨bx0, 0, none⟩)) rfl) ?_)
                    refine U rfl rfl (V (x_nk rfl) ?_)
                    refine U rfl rfl (V (x_fa tf44_1 rfl) ?_)
                    refine U rfl rfl (o_st tone4 S 0 rfl rfl rfl rfl fun w S => ?_)
                    refine FW.seq ?_
                    refine FW.region ?_
                    refine U rfl rfl (V (x_ldA tag48 rfl (S.loadW 4 rfl) rfl) ?_)
                    refine U rfl rfl (o_stA tag48 S 5 rfl rfl rfl rfl (c1 rfl (c1 rfl (c1 h29.one (c1 rfl c0)))) rfl fun w S => ?_)
                    refine FW.ret ?_
                    obtain rfl := Option.some.inj H
                    obtain rfl := Option.some.inj HO85
                    obtain rfl := Option.some.inj HO33
                    exact ⟨_, ⟨_, _, _, rfl, rfl, ldA tag48 (S.loadW 5 rfl) rfl, rfl⟩, ⟨(.slice none 0 0), v28, y88_1v0, J90, hI, rfl, (SlR.nil _ _), h29, y88_1h0, (S.sel 6 [0] rfl)⟩⟩
                  · rw [if_neg cc92] at H
                    refine OK.gt rfl rfl rfl (eqF cc92) (V (x_movV (v := .pointer (some ⟨bx0, 0, none⟩)) rfl) ?_)
                    refine OK.gt rfl rfl rfl (eqF cc92) (V (x_nk rfl) ?_)
                    refine OK.gt rfl rfl rfl (eqF cc92) (V (x_fa tf44_0 rfl) ?_)
                    refine OK.gt rfl rfl rfl (eqF cc92) (V (x_ld tsc39 rfl (S.load 0 rfl 0 rfl)) ?_)
                    obtain ⟨y93, h94, H⟩ := obx H
                    refine OK.gt rfl rfl rfl (eqF cc92) (o_ia (r := R_regex_sign) tsl39 rfl rfl y88_1h0 rfl h94 fun b95 o96 cs97 hr98 hc99 => ?_)
                    obtain rfl := hr98
                    refine OK.gt rfl rfl rfl (eqF cc92) (V (x_fa tf51_2 rfl) ?_)
                    refine OK.gt rfl rfl rfl (eqF cc92) (V (x_ld tsc4 rfl (S.cell _ _ _ (hc99 2 _ rfl))) ?_)
                    refine OK.gt rfl rfl rfl (eqF cc92) (V (x_not' rfl) ?_)
                    refine U rfl rfl (V (x_pickFV (v := .bool (!y93.digits)) rfl (eqF cc92) rfl) ?_)
                    by_cases cc100 : y93.digits = true
                    · rw [if_pos cc100] at H
                      refine FW.condF rfl (noF cc100) ?_
                      refine FW.skip ?_
                      refine FW.anew [(0, .pointer (some ⟨bx0, 0, none⟩)), (2, .pointer (some ⟨b1, 0, none⟩)), (3, .pointer (some ⟨b2, 0, none⟩)), (4, .pointer (some ⟨b65, 0, none⟩)), (5, .pointer (some ⟨b67, 0, none⟩))] ⟨rfl, rfl, rfl, rfl, rfl, trivial⟩ fun σ => ?_
                      refine FW.region ?_
                      refine U rfl rfl (V (x_movV (v := .pointer (some ⟨bx0, 0, none⟩)) rfl) ?_)
                      obtain ⟨y101, hy102, H⟩ := obx H
                      refine U rfl rfl (cl fb29 (@regex_reader_next.ok q30 y88.2 _ _ _ _ _ _ hG S y88_1h0 hy102) rfl ?_)
                      rintro _ w ⟨y101_1v0, J103, hJ104, rfl, y101_1h0, S⟩
                      have h29 := h29.mono hJ104
                      have hI := hI.trans hJ104
                      have hL31 := hL31.trans hJ104
                      have hL86 := hL86.trans hJ104
                      have hG := hG.mono hJ104
                      refine U rfl rfl (o_stA tag51 S 1 rfl rfl rfl rfl (c1 rfl (c1 rfl (c1 rfl c0))) rfl fun w S => ?_)
                      exact ⟨y101.1.c, y101.1.n, y101.1.digits, y101.2.rest, y101.2.bad, y101_1v0, J103, (Option.some.inj H), ⟨rfl, rfl, rfl, rfl, rfl, trivial⟩, hL86, (S.sel 6 [1, 2, 0, 3, 4, 5] rfl), y101_1h0⟩
                    · rw [if_neg cc100] at H
                      refine FW.condT rfl (noT (vaF cc100)) ?_
                      refine FW.seq ?_
                      refine FW.anew [(0, .pointer (some ⟨bx0, 0, none⟩)), (2, .pointer (some ⟨b1, 0, none⟩)), (3, .pointer (some ⟨b2, 0, none⟩))] ⟨rfl, rfl, rfl, trivial⟩ fun σ => ?_
                      refine FW.region ?_
                      refine U rfl rfl (V (x_movV (v := .pointer (some ⟨bx0, 0, none⟩)) rfl) ?_)
                      refine U rfl rfl (V (x_nk rfl) ?_)
                      refine U rfl rfl (V (x_fa tf44_1 rfl) ?_)
                      refine U rfl rfl (o_st tone4 S 0 rfl rfl rfl rfl fun w S => ?_)
                      refine FW.seq ?_
                      refine FW.region ?_
                      refine U rfl rfl (V (x_ldA tag48 rfl (S.loadW 4 rfl) rfl) ?_)
                      refine U rfl rfl (o_stA tag48 S 5 rfl rfl rfl rfl (c1 rfl (c1 rfl (c1 h29.one (c1 rfl c0)))) rfl fun w S => ?_)
                      refine FW.ret ?_
                      obtain rfl := Option.some.inj H
                      obtain rfl := Option.some.inj HO85
                      obtain rfl := Option.some.inj HO33
                      exact ⟨_, ⟨_, _, _, rfl, rfl, ldA tag48 (S.loadW 5 rfl) rfl, rfl⟩, ⟨(.slice none 0 0), v28, y88_1v0, J90, hI, rfl, (SlR.nil _ _), h29, y88_1h0, (S.sel 6 [0] rfl)⟩⟩
                · rw [if_neg cc87] at H
                  refine FW.condF rfl (eqF cc87) ?_
                  refine FW.skip ?_
                  exact ⟨y61.1.c, y61.1.n, y61.1.digits, y61.2.rest, y61.2.bad, y61_1v0, J63, (Option.some.inj H), ⟨rfl, rfl, rfl, rfl, rfl, trivial⟩, hL86, S, y61_1h0⟩
              · rintro σ w ⟨n77, n78, b79, l80, b83, v81, J76, ho, hσ, hL86, S, h82⟩
                subst ho
                have H := HO85
                try dsimp only at H
                have h29 := h29.mono hL86
                have hI := hI.trans hL86
                have hL31 := hL31.trans hL86
                have hG := hG.mono hL86
                rw [hσ.eq]
                refine FW.seq ?_
                refine FW.region ?_
                refine U rfl rfl (V (x_movV (v := .pointer (some ⟨bx0, 0, none⟩)) rfl) ?_)
                refine U rfl rfl (V (x_movV (v := .pointer (some ⟨bx0, 0, none⟩)) rfl) ?_)
                refine U rfl rfl (V (x_nk rfl) ?_)
                refine U rfl rfl (V (x_fa tf44_1 rfl) ?_)
                refine U rfl rfl (V (x_ld tsc4 rfl (S.load 2 rfl 1 rfl)) ?_)
                refine U rfl rfl (V (x_movV (v := .bool b83) rfl) ?_)
                by_cases cc105 : b83 = true
                · rw [if_pos cc105] at H
                  refine OK.gf rfl rfl rfl cc105 ?_
                  refine OK.gf rfl rfl rfl cc105 ?_
                  refine OK.gf rfl rfl rfl cc105 ?_
                  refine OK.gf rfl rfl rfl cc105 ?_
                  refine OK.gf rfl rfl rfl cc105 ?_
                  refine U rfl rfl (V (x_pickTV (v := .bool true) rfl cc105 rfl) ?_)
                  refine U rfl rfl (V (x_nk rfl) ?_)
                  refine U rfl rfl (V (x_fa tf44_1 rfl) ?_)
                  refine U rfl rfl (o_st tone4 S 2 rfl rfl rfl rfl fun w S => ?_)
                  refine FW.anew [(0, .pointer (some ⟨bx0, 0, none⟩)), (2, .pointer (some ⟨b1, 0, none⟩)), (3, .pointer (some ⟨b2, 0, none⟩)), (4, .pointer (some ⟨b65, 0, none⟩)), (5, .pointer (some ⟨b67, 0, none⟩))] ⟨rfl, rfl, rfl, rfl, rfl, trivial⟩ fun σ => ?_
                  refine FW.region ?_
                  refine U rfl rfl (V (x_fa tf48_2 rfl) ?_)
                  refine U rfl rfl (V (x_ld tsc46 rfl (S.load 4 rfl 2 rfl)) ?_)
                  refine U rfl rfl (V (x_fa tf51_1 rfl) ?_)
                  refine U rfl rfl (V (x_ld tsc38 rfl (S.load 1 rfl 1 rfl)) ?_)
                  refine U rfl rfl (V (x_fa tf51_1 rfl) ?_)
                  refine U rfl rfl (V (x_ld tsc38 rfl (S.load 0 rfl 1 rfl)) ?_)
                  refine U rfl rfl (V (x_bld tz80 tpl80 rfl (.one rfl (.one rfl PC.nil)) rfl) ?_)
                  refine U rfl rfl (o_bsl tsl46 tz80 rfl rfl rfl rfl (.agg PC.nil) rfl S fun b106 w S => ?_)
                  obtain ⟨J107, hJ109, S, h108⟩ := S.freeze (r := R_regex_span) (l := [(T_regex_span.mk y61.1.n n78)]) 0 rfl ⟨[.int .u32 y61.1.n, .int .u32 n78], _, rfl, rfl, rfl⟩ rfl rfl
                  have h29 := h29.mono hJ109
                  have h82 := h82.mono hJ109
                  have hI := hI.trans hJ109
                  have hL31 := hL31.trans hJ109
                  have hG := hG.mono hJ109
                  obtain ⟨l110, h112, H⟩ := obx H
                  refine U rfl rfl (o_appD (r := R_regex_span) tsl46 rfl tz80 rfl rfl S 4 rfl rfl h29 h108 h112 fun v111 w J114 hJ115 S h113 => ?_)
                  have h29 := h29.mono hJ115
                  have h108 := h108.mono hJ115
                  have h82 := h82.mono hJ115
                  have hI := hI.trans hJ115
                  have hL31 := hL31.trans hJ115
                  have hG := hG.mono hJ115
                  refine U rfl rfl (V (x_fa tf48_2 rfl) ?_)
                  refine U rfl rfl (o_st tone46 S 5 rfl rfl rfl h113.one fun w S => ?_)
                  exact ⟨q30, Nat.le_refl _, l80, true, l110, v81, v111, J114, H, (Nat.le_of_succ_le hq35), ⟨rfl, rfl, rfl, trivial⟩, hL31, (S.sel 7 [4, 3, 5, 6] rfl), h82, h113⟩
                · rw [if_neg cc105] at H
                  refine OK.gt rfl rfl rfl (vaF cc105) (V (x_fa tf51_1 rfl) ?_)
                  refine OK.gt rfl rfl rfl (vaF cc105) (V (x_ld tsc38 rfl (S.load 1 rfl 1 rfl)) ?_)
                  refine OK.gt rfl rfl rfl (vaF cc105) (V (x_fa tf51_1 rfl) ?_)
                  refine OK.gt rfl rfl rfl (vaF cc105) (V (x_ld tsc38 rfl (S.load 0 rfl 1 rfl)) ?_)
                  refine OK.gt rfl rfl rfl (vaF cc105) (V (x_bin rfl rfl rfl) ?_)
                  refine U rfl rfl (V (x_pickFV (v := .bool (decide (y61.1.n > n78))) rfl (vaF cc105) rfl) ?_)
                  refine U rfl rfl (V (x_nk rfl) ?_)
                  refine U rfl rfl (V (x_fa tf44_1 rfl) ?_)
                  refine U rfl rfl (o_st tone4 S 2 rfl rfl rfl rfl fun w S => ?_)
                  refine FW.anew [(0, .pointer (some ⟨bx0, 0, none⟩)), (2, .pointer (some ⟨b1, 0, none⟩)), (3, .pointer (some ⟨b2, 0, none⟩)), (4, .pointer (some ⟨b65, 0, none⟩)), (5, .pointer (some ⟨b67, 0, none⟩))] ⟨rfl, rfl, rfl, rfl, rfl, trivial⟩ fun σ => ?_
                  refine FW.region ?_
                  refine U rfl rfl (V (x_fa tf48_2 rfl) ?_)
                  refine U rfl rfl (V (x_ld tsc46 rfl (S.load 4 rfl 2 rfl)) ?_)
                  refine U rfl rfl (V (x_fa tf51_1 rfl) ?_)
                  refine U rfl rfl (V (x_ld tsc38 rfl (S.load 1 rfl 1 rfl)) ?_)
                  refine U rfl rfl (V (x_fa tf51_1 rfl) ?_)
                  refine U rfl rfl (V (x_ld tsc38 rfl (S.load 0 rfl 1 rfl)) ?_)
                  refine U rfl rfl (V (x_bld tz80 tpl80 rfl (.one rfl (.one rfl PC.nil)) rfl) ?_)
                  refine U rfl rfl (o_bsl tsl46 tz80 rfl rfl rfl rfl (.agg PC.nil) rfl S fun b116 w S => ?_)
                  obtain ⟨J117, hJ119, S, h118⟩ := S.freeze (r := R_regex_span) (l := [(T_regex_span.mk y61.1.n n78)]) 0 rfl ⟨[.int .u32 y61.1.n, .int .u32 n78], _, rfl, rfl, rfl⟩ rfl rfl
                  have h29 := h29.mono hJ119
                  have h82 := h82.mono hJ119
                  have hI := hI.trans hJ119
                  have hL31 := hL31.trans hJ119
                  have hG := hG.mono hJ119
                  obtain ⟨l120, h122, H⟩ := obx H
                  refine U rfl rfl (o_appD (r := R_regex_span) tsl46 rfl tz80 rfl rfl S 4 rfl rfl h29 h118 h122 fun v121 w J124 hJ125 S h123 => ?_)
                  have h29 := h29.mono hJ125
                  have h118 := h118.mono hJ125
                  have h82 := h82.mono hJ125
                  have hI := hI.trans hJ125
                  have hL31 := hL31.trans hJ125
                  have hG := hG.mono hJ125
                  refine U rfl rfl (V (x_fa tf48_2 rfl) ?_)
                  refine U rfl rfl (o_st tone46 S 5 rfl rfl rfl h123.one fun w S => ?_)
                  exact ⟨q30, Nat.le_refl _, l80, (decide (y61.1.n > n78)), l120, v81, v121, J124, H, (Nat.le_of_succ_le hq35), ⟨rfl, rfl, rfl, trivial⟩, hL31, (S.sel 7 [4, 3, 5, 6] rfl), h82, h123⟩
            · rw [if_neg cc68] at H
              refine OK.gf rfl rfl rfl (deF cc68) ?_
              refine OK.gf rfl rfl rfl (deF cc68) ?_
              refine OK.gf rfl rfl rfl (deF cc68) ?_
              refine OK.gf rfl rfl rfl (deF cc68) ?_
              refine OK.gf rfl rfl rfl (deF cc68) ?_
              refine OK.gf rfl rfl rfl (deF cc68) ?_
              refine OK.gf rfl rfl rfl (deF cc68) ?_
              refine OK.gf rfl rfl rfl (deF cc68) ?_
              refine U rfl rfl (V (x_pickFV (v := .bool false) rfl (deF cc68) rfl) ?_)
              refine FW.condF rfl rfl ?_
              refine FW.skip ?_
              refine FW.seq ?_
              refine FW.anew [(0, .pointer (some ⟨bx0, 0, none⟩)), (2, .pointer (some ⟨b1, 0, none⟩)), (3, .pointer (some ⟨b2, 0, none⟩)), (4, .pointer (some ⟨b65, 0, none⟩)), (5, .pointer (some ⟨b67, 0, none⟩))] ⟨rfl, rfl, rfl, rfl, rfl, trivial⟩ fun σ => ?_
              refine FW.region ?_
              refine U rfl rfl (V (x_movV (v := .pointer (some ⟨bx0, 0, none⟩)) rfl) ?_)
              refine U rfl rfl (V (x_movV (v := .pointer (some ⟨bx0, 0, none⟩)) rfl) ?_)
              refine U rfl rfl (V (x_nk rfl) ?_)
              refine U rfl rfl (V (x_fa tf44_1 rfl) ?_)
              refine U rfl rfl (V (x_ld tsc4 rfl (S.load 2 rfl 1 rfl)) ?_)
              refine U rfl rfl (V (x_movV (v := .bool y61.2.bad) rfl) ?_)
              by_cases cc126 : y61.2.bad = true
              · rw [if_pos cc126] at H
                refine OK.gf rfl rfl rfl cc126 ?_
                refine OK.gf rfl rfl rfl cc126 ?_
                refine OK.gf rfl rfl rfl cc126 ?_
                refine OK.gf rfl rfl rfl cc126 ?_
                refine OK.gf rfl rfl rfl cc126 ?_
                refine U rfl rfl (V (x_pickTV (v := .bool true) rfl cc126 rfl) ?_)
                refine U rfl rfl (V (x_nk rfl) ?_)
                refine U rfl rfl (V (x_fa tf44_1 rfl) ?_)
                refine U rfl rfl (o_st tone4 S 2 rfl rfl rfl rfl fun w S => ?_)
                refine FW.anew [(0, .pointer (some ⟨bx0, 0, none⟩)), (2, .pointer (some ⟨b1, 0, none⟩)), (3, .pointer (some ⟨b2, 0, none⟩)), (4, .pointer (some ⟨b65, 0, none⟩)), (5, .pointer (some ⟨b67, 0, none⟩))] ⟨rfl, rfl, rfl, rfl, rfl, trivial⟩ fun σ => ?_
                refine FW.region ?_
                refine U rfl rfl (V (x_fa tf48_2 rfl) ?_)
                refine U rfl rfl (V (x_ld tsc46 rfl (S.load 4 rfl 2 rfl)) ?_)
                refine U rfl rfl (V (x_fa tf51_1 rfl) ?_)
                refine U rfl rfl (V (x_ld tsc38 rfl (S.load 1 rfl 1 rfl)) ?_)
                refine U rfl rfl (V (x_fa tf51_1 rfl) ?_)
                refine U rfl rfl (V (x_ld tsc38 rfl (S.load 0 rfl 1 rfl)) ?_)
                refine U rfl rfl (V (x_bld tz80 tpl80 rfl (.one rfl (.one rfl PC.nil)) rfl) ?_)
                refine U rfl rfl (o_bsl tsl46 tz80 rfl rfl rfl rfl (.agg PC.nil) rfl S fun b127 w S => ?_)
                obtain ⟨J128, hJ130, S, h129⟩ := S.freeze (r := R_regex_span) (l := [(T_regex_span.mk y61.1.n y61.1.n)]) 0 rfl ⟨[.int .u32 y61.1.n, .int .u32 y61.1.n], _, rfl, rfl, rfl⟩ rfl rfl
                have h29 := h29.mono hJ130
                have y61_1h0 := y61_1h0.mono hJ130
                have hI := hI.trans hJ130
                have hL31 := hL31.trans hJ130
                have hG := hG.mono hJ130
                obtain ⟨l131, h133, H⟩ := obx H
                refine U rfl rfl (o_appD (r := R_regex_span) tsl46 rfl tz80 rfl rfl S 4 rfl rfl h29 h129 h133 fun v132 w J135 hJ136 S h134 => ?_)
                have h29 := h29.mono hJ136
                have h129 := h129.mono hJ136
                have y61_1h0 := y61_1h0.mono hJ136
                have hI := hI.trans hJ136
                have hL31 := hL31.trans hJ136
                have hG := hG.mono hJ136
                refine U rfl rfl (V (x_fa tf48_2 rfl) ?_)
                refine U rfl rfl (o_st tone46 S 5 rfl rfl rfl h134.one fun w S => ?_)
                exact ⟨q30, Nat.le_refl _, y61.2.rest, true, l131, y61_1v0, v132, J135, H, (Nat.le_of_succ_le hq35), ⟨rfl, rfl, rfl, trivial⟩, hL31, (S.sel 7 [4, 3, 5, 6] rfl), y61_1h0, h134⟩
              · rw [if_neg cc126] at H
                refine OK.gt rfl rfl rfl (vaF cc126) (V (x_fa tf51_1 rfl) ?_)
                refine OK.gt rfl rfl rfl (vaF cc126) (V (x_ld tsc38 rfl (S.load 1 rfl 1 rfl)) ?_)
                refine OK.gt rfl rfl rfl (vaF cc126) (V (x_fa tf51_1 rfl) ?_)
                refine OK.gt rfl rfl rfl (vaF cc126) (V (x_ld tsc38 rfl (S.load 0 rfl 1 rfl)) ?_)
                refine OK.gt rfl rfl rfl (vaF cc126) (V (x_bin rfl rfl rfl) ?_)
                refine U rfl rfl (V (x_pickFV (v := .bool (decide (y61.1.n > y61.1.n))) rfl (vaF cc126) rfl) ?_)
                refine U rfl rfl (V (x_nk rfl) ?_)
                refine U rfl rfl (V (x_fa tf44_1 rfl) ?_)
                refine U rfl rfl (o_st tone4 S 2 rfl rfl rfl rfl fun w S => ?_)
                refine FW.anew [(0, .pointer (some ⟨bx0, 0, none⟩)), (2, .pointer (some ⟨b1, 0, none⟩)), (3, .pointer (some ⟨b2, 0, none⟩)), (4, .pointer (some ⟨b65, 0, none⟩)), (5, .pointer (some ⟨b67, 0, none⟩))] ⟨rfl, rfl, rfl, rfl, rfl, trivial⟩ fun σ => ?_
                refine FW.region ?_
                refine U rfl rfl (V (x_fa tf48_2 rfl) ?_)
                refine U rfl rfl (V (x_ld tsc46 rfl (S.load 4 rfl 2 rfl)) ?_)
                refine U rfl rfl (V (x_fa tf51_1 rfl) ?_)
                refine U rfl rfl (V (x_ld tsc38 rfl (S.load 1 rfl 1 rfl)) ?_)
                refine U rfl rfl (V (x_fa tf51_1 rfl) ?_)
                refine U rfl rfl (V (x_ld tsc38 rfl (S.load 0 rfl 1 rfl)) ?_)
                refine U rfl rfl (V (x_bld tz80 tpl80 rfl (.one rfl (.one rfl PC.nil)) rfl) ?_)
                refine U rfl rfl (o_bsl tsl46 tz80 rfl rfl rfl rfl (.agg PC.nil) rfl S fun b137 w S => ?_)
                obtain ⟨J138, hJ140, S, h139⟩ := S.freeze (r := R_regex_span) (l := [(T_regex_span.mk y61.1.n y61.1.n)]) 0 rfl ⟨[.int .u32 y61.1.n, .int .u32 y61.1.n], _, rfl, rfl, rfl⟩ rfl rfl
                have h29 := h29.mono hJ140
                have y61_1h0 := y61_1h0.mono hJ140
                have hI := hI.trans hJ140
                have hL31 := hL31.trans hJ140
                have hG := hG.mono hJ140
                obtain ⟨l141, h143, H⟩ := obx H
                refine U rfl rfl (o_appD (r := R_regex_span) tsl46 rfl tz80 rfl rfl S 4 rfl rfl h29 h139 h143 fun v142 w J145 hJ146 S h144 => ?_)
                have h29 := h29.mono hJ146
                have h139 := h139.mono hJ146
                have y61_1h0 := y61_1h0.mono hJ146
                have hI := hI.trans hJ146
                have hL31 := hL31.trans hJ146
                have hG := hG.mono hJ146
                refine U rfl rfl (V (x_fa tf48_2 rfl) ?_)
                refine U rfl rfl (o_st tone46 S 5 rfl rfl rfl h144.one fun w S => ?_)
                exact ⟨q30, Nat.le_refl _, y61.2.rest, (decide (y61.1.n > y61.1.n)), l141, y61_1v0, v142, J145, H, (Nat.le_of_succ_le hq35), ⟨rfl, rfl, rfl, trivial⟩, hL31, (S.sel 7 [4, 3, 5, 6] rfl), y61_1h0, h144⟩
          · rw [if_neg cc66] at H
            refine FW.condT rfl (noT (vaF cc66)) ?_
            refine FW.seq ?_
            refine FW.anew [(0, .pointer (some ⟨bx0, 0, none⟩)), (2, .pointer (some ⟨b1, 0, none⟩)), (3, .pointer (some ⟨b2, 0, none⟩)), (4, .pointer (some ⟨b65, 0, none⟩))] ⟨rfl, rfl, rfl, rfl, trivial⟩ fun σ => ?_
            refine FW.region ?_
            refine U rfl rfl (V (x_movV (v := .pointer (some ⟨bx0, 0, none⟩)) rfl) ?_)
            refine U rfl rfl (V (x_movV (v := .pointer (some ⟨bx0, 0, none⟩)) rfl) ?_)
            refine U rfl rfl (V (x_nk rfl) ?_)
            refine U rfl rfl (V (x_fa tf44_1 rfl) ?_)
            refine U rfl rfl (V (x_ld tsc4 rfl (S.load 1 rfl 1 rfl)) ?_)
            refine U rfl rfl (V (x_movV (v := .bool y61.2.bad) rfl) ?_)
            by_cases cc147 : y61.2.bad = true
            · rw [if_pos cc147] at H
              refine OK.gf rfl rfl rfl cc147 ?_
              refine OK.gf rfl rfl rfl cc147 ?_
              refine OK.gf rfl rfl rfl cc147 ?_
              refine U rfl rfl (V (x_pickTV (v := .bool true) rfl cc147 rfl) ?_)
              refine U rfl rfl (V (x_movV (v := .bool true) rfl) ?_)
              refine OK.gf rfl rfl rfl rfl ?_
              refine OK.gf rfl rfl rfl rfl ?_
              refine OK.gf rfl rfl rfl rfl ?_
              refine OK.gf rfl rfl rfl rfl ?_
              refine U rfl rfl (V (x_pickTV (v := .bool true) rfl rfl rfl) ?_)
              refine U rfl rfl (V (x_nk rfl) ?_)
              refine U rfl rfl (V (x_fa tf44_1 rfl) ?_)
              refine U rfl rfl (o_st tone4 S 1 rfl rfl rfl rfl fun w S => ?_)
              refine FW.seq ?_
              refine FW.anew [(2, .pointer (some ⟨b1, 0, none⟩)), (3, .pointer (some ⟨b2, 0, none⟩))] ⟨rfl, rfl, trivial⟩ fun σ => ?_
              refine FW.region ?_
              refine U rfl rfl (V (x_ldA tag48 rfl (S.loadW 3 rfl) rfl) ?_)
              refine U rfl rfl (o_stA tag48 S 4 rfl rfl rfl rfl (c1 rfl (c1 rfl (c1 h29.one (c1 rfl c0)))) rfl fun w S => ?_)
              refine FW.ret ?_
              obtain rfl := Option.some.inj H
              obtain rfl := Option.some.inj HO33
              exact ⟨_, ⟨_, _, _, rfl, rfl, ldA tag48 (S.loadW 4 rfl) rfl, rfl⟩, ⟨(.slice none 0 0), v28, y61_1v0, J63, hI, rfl, (SlR.nil _ _), h29, y61_1h0, (S.sel 5 [1] rfl)⟩⟩
            · rw [if_neg cc147] at H
              refine OK.gt rfl rfl rfl (vaF cc147) (V (x_fa tf51_0 rfl) ?_)
              refine OK.gt rfl rfl rfl (vaF cc147) (V (x_ld tsc21 rfl (S.load 0 rfl 0 rfl)) ?_)
              refine OK.gt rfl rfl rfl (vaF cc147) (V (x_bin rfl rfl rfl) ?_)
              refine U rfl rfl (V (x_pickFV (v := .bool (y61.1.c != 93)) rfl (vaF cc147) rfl) ?_)
              refine U rfl rfl (V (x_movV (v := .bool (y61.1.c != 93)) rfl) ?_)
              by_cases cc148 : y61.1.c = 93
              · rw [if_pos cc148] at H
                refine OK.gt rfl rfl rfl (neF cc148) (V (x_fa tf48_2 rfl) ?_)
                refine OK.gt rfl rfl rfl (neF cc148) (V (x_ld tsc46 rfl (S.load 3 rfl 2 rfl)) ?_)
                refine OK.gt rfl rfl rfl (neF cc148) (V (x_lenD (r := R_regex_span) tsl46 h29) ?_)
                refine OK.gt rfl rfl rfl (neF cc148) (V (x_bin rfl rfl rfl) ?_)
                refine U rfl rfl (V (x_pickFV (v := .bool ((l27.length : Int) == 0)) rfl (neF cc148) rfl) ?_)
                refine U rfl rfl (V (x_nk rfl) ?_)
                refine U rfl rfl (V (x_fa tf44_1 rfl) ?_)
                refine U rfl rfl (o_st tone4 S 1 rfl rfl rfl rfl fun w S => ?_)
                refine FW.seq ?_
                refine FW.anew [(2, .pointer (some ⟨b1, 0, none⟩)), (3, .pointer (some ⟨b2, 0, none⟩))] ⟨rfl, rfl, trivial⟩ fun σ => ?_
                refine FW.region ?_
                refine U rfl rfl (V (x_ldA tag48 rfl (S.loadW 3 rfl) rfl) ?_)
                refine U rfl rfl (o_stA tag48 S 4 rfl rfl rfl rfl (c1 rfl (c1 rfl (c1 h29.one (c1 rfl c0)))) rfl fun w S => ?_)
                refine FW.ret ?_
                obtain rfl := Option.some.inj H
                obtain rfl := Option.some.inj HO33
                exact ⟨_, ⟨_, _, _, rfl, rfl, ldA tag48 (S.loadW 4 rfl) rfl, rfl⟩, ⟨(.slice none 0 0), v28, y61_1v0, J63, hI, rfl, (SlR.nil _ _), h29, y61_1h0, (S.sel 5 [1] rfl)⟩⟩
              · rw [if_neg cc148] at H
                refine OK.gf rfl rfl rfl (neT cc148) ?_
                refine OK.gf rfl rfl rfl (neT cc148) ?_
                refine OK.gf rfl rfl rfl (neT cc148) ?_
                refine OK.gf rfl rfl rfl (neT cc148) ?_
                refine U rfl rfl (V (x_pickTV (v := .bool true) rfl (neT cc148) rfl) ?_)
                refine U rfl rfl (V (x_nk rfl) ?_)
                refine U rfl rfl (V (x_fa tf44_1 rfl) ?_)
                refine U rfl rfl (o_st tone4 S 1 rfl rfl rfl rfl fun w S => ?_)
                refine FW.seq ?_
                refine FW.anew [(2, .pointer (some ⟨b1, 0, none⟩)), (3, .pointer (some ⟨b2, 0, none⟩))] ⟨rfl, rfl, trivial⟩ fun σ => ?_
                refine FW.region ?_
                refine U rfl rfl (V (x_ldA tag48 rfl (S.loadW 3 rfl) rfl) ?_)
                refine U rfl rfl (o_stA tag48 S 4 rfl rfl rfl rfl (c1 rfl (c1 rfl (c1 h29.one (c1 rfl c0)))) rfl fun w S => ?_)
                refine FW.ret ?_
                obtain rfl := Option.some.inj H
                obtain rfl := Option.some.inj HO33
                exact ⟨_, ⟨_, _, _, rfl, rfl, ldA tag48 (S.loadW 4 rfl) rfl, rfl⟩, ⟨(.slice none 0 0), v28, y61_1v0, J63, hI, rfl, (SlR.nil _ _), h29, y61_1h0, (S.sel 5 [1] rfl)⟩⟩
mutual
def regex_reader_choices.l0 : Nat → (List T_regex_piece) → (List T_regex_sign) → Bool → Option ((List T_regex_piece) × (List T_regex_sign) × Bool)
  | 0, _, _, _ => none
  | k + 1, l12, l15, b18 => (if b18 = true then (some (l12, l15, b18)) else ((regex_reader_peek.f k (T_regex_reader.mk l15 b18)).bind fun y34 => (if y34.1.c = 124 then ((regex_reader_next.f k y34.2).bind fun y39 => ((regex_reader_row.f k y39.2).bind fun y44 => ((app 64 l12 [y44.1]).bind fun l52 => (regex_reader_choices.l0 k l52 y44.2.rest y44.2.bad)))) else (some (l12, y34.2.rest, y34.2.bad)))))
def regex_reader_choices.f : Nat → T_regex_reader → Option (T_regex_piece × T_regex_reader)
  | 0, _ => none
  | k + 1, x0 => ((regex_reader_row.f k x0).bind fun y2 => ((regex_reader_choices.l0 k [y2.1] y2.2.rest y2.2.bad).bind fun (l25, l28, b31) => (some ((T_regex_piece.mk 1 l25 [] false), (T_regex_reader.mk l28 b31)))))
def regex_reader_row.l0 : Nat → (List T_regex_piece) → (List T_regex_sign) → Bool → Option ((List T_regex_piece) × (List T_regex_sign) × Bool)
  | 0, _, _, _ => none
  | k + 1, l5, l8, b11 => (if b11 = true then (some (l5, l8, b11)) else ((regex_reader_peek.f k (T_regex_reader.mk l8 b11)).bind fun y27 => (if y27.1.digits = true then ((regex_reader_next.f k y27.2).bind fun y34 => ((regex_reader_atom.f k y34.2 y34.1).bind fun y38 => ((regex_reader_repeats.f k y38.2 y38.1).bind fun y42 => ((app 64 l5 [y42.1]).bind fun l50 => (regex_reader_row.l0 k l50 y42.2.rest y42.2.bad))))) else (if y27.1.c = 0 then (some (l5, y27.2.rest, y27.2.bad)) else (if y27.1.c = 124 then (some (l5, y27.2.rest, y27.2.bad)) else (if y27.1.c = 41 then (some (l5, y27.2.rest, y27.2.bad)) else ((regex_reader_next.f k y27.2).bind fun y60 => ((regex_reader_atom.f k y60.2 y60.1).bind fun y64 => ((regex_reader_repeats.f k y64.2 y64.1).bind fun y68 => ((app 64 l5 [y68.1]).bind fun l76 => (regex_reader_row.l0 k l76 y68.2.rest y68.2.bad)))))))))))
def regex_reader_row.f : Nat → T_regex_reader → Option (T_regex_piece × T_regex_reader)
  | 0, _ => none
  | k + 1, x0 => ((regex_reader_row.l0 k [] x0.rest x0.bad).bind fun (l18, l21, b24) => (some ((T_regex_piece.mk 0 l18 [] false), (T_regex_reader.mk l21 b24))))
def regex_reader_atom.f : Nat → T_regex_reader → T_regex_sign → Option (T_regex_piece × T_regex_reader)
  | 0, _, _ => none
  | k + 1, x0, x1 => (if x1.digits = true then (some ((T_regex_piece.mk 2 [] [(T_regex_span.mk x1.n x1.n)] false), x0)) else (if x1.c = 46 then (some ((T_regex_piece.mk 3 [] [] false), x0)) else (if x1.c = 94 then (some ((T_regex_piece.mk 5 [] [] false), x0)) else (if x1.c = 36 then (some ((T_regex_piece.mk 6 [] [] false), x0)) else (if x1.c = 91 then ((regex_reader_set.f k x0).bind fun y12 => (some (y12.1, y12.2))) else (if x1.c = 40 then ((regex_reader_choices.f k x0).bind fun y17 => (if y17.2.bad = true then (some (y17.1, (T_regex_reader.mk y17.2.rest true))) else ((regex_reader_next.f k y17.2).bind fun y23 => (some (y17.1, (T_regex_reader.mk y23.2.rest (y23.1.c != 41))))))) else (some ((T_regex_piece.mk 0 [] [] false), (T_regex_reader.mk x0.rest true)))))))))
end
abbrev regex_reader_choices.C (k : Nat) : Prop := ∀ {x0 : T_regex_reader} {x0v0 : Value} {bx0 : Nat} {F : List It} {I : IMem} {w : World} {r : T_regex_piece × T_regex_reader}, Glob I → Own I w (.bk bx0 44 [x0v0, .bool x0.bad] :: F) → SlR R_regex_sign I x0v0 x0.rest → regex_reader_choices.f k x0 = some r →
    Calls Tryd.prog 17 #[.pointer (some ⟨bx0, 0, none⟩)] w fun e w' => ∃ v, e = .returned v ∧ ∃ (y_0v1 : Value) (y_0v2 : Value) (y_1v0 : Value) (J : IMem), I.le J ∧ v = .agg #[.int .i64 r.1.kind, y_0v1, y_0v2, .bool r.1.not] ∧ SlR R_regex_piece J y_0v1 r.1.parts ∧ SlR R_regex_span J y_0v2 r.1.spans ∧ SlR R_regex_sign J y_1v0 r.2.rest ∧ Own J w' (.bk bx0 44 [y_1v0, .bool r.2.bad] :: F)
abbrev regex_reader_row.C (k : Nat) : Prop := ∀ {x0 : T_regex_reader} {x0v0 : Value} {bx0 : Nat} {F : List It} {I : IMem} {w : World} {r : T_regex_piece × T_regex_reader}, Glob I → Own I w (.bk bx0 44 [x0v0, .bool x0.bad] :: F) → SlR R_regex_sign I x0v0 x0.rest → regex_reader_row.f k x0 = some r →
    Calls Tryd.prog 28 #[.pointer (some ⟨bx0, 0, none⟩)] w fun e w' => ∃ v, e = .returned v ∧ ∃ (y_0v1 : Value) (y_0v2 : Value) (y_1v0 : Value) (J : IMem), I.le J ∧ v = .agg #[.int .i64 r.1.kind, y_0v1, y_0v2, .bool r.1.not] ∧ SlR R_regex_piece J y_0v1 r.1.parts ∧ SlR R_regex_span J y_0v2 r.1.spans ∧ SlR R_regex_sign J y_1v0 r.2.rest ∧ Own J w' (.bk bx0 44 [y_1v0, .bool r.2.bad] :: F)
abbrev regex_reader_atom.C (k : Nat) : Prop := ∀ {x0 : T_regex_reader} {x1 : T_regex_sign} {x0v0 : Value} {bx0 : Nat} {F : List It} {I : IMem} {w : World} {r : T_regex_piece × T_regex_reader}, Glob I → Own I w (.bk bx0 44 [x0v0, .bool x0.bad] :: F) → SlR R_regex_sign I x0v0 x0.rest → regex_reader_atom.f k x0 x1 = some r →
    Calls Tryd.prog 44 #[.pointer (some ⟨bx0, 0, none⟩), .agg #[.int .i32 x1.c, .int .u32 x1.n, .bool x1.digits]] w fun e w' => ∃ v, e = .returned v ∧ ∃ (y_0v1 : Value) (y_0v2 : Value) (y_1v0 : Value) (J : IMem), I.le J ∧ v = .agg #[.int .i64 r.1.kind, y_0v1, y_0v2, .bool r.1.not] ∧ SlR R_regex_piece J y_0v1 r.1.parts ∧ SlR R_regex_span J y_0v2 r.1.spans ∧ SlR R_regex_sign J y_1v0 r.2.rest ∧ Own J w' (.bk bx0 44 [y_1v0, .bool r.2.bad] :: F)
theorem regex_reader_choices.step (k : Nat) (ih_regex_reader_row : ∀ m, m ≤ k → regex_reader_row.C m) : regex_reader_choices.C (k + 1) := by
  intro x0 x0v0 bx0 F I w r hG S x0h0 H
  have hI := IMem.le.refl I
  rw [regex_reader_choices.f] at H
  refine Calls.ofFW (args := [.pointer (some ⟨bx0, 0, none⟩)]) Tryd.func17 rfl rfl ?_
  refine FW.seq ?_
  refine FW.region ?_
  refine U rfl rfl (o_all tz48 S fun b1 w S => ?_)
  refine FW.seq ?_
  refine FW.region ?_
  refine U rfl rfl (V (x_movV (v := .pointer (some ⟨bx0, 0, none⟩)) rfl) ?_)
  obtain ⟨y2, hy3, H⟩ := obx H
  refine U rfl rfl (cl fb28 (@ih_regex_reader_row k (by omega) x0 _ _ _ _ _ _ hG (S.sel 2 [1, 0] rfl) x0h0 hy3) rfl ?_)
  rintro _ w ⟨y2_0v1, y2_0v2, y2_1v0, J4, hJ5, rfl, y2_0h1, y2_0h2, y2_1h0, S⟩
  have hI := hI.trans hJ5
  have hG := hG.mono hJ5
  refine U rfl rfl (o_bsl tsl45 tz48 rfl rfl rfl rfl (.agg PC.nil) rfl S fun b6 w S => ?_)
  obtain ⟨J7, hJ9, S, h8⟩ := S.freeze (r := R_regex_piece) (l := [y2.1]) 0 rfl ⟨[.int .i64 y2.1.kind, y2_0v1, y2_0v2, .bool y2.1.not], _, rfl, (R_regex_piece.mk (x := y2.1) y2_0h1 y2_0h2), rfl⟩ rfl rfl
  have y2_0h1 := y2_0h1.mono hJ9
  have y2_0h2 := y2_0h2.mono hJ9
  have y2_1h0 := y2_1h0.mono hJ9
  have hI := hI.trans hJ9
  have hG := hG.mono hJ9
  refine U rfl rfl (V (x_bld tz48 tpl48 rfl (.one rfl (.one h8.one PC.nil)) rfl) ?_)
  refine U rfl rfl (o_all tz48 S fun b10 w S => ?_)
  refine U rfl rfl (o_stA tag48 S 0 rfl rfl rfl rfl (c1 rfl (c1 h8.one (c1 rfl (c1 rfl c0)))) rfl fun w S => ?_)
  refine FW.seq ?_
  refine FW.block ?_
  obtain ⟨o21, hl23, HO22⟩ := obx H
  refine FW.cutX 0 (fun σ w => ∃ (l25 : (List T_regex_piece)) (l28 : (List T_regex_sign)) (b31 : Bool) (v26 : Value) (v29 : Value) (J24 : IMem), (l25, l28, b31) = o21 ∧ Has σ [(2, .pointer (some ⟨b1, 0, none⟩)), (3, .pointer (some ⟨b10, 0, none⟩))] ∧ J7.le J24 ∧ Own J24 w (.bk b10 48 [.int .i64 1, v26, (.slice none 0 0), .bool false] :: .tv v26 48 4 :: .bk bx0 44 [v29, .bool b31] :: .bk b1 48 [.int .i64 0, (.slice none 0 0), (.slice none 0 0), .bool false] :: F) ∧ SlR R_regex_piece J24 v26 l25 ∧ SlR R_regex_sign J24 v29 l28) ?_ ?_
  ·
    refine FW.loop k (FL.ind (fun q σ w => ∃ (l12 : (List T_regex_piece)) (l15 : (List T_regex_sign)) (b18 : Bool) (v13 : Value) (v16 : Value) (J11 : IMem), regex_reader_choices.l0 q l12 l15 b18 = some o21 ∧ q ≤ k ∧ Has σ [(0, .pointer (some ⟨bx0, 0, none⟩)), (2, .pointer (some ⟨b1, 0, none⟩)), (3, .pointer (some ⟨b10, 0, none⟩))] ∧ J7.le J11 ∧ Own J11 w (.bk b10 48 [.int .i64 1, v13, (.slice none 0 0), .bool false] :: .tv v13 48 4 :: .bk bx0 44 [v16, .bool b18] :: .bk b1 48 [.int .i64 0, (.slice none 0 0), (.slice none 0 0), .bool false] :: F) ∧ SlR R_regex_piece J11 v13 l12 ∧ SlR R_regex_sign J11 v16 l15) ?_ ?_ k k _ _ (Nat.le_refl _) ⟨[y2.1], y2.2.rest, y2.2.bad, (.slice (some ⟨b6, 0, none⟩) 1 1), y2_1v0, J7, hl23, Nat.le_refl _, ⟨rfl, rfl, rfl, trivial⟩, (IMem.le.refl _), S, h8, y2_1h0⟩)
    · rintro σ w ⟨l12, l15, b18, v13, v16, J11, H, _⟩; cases H
    · rintro q19 σ w ⟨l12, l15, b18, v13, v16, J11, H, hq32, hσ, hL20, S, h14, h17⟩
      have hI := hI.trans hL20
      have hG := hG.mono hL20
      rw [hσ.eq]
      rw [regex_reader_choices.l0] at H
      refine FW.seq ?_
      refine FW.seq ?_
      refine FW.region ?_
      refine U rfl rfl (V (x_movV (v := .pointer (some ⟨bx0, 0, none⟩)) rfl) ?_)
      refine U rfl rfl (V (x_nk rfl) ?_)
      refine U rfl rfl (V (x_fa tf44_1 rfl) ?_)
      refine U rfl rfl (V (x_ld tsc4 rfl (S.load 2 rfl 1 rfl)) ?_)
      refine U rfl rfl (V (x_not' rfl) ?_)
      refine U rfl rfl (V (x_movV (v := .bool (!b18)) rfl) ?_)
      by_cases cc33 : b18 = true
      · rw [if_pos cc33] at H
        refine OK.gf rfl rfl rfl (noF cc33) ?_
        refine OK.gf rfl rfl rfl (noF cc33) ?_
        refine OK.gf rfl rfl rfl (noF cc33) ?_
        refine OK.gf rfl rfl rfl (noF cc33) ?_
        refine U rfl rfl (V (x_pickFV (v := .bool false) rfl (noF cc33) rfl) ?_)
        refine FW.condF rfl rfl ?_
        refine FW.exit ?_
        exact ⟨l12, l15, b18, v13, v16, J11, (Option.some.inj H), ⟨rfl, rfl, trivial⟩, hL20, S, h14, h17⟩
      · rw [if_neg cc33] at H
        refine OK.gt rfl rfl rfl (noT (vaF cc33)) (V (x_movV (v := .pointer (some ⟨bx0, 0, none⟩)) rfl) ?_)
        obtain ⟨y34, hy35, H⟩ := obx H
        refine OK.gt rfl rfl rfl (noT (vaF cc33)) (cl fb18 (@regex_reader_peek.ok q19 (T_regex_reader.mk l15 b18) _ _ _ _ _ _ hG (S.sel 4 [2, 0, 1, 3] rfl) h17 hy35) rfl ?_)
        rintro _ w ⟨y34_1v0, J36, hJ37, rfl, y34_1h0, S⟩
        have h14 := h14.mono hJ37
        have hI := hI.trans hJ37
        have hL20 := hL20.trans hJ37
        have hG := hG.mono hJ37
        refine OK.gt rfl rfl rfl (noT (vaF cc33)) (V (x_fld tf51_0 tsc21 rfl rfl) ?_)
        refine OK.gt rfl rfl rfl (noT (vaF cc33)) (V (x_bin rfl rfl rfl) ?_)
        refine U rfl rfl (V (x_pickTV (v := .bool (y34.1.c == 124)) rfl (noT (vaF cc33)) rfl) ?_)
        by_cases cc38 : y34.1.c = 124
        · rw [if_pos cc38] at H
          refine FW.condT rfl (eqT cc38) ?_
          refine FW.skip ?_
          refine FW.block ?_
          refine FW.seq ?_
          refine FW.anew [(0, .pointer (some ⟨bx0, 0, none⟩)), (2, .pointer (some ⟨b1, 0, none⟩)), (3, .pointer (some ⟨b10, 0, none⟩))] ⟨rfl, rfl, rfl, trivial⟩ fun σ => ?_
          refine FW.region ?_
          refine U rfl rfl (V (x_movV (v := .pointer (some ⟨bx0, 0, none⟩)) rfl) ?_)
          obtain ⟨y39, hy40, H⟩ := obx H
          refine U rfl rfl (cl fb29 (@regex_reader_next.ok q19 y34.2 _ _ _ _ _ _ hG S y34_1h0 hy40) rfl ?_)
          rintro _ w ⟨y39_1v0, J41, hJ42, rfl, y39_1h0, S⟩
          have h14 := h14.mono hJ42
          have hI := hI.trans hJ42
          have hL20 := hL20.trans hJ42
          have hG := hG.mono hJ42
          have S := S.drew
          refine FW.regionD mixed ?_
          have hO := Hold.nil (w := { w with drawn := w.drawn + 1 })
          refine AQ.pure 0 rfl (by kernel_rfl) (by kernel_rfl) (by kernel_rfl) rfl hO (fun w => x_fa tf48_1 rfl) ?_
          have hR43 := IMem.le.refl J41
          refine AQ.take (S := Stab J41 [.bk b10 48 [.int .i64 1, v13, (.slice none 0 0), .bool false]]) 1 rfl (by kernel_rfl) (by kernel_rfl) (by kernel_rfl) rfl hO (Stab.of S 1 rfl hR43) (fun w hS => x_ld tsc45 rfl (hS.load 0 rfl 1 rfl)) fun hO => ?_
          refine AQ.pure 2 rfl (by kernel_rfl) (by kernel_rfl) (by kernel_rfl) rfl hO (fun w => x_movV (v := .pointer (some ⟨bx0, 0, none⟩)) rfl) ?_
          refine AQ.one 3 [1] [true] (by kernel_rfl) rfl (by kernel_rfl) ?_
          obtain ⟨y44, hy45, H⟩ := obx H
          refine U rfl rfl (cl fb28 (@ih_regex_reader_row q19 (by omega) y39.2 _ _ _ _ _ _ hG S y39_1h0 hy45) rfl ?_)
          rintro _ w ⟨y44_0v1, y44_0v2, y44_1v0, J46, hJ47, rfl, y44_0h1, y44_0h2, y44_1h0, S⟩
          have h14 := h14.mono hJ47
          have hI := hI.trans hJ47
          have hL20 := hL20.trans hJ47
          have hR43 := hR43.trans hJ47
          have hG := hG.mono hJ47
          refine andI (Hold.cons (Stab.of S 1 rfl hR43) Hold.nil) fun hO => ?_
          refine AQ.one 4 [1] [true] (by kernel_rfl) rfl (by kernel_rfl) ?_
          refine U rfl rfl (o_bsl tsl45 tz48 rfl rfl rfl rfl (.agg PC.nil) rfl S fun b48 w S => ?_)
          obtain ⟨J49, hJ51, S, h50⟩ := S.freeze (r := R_regex_piece) (l := [y44.1]) 0 rfl ⟨[.int .i64 y44.1.kind, y44_0v1, y44_0v2, .bool y44.1.not], _, rfl, (R_regex_piece.mk (x := y44.1) y44_0h1 y44_0h2), rfl⟩ rfl rfl
          have h14 := h14.mono hJ51
          have y44_0h1 := y44_0h1.mono hJ51
          have y44_0h2 := y44_0h2.mono hJ51
          have y44_1h0 := y44_1h0.mono hJ51
          have hI := hI.trans hJ51
          have hL20 := hL20.trans hJ51
          have hR43 := hR43.trans hJ51
          have hG := hG.mono hJ51
          refine andI (Hold.cons (Stab.of S 2 rfl hR43) Hold.nil) fun hO => ?_
          refine AQ.one 5 [1] [false] (by kernel_rfl) rfl (by kernel_rfl) ?_
          obtain ⟨l52, h54, H⟩ := obx H
          refine U rfl rfl (o_appD (r := R_regex_piece) tsl45 rfl tz48 rfl rfl S 3 rfl rfl h14 h50 h54 fun v53 w J56 hJ57 S h55 => ?_)
          have h14 := h14.mono hJ57
          have y44_0h1 := y44_0h1.mono hJ57
          have y44_0h2 := y44_0h2.mono hJ57
          have h50 := h50.mono hJ57
          have y44_1h0 := y44_1h0.mono hJ57
          have hI := hI.trans hJ57
          have hL20 := hL20.trans hJ57
          have hR43 := hR43.trans hJ57
          have hG := hG.mono hJ57
          refine andI Hold.nil fun hO => ?_
          refine AQ.pure 6 rfl (by kernel_rfl) (by kernel_rfl) (by kernel_rfl) rfl hO (fun w => x_fa tf48_1 rfl) ?_
          refine AQ.one 7 [] [] (by kernel_rfl) rfl (by kernel_rfl) ?_
          refine U rfl rfl (o_st tone45 S 2 rfl rfl rfl h55.one fun w S => ?_)
          refine andI Hold.nil fun hO => ?_
          refine AQ.done (by kernel_rfl) ?_
          exact ⟨q19, Nat.le_refl _, l52, y44.2.rest, y44.2.bad, v53, y44_1v0, J56, H, (Nat.le_of_succ_le hq32), ⟨rfl, rfl, rfl, trivial⟩, hL20, (S.sel 5 [2, 3, 1, 4] rfl), h55, y44_1h0⟩
        · rw [if_neg cc38] at H
          refine FW.condF rfl (eqF cc38) ?_
          refine FW.exit ?_
          exact ⟨l12, y34.2.rest, y34.2.bad, v13, y34_1v0, J36, (Option.some.inj H), ⟨rfl, rfl, trivial⟩, hL20, (S.sel 4 [1, 2, 0, 3] rfl), h14, y34_1h0⟩
  · rintro σ w ⟨l25, l28, b31, v26, v29, J24, ho, hσ, hL20, S, h27, h30⟩
    subst ho
    have H := HO22
    try dsimp only at H
    have hI := hI.trans hL20
    have hG := hG.mono hL20
    rw [hσ.eq]
    refine FW.seq ?_
    refine FW.region ?_
    refine U rfl rfl (V (x_ldA tag48 rfl (S.loadW 0 rfl) rfl) ?_)
    refine U rfl rfl (o_stA tag48 S 3 rfl rfl rfl rfl (c1 rfl (c1 h27.one (c1 rfl (c1 rfl c0)))) rfl fun w S => ?_)
    refine FW.ret ?_
    obtain rfl := Option.some.inj H
    exact ⟨_, ⟨_, _, _, rfl, rfl, ldA tag48 (S.loadW 3 rfl) rfl, rfl⟩, ⟨v26, (.slice none 0 0), v29, J24, hI, rfl, h27, (SlR.nil _ _), h30, (S.sel 4 [2] rfl)⟩⟩
theorem regex_reader_choices.zero : regex_reader_choices.C 0 := by
  intro _ _ _ _ _ _ _ _ _ _ H; cases H
theorem regex_reader_row.step (k : Nat) (ih_regex_reader_atom : ∀ m, m ≤ k → regex_reader_atom.C m) : regex_reader_row.C (k + 1) := by
  intro x0 x0v0 bx0 F I w r hG S x0h0 H
  have hI := IMem.le.refl I
  rw [regex_reader_row.f] at H
  refine Calls.ofFW (args := [.pointer (some ⟨bx0, 0, none⟩)]) Tryd.func28 rfl rfl ?_
  refine FW.seq ?_
  refine FW.region ?_
  refine U rfl rfl (o_all tz48 S fun b1 w S => ?_)
  refine FW.seq ?_
  refine FW.region ?_
  refine U rfl rfl (V (x_bld tz48 tpl48 rfl (.one rfl PC.nil) rfl) ?_)
  refine U rfl rfl (o_all tz48 S fun b2 w S => ?_)
  refine U rfl rfl (o_stA tag48 S 0 rfl rfl rfl rfl (c1 rfl (c1 rfl (c1 rfl (c1 rfl c0)))) rfl fun w S => ?_)
  refine FW.seq ?_
  refine FW.block ?_
  have S := S.nil_tv 48 4
  obtain ⟨o14, hl16, HO15⟩ := obx H
  refine FW.cutX 0 (fun σ w => ∃ (l18 : (List T_regex_piece)) (l21 : (List T_regex_sign)) (b24 : Bool) (v19 : Value) (v22 : Value) (J17 : IMem), (l18, l21, b24) = o14 ∧ Has σ [(2, .pointer (some ⟨b1, 0, none⟩)), (3, .pointer (some ⟨b2, 0, none⟩))] ∧ I.le J17 ∧ Own J17 w (.tv v19 48 4 :: .bk b2 48 [.int .i64 0, v19, (.slice none 0 0), .bool false] :: .bk b1 48 [.int .i64 0, (.slice none 0 0), (.slice none 0 0), .bool false] :: .bk bx0 44 [v22, .bool b24] :: F) ∧ SlR R_regex_piece J17 v19 l18 ∧ SlR R_regex_sign J17 v22 l21) ?_ ?_
  ·
    refine FW.loop k (FL.ind (fun q σ w => ∃ (l5 : (List T_regex_piece)) (l8 : (List T_regex_sign)) (b11 : Bool) (v6 : Value) (v9 : Value) (J4 : IMem), regex_reader_row.l0 q l5 l8 b11 = some o14 ∧ q ≤ k ∧ Has σ [(0, .pointer (some ⟨bx0, 0, none⟩)), (2, .pointer (some ⟨b1, 0, none⟩)), (3, .pointer (some ⟨b2, 0, none⟩))] ∧ I.le J4 ∧ Own J4 w (.tv v6 48 4 :: .bk b2 48 [.int .i64 0, v6, (.slice none 0 0), .bool false] :: .bk b1 48 [.int .i64 0, (.slice none 0 0), (.slice none 0 0), .bool false] :: .bk bx0 44 [v9, .bool b11] :: F) ∧ SlR R_regex_piece J4 v6 l5 ∧ SlR R_regex_sign J4 v9 l8) ?_ ?_ k k _ _ (Nat.le_refl _) ⟨[], x0.rest, x0.bad, (.slice none 0 0), x0v0, I, hl16, Nat.le_refl _, ⟨rfl, rfl, rfl, trivial⟩, (IMem.le.refl _), S, (SlR.nil _ _), x0h0⟩)
    · rintro σ w ⟨l5, l8, b11, v6, v9, J4, H, _⟩; cases H
    · rintro q12 σ w ⟨l5, l8, b11, v6, v9, J4, H, hq25, hσ, hL13, S, h7, h10⟩
      have hI := hI.trans hL13
      have hG := hG.mono hL13
      rw [hσ.eq]
      rw [regex_reader_row.l0] at H
      refine FW.seq ?_
      refine FW.seq ?_
      refine FW.region ?_
      refine U rfl rfl (V (x_movV (v := .pointer (some ⟨bx0, 0, none⟩)) rfl) ?_)
      refine U rfl rfl (V (x_nk rfl) ?_)
      refine U rfl rfl (V (x_fa tf44_1 rfl) ?_)
      refine U rfl rfl (V (x_ld tsc4 rfl (S.load 3 rfl 1 rfl)) ?_)
      refine U rfl rfl (V (x_not' rfl) ?_)
      by_cases cc26 : b11 = true
      · rw [if_pos cc26] at H
        refine FW.condF rfl (noF cc26) ?_
        refine FW.exit ?_
        exact ⟨l5, l8, b11, v6, v9, J4, (Option.some.inj H), ⟨rfl, rfl, trivial⟩, hL13, S, h7, h10⟩
      · rw [if_neg cc26] at H
        refine FW.condT rfl (noT (vaF cc26)) ?_
        refine FW.skip ?_
        refine FW.block ?_
        refine FW.seq ?_
        refine FW.region ?_
        refine U rfl rfl (V (x_movV (v := .pointer (some ⟨bx0, 0, none⟩)) rfl) ?_)
        obtain ⟨y27, hy28, H⟩ := obx H
        refine U rfl rfl (cl fb18 (@regex_reader_peek.ok q12 (T_regex_reader.mk l8 b11) _ _ _ _ _ _ hG (S.sel 4 [3, 0, 1, 2] rfl) h10 hy28) rfl ?_)
        rintro _ w ⟨y27_1v0, J29, hJ30, rfl, y27_1h0, S⟩
        have h7 := h7.mono hJ30
        have hI := hI.trans hJ30
        have hL13 := hL13.trans hJ30
        have hG := hG.mono hJ30
        refine U rfl rfl (o_all tz51 S fun b31 w S => ?_)
        refine U rfl rfl (o_stA tag51 S 0 rfl rfl rfl rfl (c1 rfl (c1 rfl (c1 rfl c0))) rfl fun w S => ?_)
        refine FW.seq ?_
        refine FW.seq ?_
        refine FW.anew [(0, .pointer (some ⟨bx0, 0, none⟩)), (2, .pointer (some ⟨b1, 0, none⟩)), (3, .pointer (some ⟨b2, 0, none⟩)), (4, .pointer (some ⟨b31, 0, none⟩))] ⟨rfl, rfl, rfl, rfl, trivial⟩ fun σ => ?_
        refine FW.region ?_
        refine U rfl rfl (V (x_fa tf51_2 rfl) ?_)
        refine U rfl rfl (V (x_ld tsc4 rfl (S.load 0 rfl 2 rfl)) ?_)
        refine U rfl rfl (V (x_not' rfl) ?_)
        refine U rfl rfl (V (x_movV (v := .bool (!y27.1.digits)) rfl) ?_)
        by_cases cc32 : y27.1.digits = true
        · rw [if_pos cc32] at H
          refine OK.gf rfl rfl rfl (noF cc32) ?_
          refine OK.gf rfl rfl rfl (noF cc32) ?_
          refine OK.gf rfl rfl rfl (noF cc32) ?_
          refine OK.gf rfl rfl rfl (noF cc32) ?_
          refine OK.gu rfl rfl rfl ?_
          refine OK.gu rfl rfl rfl ?_
          refine OK.gu rfl rfl rfl ?_
          refine OK.gf rfl rfl rfl (noF cc32) ?_
          refine OK.gf rfl rfl rfl (noF cc32) ?_
          refine OK.gu rfl rfl rfl ?_
          refine OK.gu rfl rfl rfl ?_
          refine OK.gu rfl rfl rfl ?_
          refine OK.gf rfl rfl rfl (noF cc32) ?_
          refine U rfl rfl (V (x_pickFV (v := .bool false) rfl (noF cc32) rfl) ?_)
          refine FW.condF rfl rfl ?_
          refine FW.skip ?_
          have S := S.drew
          refine FW.regionD mixed ?_
          have hO := Hold.nil (w := { w with drawn := w.drawn + 1 })
          refine AQ.pure 0 rfl (by kernel_rfl) (by kernel_rfl) (by kernel_rfl) rfl hO (fun w => x_fa tf48_1 rfl) ?_
          have hR33 := IMem.le.refl J29
          refine AQ.take (S := Stab J29 [.bk b2 48 [.int .i64 0, v6, (.slice none 0 0), .bool false]]) 1 rfl (by kernel_rfl) (by kernel_rfl) (by kernel_rfl) rfl hO (Stab.of S 3 rfl hR33) (fun w hS => x_ld tsc45 rfl (hS.load 0 rfl 1 rfl)) fun hO => ?_
          refine AQ.pure 2 rfl (by kernel_rfl) (by kernel_rfl) (by kernel_rfl) rfl hO (fun w => x_movV (v := .pointer (some ⟨bx0, 0, none⟩)) rfl) ?_
          refine AQ.pure 3 rfl (by kernel_rfl) (by kernel_rfl) (by kernel_rfl) rfl hO (fun w => x_movV (v := .pointer (some ⟨bx0, 0, none⟩)) rfl) ?_
          refine AQ.pure 4 rfl (by kernel_rfl) (by kernel_rfl) (by kernel_rfl) rfl hO (fun w => x_movV (v := .pointer (some ⟨bx0, 0, none⟩)) rfl) ?_
          refine AQ.one 5 [1] [true] (by kernel_rfl) rfl (by kernel_rfl) ?_
          obtain ⟨y34, hy35, H⟩ := obx H
          refine U rfl rfl (cl fb29 (@regex_reader_next.ok q12 y27.2 _ _ _ _ _ _ hG (S.sel 5 [1, 0, 2, 3, 4] rfl) y27_1h0 hy35) rfl ?_)
          rintro _ w ⟨y34_1v0, J36, hJ37, rfl, y34_1h0, S⟩
          have h7 := h7.mono hJ37
          have hI := hI.trans hJ37
          have hL13 := hL13.trans hJ37
          have hR33 := hR33.trans hJ37
          have hG := hG.mono hJ37
          refine andI (Hold.cons (Stab.of S 3 rfl hR33) Hold.nil) fun hO => ?_
          refine AQ.one 6 [1] [true] (by kernel_rfl) rfl (by kernel_rfl) ?_
          obtain ⟨y38, hy39, H⟩ := obx H
          refine U rfl rfl (cl fb44 (@ih_regex_reader_atom q12 (by omega) y34.2 y34.1 _ _ _ _ _ _ hG S y34_1h0 hy39) rfl ?_)
          rintro _ w ⟨y38_0v1, y38_0v2, y38_1v0, J40, hJ41, rfl, y38_0h1, y38_0h2, y38_1h0, S⟩
          have h7 := h7.mono hJ41
          have hI := hI.trans hJ41
          have hL13 := hL13.trans hJ41
          have hR33 := hR33.trans hJ41
          have hG := hG.mono hJ41
          refine andI (Hold.cons (Stab.of S 3 rfl hR33) Hold.nil) fun hO => ?_
          refine AQ.one 7 [1] [true] (by kernel_rfl) rfl (by kernel_rfl) ?_
          obtain ⟨y42, hy43, H⟩ := obx H
          refine U rfl rfl (cl fb43 (@regex_reader_repeats.ok q12 y38.2 y38.1 _ _ _ _ _ _ _ _ hG S y38_1h0 y38_0h1 y38_0h2 hy43) rfl ?_)
          rintro _ w ⟨y42_0v1, y42_0v2, y42_1v0, J44, hJ45, rfl, y42_0h1, y42_0h2, y42_1h0, S⟩
          have h7 := h7.mono hJ45
          have y38_0h1 := y38_0h1.mono hJ45
          have y38_0h2 := y38_0h2.mono hJ45
          have hI := hI.trans hJ45
          have hL13 := hL13.trans hJ45
          have hR33 := hR33.trans hJ45
          have hG := hG.mono hJ45
          refine andI (Hold.cons (Stab.of S 3 rfl hR33) Hold.nil) fun hO => ?_
          refine AQ.one 8 [1] [true] (by kernel_rfl) rfl (by kernel_rfl) ?_
          refine U rfl rfl (o_bsl tsl45 tz48 rfl rfl rfl rfl (.agg PC.nil) rfl S fun b46 w S => ?_)
          obtain ⟨J47, hJ49, S, h48⟩ := S.freeze (r := R_regex_piece) (l := [y42.1]) 0 rfl ⟨[.int .i64 y42.1.kind, y42_0v1, y42_0v2, .bool y42.1.not], _, rfl, (R_regex_piece.mk (x := y42.1) y42_0h1 y42_0h2), rfl⟩ rfl rfl
          have h7 := h7.mono hJ49
          have y38_0h1 := y38_0h1.mono hJ49
          have y38_0h2 := y38_0h2.mono hJ49
          have y42_0h1 := y42_0h1.mono hJ49
          have y42_0h2 := y42_0h2.mono hJ49
          have y42_1h0 := y42_1h0.mono hJ49
          have hI := hI.trans hJ49
          have hL13 := hL13.trans hJ49
          have hR33 := hR33.trans hJ49
          have hG := hG.mono hJ49
          refine andI (Hold.cons (Stab.of S 4 rfl hR33) Hold.nil) fun hO => ?_
          refine AQ.one 9 [1] [false] (by kernel_rfl) rfl (by kernel_rfl) ?_
          obtain ⟨l50, h52, H⟩ := obx H
          refine U rfl rfl (o_appD (r := R_regex_piece) tsl45 rfl tz48 rfl rfl S 3 rfl rfl h7 h48 h52 fun v51 w J54 hJ55 S h53 => ?_)
          have h7 := h7.mono hJ55
          have y38_0h1 := y38_0h1.mono hJ55
          have y38_0h2 := y38_0h2.mono hJ55
          have y42_0h1 := y42_0h1.mono hJ55
          have y42_0h2 := y42_0h2.mono hJ55
          have h48 := h48.mono hJ55
          have y42_1h0 := y42_1h0.mono hJ55
          have hI := hI.trans hJ55
          have hL13 := hL13.trans hJ55
          have hR33 := hR33.trans hJ55
          have hG := hG.mono hJ55
          refine andI Hold.nil fun hO => ?_
          refine AQ.pure 10 rfl (by kernel_rfl) (by kernel_rfl) (by kernel_rfl) rfl hO (fun w => x_fa tf48_1 rfl) ?_
          refine AQ.one 11 [] [] (by kernel_rfl) rfl (by kernel_rfl) ?_
          refine U rfl rfl (o_st tone45 S 4 rfl rfl rfl h53.one fun w S => ?_)
          refine andI Hold.nil fun hO => ?_
          refine AQ.done (by kernel_rfl) ?_
          exact ⟨q12, Nat.le_refl _, l50, y42.2.rest, y42.2.bad, v51, y42_1v0, J54, H, (Nat.le_of_succ_le hq25), ⟨rfl, rfl, rfl, trivial⟩, hL13, (S.sel 6 [3, 4, 5, 1] rfl), h53, y42_1h0⟩
        · rw [if_neg cc32] at H
          refine OK.gt rfl rfl rfl (noT (vaF cc32)) (V (x_fa tf51_0 rfl) ?_)
          refine OK.gt rfl rfl rfl (noT (vaF cc32)) (V (x_ld tsc21 rfl (S.load 0 rfl 0 rfl)) ?_)
          refine OK.gt rfl rfl rfl (noT (vaF cc32)) (V (x_bin rfl rfl rfl) ?_)
          refine OK.gt rfl rfl rfl (noT (vaF cc32)) (V (x_movV (v := .bool (y27.1.c == 0)) rfl) ?_)
          by_cases cc56 : y27.1.c = 0
          · rw [if_pos cc56] at H
            refine OK.gf rfl rfl rfl (eqT cc56) ?_
            refine OK.gf rfl rfl rfl (eqT cc56) ?_
            refine OK.gf rfl rfl rfl (eqT cc56) ?_
            refine OK.gt rfl rfl rfl (noT (vaF cc32)) (V (x_pickTV (v := .bool true) rfl (eqT cc56) rfl) ?_)
            refine OK.gt rfl rfl rfl (noT (vaF cc32)) (V (x_movV (v := .bool true) rfl) ?_)
            refine OK.gf rfl rfl rfl rfl ?_
            refine OK.gf rfl rfl rfl rfl ?_
            refine OK.gf rfl rfl rfl rfl ?_
            refine OK.gt rfl rfl rfl (noT (vaF cc32)) (V (x_pickTV (v := .bool true) rfl rfl rfl) ?_)
            refine U rfl rfl (V (x_pickTV (v := .bool true) rfl (noT (vaF cc32)) rfl) ?_)
            refine FW.condT rfl rfl ?_
            refine FW.exit ?_
            exact ⟨l5, y27.2.rest, y27.2.bad, v6, y27_1v0, J29, (Option.some.inj H), ⟨rfl, rfl, trivial⟩, hL13, (S.sel 5 [2, 3, 4, 1] rfl), h7, y27_1h0⟩
          · rw [if_neg cc56] at H
            refine OK.gt rfl rfl rfl (eqF cc56) (V (x_fa tf51_0 rfl) ?_)
            refine OK.gt rfl rfl rfl (eqF cc56) (V (x_ld tsc21 rfl (S.load 0 rfl 0 rfl)) ?_)
            refine OK.gt rfl rfl rfl (eqF cc56) (V (x_bin rfl rfl rfl) ?_)
            refine OK.gt rfl rfl rfl (noT (vaF cc32)) (V (x_pickFV (v := .bool (y27.1.c == 124)) rfl (eqF cc56) rfl) ?_)
            refine OK.gt rfl rfl rfl (noT (vaF cc32)) (V (x_movV (v := .bool (y27.1.c == 124)) rfl) ?_)
            by_cases cc57 : y27.1.c = 124
            · rw [if_pos cc57] at H
              refine OK.gf rfl rfl rfl (eqT cc57) ?_
              refine OK.gf rfl rfl rfl (eqT cc57) ?_
              refine OK.gf rfl rfl rfl (eqT cc57) ?_
              refine OK.gt rfl rfl rfl (noT (vaF cc32)) (V (x_pickTV (v := .bool true) rfl (eqT cc57) rfl) ?_)
              refine U rfl rfl (V (x_pickTV (v := .bool true) rfl (noT (vaF cc32)) rfl) ?_)
              refine FW.condT rfl rfl ?_
              refine FW.exit ?_
              exact ⟨l5, y27.2.rest, y27.2.bad, v6, y27_1v0, J29, (Option.some.inj H), ⟨rfl, rfl, trivial⟩, hL13, (S.sel 5 [2, 3, 4, 1] rfl), h7, y27_1h0⟩
            · rw [if_neg cc57] at H
              refine OK.gt rfl rfl rfl (eqF cc57) (V (x_fa tf51_0 rfl) ?_)
              refine OK.gt rfl rfl rfl (eqF cc57) (V (x_ld tsc21 rfl (S.load 0 rfl 0 rfl)) ?_)
              refine OK.gt rfl rfl rfl (eqF cc57) (V (x_bin rfl rfl rfl) ?_)
              refine OK.gt rfl rfl rfl (noT (vaF cc32)) (V (x_pickFV (v := .bool (y27.1.c == 41)) rfl (eqF cc57) rfl) ?_)
              refine U rfl rfl (V (x_pickTV (v := .bool (y27.1.c == 41)) rfl (noT (vaF cc32)) rfl) ?_)
              by_cases cc58 : y27.1.c = 41
              · rw [if_pos cc58] at H
                refine FW.condT rfl (eqT cc58) ?_
                refine FW.exit ?_
                exact ⟨l5, y27.2.rest, y27.2.bad, v6, y27_1v0, J29, (Option.some.inj H), ⟨rfl, rfl, trivial⟩, hL13, (S.sel 5 [2, 3, 4, 1] rfl), h7, y27_1h0⟩
              · rw [if_neg cc58] at H
                refine FW.condF rfl (eqF cc58) ?_
                refine FW.skip ?_
                refine FW.anew [(0, .pointer (some ⟨bx0, 0, none⟩)), (2, .pointer (some ⟨b1, 0, none⟩)), (3, .pointer (some ⟨b2, 0, none⟩))] ⟨rfl, rfl, rfl, trivial⟩ fun σ => ?_
                have S := S.drew
                refine FW.regionD mixed ?_
                have hO := Hold.nil (w := { w with drawn := w.drawn + 1 })
                refine AQ.pure 0 rfl (by kernel_rfl) (by kernel_rfl) (by kernel_rfl) rfl hO (fun w => x_fa tf48_1 rfl) ?_
                have hR59 := IMem.le.refl J29
                refine AQ.take (S := Stab J29 [.bk b2 48 [.int .i64 0, v6, (.slice none 0 0), .bool false]]) 1 rfl (by kernel_rfl) (by kernel_rfl) (by kernel_rfl) rfl hO (Stab.of S 3 rfl hR59) (fun w hS => x_ld tsc45 rfl (hS.load 0 rfl 1 rfl)) fun hO => ?_
                refine AQ.pure 2 rfl (by kernel_rfl) (by kernel_rfl) (by kernel_rfl) rfl hO (fun w => x_movV (v := .pointer (some ⟨bx0, 0, none⟩)) rfl) ?_
                refine AQ.pure 3 rfl (by kernel_rfl) (by kernel_rfl) (by kernel_rfl) rfl hO (fun w => x_movV (v := .pointer (some ⟨bx0, 0, none⟩)) rfl) ?_
                refine AQ.pure 4 rfl (by kernel_rfl) (by kernel_rfl) (by kernel_rfl) rfl hO (fun w => x_movV (v := .pointer (some ⟨bx0, 0, none⟩)) rfl) ?_
                refine AQ.one 5 [1] [true] (by kernel_rfl) rfl (by kernel_rfl) ?_
                obtain ⟨y60, hy61, H⟩ := obx H
                refine U rfl rfl (cl fb29 (@regex_reader_next.ok q12 y27.2 _ _ _ _ _ _ hG (S.sel 5 [1, 0, 2, 3, 4] rfl) y27_1h0 hy61) rfl ?_)
                rintro _ w ⟨y60_1v0, J62, hJ63, rfl, y60_1h0, S⟩
                have h7 := h7.mono hJ63
                have hI := hI.trans hJ63
                have hL13 := hL13.trans hJ63
                have hR59 := hR59.trans hJ63
                have hG := hG.mono hJ63
                refine andI (Hold.cons (Stab.of S 3 rfl hR59) Hold.nil) fun hO => ?_
                refine AQ.one 6 [1] [true] (by kernel_rfl) rfl (by kernel_rfl) ?_
                obtain ⟨y64, hy65, H⟩ := obx H
                refine U rfl rfl (cl fb44 (@ih_regex_reader_atom q12 (by omega) y60.2 y60.1 _ _ _ _ _ _ hG S y60_1h0 hy65) rfl ?_)
                rintro _ w ⟨y64_0v1, y64_0v2, y64_1v0, J66, hJ67, rfl, y64_0h1, y64_0h2, y64_1h0, S⟩
                have h7 := h7.mono hJ67
                have hI := hI.trans hJ67
                have hL13 := hL13.trans hJ67
                have hR59 := hR59.trans hJ67
                have hG := hG.mono hJ67
                refine andI (Hold.cons (Stab.of S 3 rfl hR59) Hold.nil) fun hO => ?_
                refine AQ.one 7 [1] [true] (by kernel_rfl) rfl (by kernel_rfl) ?_
                obtain ⟨y68, hy69, H⟩ := obx H
                refine U rfl rfl (cl fb43 (@regex_reader_repeats.ok q12 y64.2 y64.1 _ _ _ _ _ _ _ _ hG S y64_1h0 y64_0h1 y64_0h2 hy69) rfl ?_)
                rintro _ w ⟨y68_0v1, y68_0v2, y68_1v0, J70, hJ71, rfl, y68_0h1, y68_0h2, y68_1h0, S⟩
                have h7 := h7.mono hJ71
                have y64_0h1 := y64_0h1.mono hJ71
                have y64_0h2 := y64_0h2.mono hJ71
                have hI := hI.trans hJ71
                have hL13 := hL13.trans hJ71
                have hR59 := hR59.trans hJ71
                have hG := hG.mono hJ71
                refine andI (Hold.cons (Stab.of S 3 rfl hR59) Hold.nil) fun hO => ?_
                refine AQ.one 8 [1] [true] (by kernel_rfl) rfl (by kernel_rfl) ?_
                refine U rfl rfl (o_bsl tsl45 tz48 rfl rfl rfl rfl (.agg PC.nil) rfl S fun b72 w S => ?_)
                obtain ⟨J73, hJ75, S, h74⟩ := S.freeze (r := R_regex_piece) (l := [y68.1]) 0 rfl ⟨[.int .i64 y68.1.kind, y68_0v1, y68_0v2, .bool y68.1.not], _, rfl, (R_regex_piece.mk (x := y68.1) y68_0h1 y68_0h2), rfl⟩ rfl rfl
                have h7 := h7.mono hJ75
                have y64_0h1 := y64_0h1.mono hJ75
                have y64_0h2 := y64_0h2.mono hJ75
                have y68_0h1 := y68_0h1.mono hJ75
                have y68_0h2 := y68_0h2.mono hJ75
                have y68_1h0 := y68_1h0.mono hJ75
                have hI := hI.trans hJ75
                have hL13 := hL13.trans hJ75
                have hR59 := hR59.trans hJ75
                have hG := hG.mono hJ75
                refine andI (Hold.cons (Stab.of S 4 rfl hR59) Hold.nil) fun hO => ?_
                refine AQ.one 9 [1] [false] (by kernel_rfl) rfl (by kernel_rfl) ?_
                obtain ⟨l76, h78, H⟩ := obx H
                refine U rfl rfl (o_appD (r := R_regex_piece) tsl45 rfl tz48 rfl rfl S 3 rfl rfl h7 h74 h78 fun v77 w J80 hJ81 S h79 => ?_)
                have h7 := h7.mono hJ81
                have y64_0h1 := y64_0h1.mono hJ81
                have y64_0h2 := y64_0h2.mono hJ81
                have y68_0h1 := y68_0h1.mono hJ81
                have y68_0h2 := y68_0h2.mono hJ81
                have h74 := h74.mono hJ81
                have y68_1h0 := y68_1h0.mono hJ81
                have hI := hI.trans hJ81
                have hL13 := hL13.trans hJ81
                have hR59 := hR59.trans hJ81
                have hG := hG.mono hJ81
                refine andI Hold.nil fun hO => ?_
                refine AQ.pure 10 rfl (by kernel_rfl) (by kernel_rfl) (by kernel_rfl) rfl hO (fun w => x_fa tf48_1 rfl) ?_
                refine AQ.one 11 [] [] (by kernel_rfl) rfl (by kernel_rfl) ?_
                refine U rfl rfl (o_st tone45 S 4 rfl rfl rfl h79.one fun w S => ?_)
                refine andI Hold.nil fun hO => ?_
                refine AQ.done (by kernel_rfl) ?_
                exact ⟨q12, Nat.le_refl _, l76, y68.2.rest, y68.2.bad, v77, y68_1v0, J80, H, (Nat.le_of_succ_le hq25), ⟨rfl, rfl, rfl, trivial⟩, hL13, (S.sel 6 [3, 4, 5, 1] rfl), h79, y68_1h0⟩
  · rintro σ w ⟨l18, l21, b24, v19, v22, J17, ho, hσ, hL13, S, h20, h23⟩
    subst ho
    have H := HO15
    try dsimp only at H
    have hI := hI.trans hL13
    have hG := hG.mono hL13
    rw [hσ.eq]
    refine FW.seq ?_
    refine FW.region ?_
    refine U rfl rfl (V (x_ldA tag48 rfl (S.loadW 1 rfl) rfl) ?_)
    refine U rfl rfl (o_stA tag48 S 2 rfl rfl rfl rfl (c1 rfl (c1 h20.one (c1 rfl (c1 rfl c0)))) rfl fun w S => ?_)
    refine FW.ret ?_
    obtain rfl := Option.some.inj H
    exact ⟨_, ⟨_, _, _, rfl, rfl, ldA tag48 (S.loadW 2 rfl) rfl, rfl⟩, ⟨v19, (.slice none 0 0), v22, J17, hI, rfl, h20, (SlR.nil _ _), h23, (S.sel 4 [3] rfl)⟩⟩
theorem regex_reader_row.zero : regex_reader_row.C 0 := by
  intro _ _ _ _ _ _ _ _ _ _ H; cases H
theorem regex_reader_atom.step (k : Nat) (ih_regex_reader_choices : ∀ m, m ≤ k → regex_reader_choices.C m) : regex_reader_atom.C (k + 1) := by
  intro x0 x1 x0v0 bx0 F I w r hG S x0h0 H
  have hI := IMem.le.refl I
  rw [regex_reader_atom.f] at H
  refine Calls.ofFW (args := [.pointer (some ⟨bx0, 0, none⟩), .agg #[.int .i32 x1.c, .int .u32 x1.n, .bool x1.digits]]) Tryd.func44 rfl rfl ?_
  refine FW.seq ?_
  refine FW.region ?_
  refine U rfl rfl (o_boxA rfl S fun b1 w S => ?_)
  refine U rfl rfl (o_all tz48 S fun b2 w S => ?_)
  refine FW.seq ?_
  refine FW.block ?_
  refine FW.seq ?_
  refine FW.region ?_
  refine U rfl rfl (V (x_fa tf51_2 rfl) ?_)
  refine U rfl rfl (V (x_ld tsc4 rfl (S.load 1 rfl 2 rfl)) ?_)
  refine U rfl rfl (V (x_asgV (v := .bool x1.digits) rfl) ?_)
  by_cases cc3 : x1.digits = true
  · rw [if_pos cc3] at H
    refine FW.condT rfl cc3 ?_
    refine FW.seq ?_
    refine FW.region ?_
    refine U rfl rfl (V (x_fa tf51_1 rfl) ?_)
    refine U rfl rfl (V (x_ld tsc38 rfl (S.load 1 rfl 1 rfl)) ?_)
    refine U rfl rfl (V (x_fa tf51_1 rfl) ?_)
    refine U rfl rfl (V (x_ld tsc38 rfl (S.load 1 rfl 1 rfl)) ?_)
    refine U rfl rfl (V (x_bld tz80 tpl80 rfl (.one rfl (.one rfl PC.nil)) rfl) ?_)
    refine U rfl rfl (o_bsl tsl46 tz80 rfl rfl rfl rfl (.agg PC.nil) rfl S fun b4 w S => ?_)
    obtain ⟨J5, hJ7, S, h6⟩ := S.freeze (r := R_regex_span) (l := [(T_regex_span.mk x1.n x1.n)]) 0 rfl ⟨[.int .u32 x1.n, .int .u32 x1.n], _, rfl, rfl, rfl⟩ rfl rfl
    have x0h0 := x0h0.mono hJ7
    have hI := hI.trans hJ7
    have hG := hG.mono hJ7
    refine U rfl rfl (V (x_bld tz48 tpl48 rfl (.one rfl (.one h6.one PC.nil)) rfl) ?_)
    refine U rfl rfl (o_stA tag48 S 1 rfl rfl rfl rfl (c1 rfl (c1 rfl (c1 h6.one (c1 rfl c0)))) rfl fun w S => ?_)
    refine FW.ret ?_
    obtain rfl := Option.some.inj H
    exact ⟨_, ⟨_, _, _, rfl, rfl, ldA tag48 (S.loadW 1 rfl) rfl, rfl⟩, ⟨(.slice none 0 0), (.slice (some ⟨b4, 0, none⟩) 1 1), x0v0, J5, hI, rfl, (SlR.nil _ _), h6, x0h0, (S.sel 4 [3] rfl)⟩⟩
  · rw [if_neg cc3] at H
    refine FW.condF rfl (vaF cc3) ?_
    refine FW.seq ?_
    refine FW.region ?_
    refine U rfl rfl (V (x_fa tf51_0 rfl) ?_)
    refine U rfl rfl (V (x_ld tsc21 rfl (S.load 1 rfl 0 rfl)) ?_)
    refine U rfl rfl (V (x_bin rfl rfl rfl) ?_)
    refine U rfl rfl (V (x_asgV (v := .bool (x1.c == 46)) rfl) ?_)
    by_cases cc8 : x1.c = 46
    · rw [if_pos cc8] at H
      refine FW.condT rfl (eqT cc8) ?_
      refine FW.seq ?_
      refine FW.anew [(4, .pointer (some ⟨b2, 0, none⟩))] ⟨rfl, trivial⟩ fun σ => ?_
      refine FW.region ?_
      refine U rfl rfl (V (x_bld tz48 tpl48 rfl (.one rfl PC.nil) rfl) ?_)
      refine U rfl rfl (o_stA tag48 S 0 rfl rfl rfl rfl (c1 rfl (c1 rfl (c1 rfl (c1 rfl c0)))) rfl fun w S => ?_)
      refine FW.ret ?_
      obtain rfl := Option.some.inj H
      exact ⟨_, ⟨_, _, _, rfl, rfl, ldA tag48 (S.loadW 0 rfl) rfl, rfl⟩, ⟨(.slice none 0 0), (.slice none 0 0), x0v0, I, hI, rfl, (SlR.nil _ _), (SlR.nil _ _), x0h0, (S.sel 3 [2] rfl)⟩⟩
    · rw [if_neg cc8] at H
      refine FW.condF rfl (eqF cc8) ?_
      refine FW.seq ?_
      refine FW.anew [(0, .pointer (some ⟨bx0, 0, none⟩)), (3, .pointer (some ⟨b1, 0, none⟩)), (4, .pointer (some ⟨b2, 0, none⟩))] ⟨rfl, rfl, rfl, trivial⟩ fun σ => ?_
      refine FW.region ?_
      refine U rfl rfl (V (x_fa tf51_0 rfl) ?_)
      refine U rfl rfl (V (x_ld tsc21 rfl (S.load 1 rfl 0 rfl)) ?_)
      refine U rfl rfl (V (x_bin rfl rfl rfl) ?_)
      refine U rfl rfl (V (x_asgV (v := .bool (x1.c == 94)) rfl) ?_)
      by_cases cc9 : x1.c = 94
      · rw [if_pos cc9] at H
        refine FW.condT rfl (eqT cc9) ?_
        refine FW.seq ?_
        refine FW.region ?_
        refine U rfl rfl (V (x_bld tz48 tpl48 rfl (.one rfl PC.nil) rfl) ?_)
        refine U rfl rfl (o_stA tag48 S 0 rfl rfl rfl rfl (c1 rfl (c1 rfl (c1 rfl (c1 rfl c0)))) rfl fun w S => ?_)
        refine FW.ret ?_
        obtain rfl := Option.some.inj H
        exact ⟨_, ⟨_, _, _, rfl, rfl, ldA tag48 (S.loadW 0 rfl) rfl, rfl⟩, ⟨(.slice none 0 0), (.slice none 0 0), x0v0, I, hI, rfl, (SlR.nil _ _), (SlR.nil _ _), x0h0, (S.sel 3 [2] rfl)⟩⟩
      · rw [if_neg cc9] at H
        refine FW.condF rfl (eqF cc9) ?_
        refine FW.seq ?_
        refine FW.region ?_
        refine U rfl rfl (V (x_fa tf51_0 rfl) ?_)
        refine U rfl rfl (V (x_ld tsc21 rfl (S.load 1 rfl 0 rfl)) ?_)
        refine U rfl rfl (V (x_bin rfl rfl rfl) ?_)
        refine U rfl rfl (V (x_asgV (v := .bool (x1.c == 36)) rfl) ?_)
        by_cases cc10 : x1.c = 36
        · rw [if_pos cc10] at H
          refine FW.condT rfl (eqT cc10) ?_
          refine FW.seq ?_
          refine FW.anew [(4, .pointer (some ⟨b2, 0, none⟩))] ⟨rfl, trivial⟩ fun σ => ?_
          refine FW.region ?_
          refine U rfl rfl (V (x_bld tz48 tpl48 rfl (.one rfl PC.nil) rfl) ?_)
          refine U rfl rfl (o_stA tag48 S 0 rfl rfl rfl rfl (c1 rfl (c1 rfl (c1 rfl (c1 rfl c0)))) rfl fun w S => ?_)
          refine FW.ret ?_
          obtain rfl := Option.some.inj H
          exact ⟨_, ⟨_, _, _, rfl, rfl, ldA tag48 (S.loadW 0 rfl) rfl, rfl⟩, ⟨(.slice none 0 0), (.slice none 0 0), x0v0, I, hI, rfl, (SlR.nil _ _), (SlR.nil _ _), x0h0, (S.sel 3 [2] rfl)⟩⟩
        · rw [if_neg cc10] at H
          refine FW.condF rfl (eqF cc10) ?_
          refine FW.seq ?_
          refine FW.anew [(0, .pointer (some ⟨bx0, 0, none⟩)), (3, .pointer (some ⟨b1, 0, none⟩)), (4, .pointer (some ⟨b2, 0, none⟩))] ⟨rfl, rfl, rfl, trivial⟩ fun σ => ?_
          refine FW.region ?_
          refine U rfl rfl (V (x_fa tf51_0 rfl) ?_)
          refine U rfl rfl (V (x_ld tsc21 rfl (S.load 1 rfl 0 rfl)) ?_)
          refine U rfl rfl (V (x_bin rfl rfl rfl) ?_)
          refine U rfl rfl (V (x_asgV (v := .bool (x1.c == 91)) rfl) ?_)
          by_cases cc11 : x1.c = 91
          · rw [if_pos cc11] at H
            refine FW.condT rfl (eqT cc11) ?_
            refine FW.seq ?_
            refine FW.region ?_
            refine U rfl rfl (V (x_movV (v := .pointer (some ⟨bx0, 0, none⟩)) rfl) ?_)
            obtain ⟨y12, hy13, H⟩ := obx H
            refine U rfl rfl (cl fb50 (@regex_reader_set.ok k x0 _ _ _ _ _ _ hG (S.sel 3 [2, 0, 1] rfl) x0h0 hy13) rfl ?_)
            rintro _ w ⟨y12_0v1, y12_0v2, y12_1v0, J14, hJ15, rfl, y12_0h1, y12_0h2, y12_1h0, S⟩
            have hI := hI.trans hJ15
            have hG := hG.mono hJ15
            refine U rfl rfl (o_stA tag48 S 1 rfl rfl rfl rfl (c1 rfl (c1 y12_0h1.one (c1 y12_0h2.one (c1 rfl c0)))) rfl fun w S => ?_)
            refine FW.ret ?_
            obtain rfl := Option.some.inj H
            exact ⟨_, ⟨_, _, _, rfl, rfl, ldA tag48 (S.loadW 1 rfl) rfl, rfl⟩, ⟨y12_0v1, y12_0v2, y12_1v0, J14, hI, rfl, y12_0h1, y12_0h2, y12_1h0, (S.sel 3 [0] rfl)⟩⟩
          · rw [if_neg cc11] at H
            refine FW.condF rfl (eqF cc11) ?_
            refine FW.seq ?_
            refine FW.region ?_
            refine U rfl rfl (V (x_fa tf51_0 rfl) ?_)
            refine U rfl rfl (V (x_ld tsc21 rfl (S.load 1 rfl 0 rfl)) ?_)
            refine U rfl rfl (V (x_bin rfl rfl rfl) ?_)
            refine U rfl rfl (V (x_asgV (v := .bool (x1.c == 40)) rfl) ?_)
            by_cases cc16 : x1.c = 40
            · rw [if_pos cc16] at H
              refine FW.condT rfl (eqT cc16) ?_
              refine FW.seq ?_
              refine FW.anew [(0, .pointer (some ⟨bx0, 0, none⟩)), (4, .pointer (some ⟨b2, 0, none⟩))] ⟨rfl, rfl, trivial⟩ fun σ => ?_
              refine FW.region ?_
              refine U rfl rfl (V (x_movV (v := .pointer (some ⟨bx0, 0, none⟩)) rfl) ?_)
              obtain ⟨y17, hy18, H⟩ := obx H
              refine U rfl rfl (cl fb17 (@ih_regex_reader_choices k (by omega) x0 _ _ _ _ _ _ hG (S.sel 3 [2, 0, 1] rfl) x0h0 hy18) rfl ?_)
              rintro _ w ⟨y17_0v1, y17_0v2, y17_1v0, J19, hJ20, rfl, y17_0h1, y17_0h2, y17_1h0, S⟩
              have hI := hI.trans hJ20
              have hG := hG.mono hJ20
              refine U rfl rfl (o_all tz48 S fun b21 w S => ?_)
              refine U rfl rfl (o_stA tag48 S 0 rfl rfl rfl rfl (c1 rfl (c1 y17_0h1.one (c1 y17_0h2.one (c1 rfl c0)))) rfl fun w S => ?_)
              refine FW.seq ?_
              refine FW.region ?_
              refine U rfl rfl (V (x_movV (v := .pointer (some ⟨bx0, 0, none⟩)) rfl) ?_)
              refine U rfl rfl (V (x_movV (v := .pointer (some ⟨bx0, 0, none⟩)) rfl) ?_)
              refine U rfl rfl (V (x_nk rfl) ?_)
              refine U rfl rfl (V (x_fa tf44_1 rfl) ?_)
              refine U rfl rfl (V (x_ld tsc4 rfl (S.load 1 rfl 1 rfl)) ?_)
              refine U rfl rfl (V (x_movV (v := .bool y17.2.bad) rfl) ?_)
              by_cases cc22 : y17.2.bad = true
              · rw [if_pos cc22] at H
                refine OK.gf rfl rfl rfl cc22 ?_
                refine OK.gf rfl rfl rfl cc22 ?_
                refine OK.gf rfl rfl rfl cc22 ?_
                refine OK.gf rfl rfl rfl cc22 ?_
                refine U rfl rfl (V (x_pickTV (v := .bool true) rfl cc22 rfl) ?_)
                refine U rfl rfl (V (x_nk rfl) ?_)
                refine U rfl rfl (V (x_fa tf44_1 rfl) ?_)
                refine U rfl rfl (o_st tone4 S 1 rfl rfl rfl rfl fun w S => ?_)
                refine FW.seq ?_
                refine FW.anew [(4, .pointer (some ⟨b2, 0, none⟩)), (5, .pointer (some ⟨b21, 0, none⟩))] ⟨rfl, rfl, trivial⟩ fun σ => ?_
                refine FW.region ?_
                refine U rfl rfl (V (x_ldA tag48 rfl (S.loadW 0 rfl) rfl) ?_)
                refine U rfl rfl (o_stA tag48 S 2 rfl rfl rfl rfl (c1 rfl (c1 y17_0h1.one (c1 y17_0h2.one (c1 rfl c0)))) rfl fun w S => ?_)
                refine FW.ret ?_
                obtain rfl := Option.some.inj H
                exact ⟨_, ⟨_, _, _, rfl, rfl, ldA tag48 (S.loadW 2 rfl) rfl, rfl⟩, ⟨y17_0v1, y17_0v2, y17_1v0, J19, hI, rfl, y17_0h1, y17_0h2, y17_1h0, (S.sel 4 [1] rfl)⟩⟩
              · rw [if_neg cc22] at H
                refine OK.gt rfl rfl rfl (vaF cc22) (V (x_movV (v := .pointer (some ⟨bx0, 0, none⟩)) rfl) ?_)
                obtain ⟨y23, hy24, H⟩ := obx H
                refine OK.gt rfl rfl rfl (vaF cc22) (cl fb29 (@regex_reader_next.ok k y17.2 _ _ _ _ _ _ hG (S.sel 4 [1, 0, 2, 3] rfl) y17_1h0 hy24) rfl ?_)
                rintro _ w ⟨y23_1v0, J25, hJ26, rfl, y23_1h0, S⟩
                have y17_0h1 := y17_0h1.mono hJ26
                have y17_0h2 := y17_0h2.mono hJ26
                have hI := hI.trans hJ26
                have hG := hG.mono hJ26
                refine OK.gt rfl rfl rfl (vaF cc22) (V (x_fld tf51_0 tsc21 rfl rfl) ?_)
                refine OK.gt rfl rfl rfl (vaF cc22) (V (x_bin rfl rfl rfl) ?_)
                refine U rfl rfl (V (x_pickFV (v := .bool (y23.1.c != 41)) rfl (vaF cc22) rfl) ?_)
                refine U rfl rfl (V (x_nk rfl) ?_)
                refine U rfl rfl (V (x_fa tf44_1 rfl) ?_)
                refine U rfl rfl (o_st tone4 S 0 rfl rfl rfl rfl fun w S => ?_)
                refine FW.seq ?_
                refine FW.anew [(4, .pointer (some ⟨b2, 0, none⟩)), (5, .pointer (some ⟨b21, 0, none⟩))] ⟨rfl, rfl, trivial⟩ fun σ => ?_
                refine FW.region ?_
                refine U rfl rfl (V (x_ldA tag48 rfl (S.loadW 1 rfl) rfl) ?_)
                refine U rfl rfl (o_stA tag48 S 2 rfl rfl rfl rfl (c1 rfl (c1 y17_0h1.one (c1 y17_0h2.one (c1 rfl c0)))) rfl fun w S => ?_)
                refine FW.ret ?_
                obtain rfl := Option.some.inj H
                exact ⟨_, ⟨_, _, _, rfl, rfl, ldA tag48 (S.loadW 2 rfl) rfl, rfl⟩, ⟨y17_0v1, y17_0v2, y23_1v0, J25, hI, rfl, y17_0h1, y17_0h2, y23_1h0, (S.sel 4 [0] rfl)⟩⟩
            · rw [if_neg cc16] at H
              refine FW.condF rfl (eqF cc16) ?_
              refine FW.skip ?_
              refine FW.seq ?_
              refine FW.anew [(0, .pointer (some ⟨bx0, 0, none⟩)), (4, .pointer (some ⟨b2, 0, none⟩))] ⟨rfl, rfl, trivial⟩ fun σ => ?_
              refine FW.region ?_
              refine U rfl rfl (V (x_movV (v := .pointer (some ⟨bx0, 0, none⟩)) rfl) ?_)
              refine U rfl rfl (V (x_nk rfl) ?_)
              refine U rfl rfl (V (x_fa tf44_1 rfl) ?_)
              refine U rfl rfl (o_st tone4 S 2 rfl rfl rfl rfl fun w S => ?_)
              refine FW.seq ?_
              refine FW.region ?_
              refine U rfl rfl (V (x_bld tz48 tpl48 rfl PC.nil rfl) ?_)
              refine U rfl rfl (o_stA tag48 S 0 rfl rfl rfl rfl (c1 rfl (c1 rfl (c1 rfl (c1 rfl c0)))) rfl fun w S => ?_)
              refine FW.ret ?_
              obtain rfl := Option.some.inj H
              exact ⟨_, ⟨_, _, _, rfl, rfl, ldA tag48 (S.loadW 0 rfl) rfl, rfl⟩, ⟨(.slice none 0 0), (.slice none 0 0), x0v0, I, hI, rfl, (SlR.nil _ _), (SlR.nil _ _), x0h0, (S.sel 3 [2] rfl)⟩⟩
theorem regex_reader_atom.zero : regex_reader_atom.C 0 := by
  intro _ _ _ _ _ _ _ _ _ _ _ H; cases H
theorem regex_reader_choices.grp : ∀ k m, m ≤ k → regex_reader_choices.C m ∧ regex_reader_row.C m ∧ regex_reader_atom.C m
  | 0, m, h => by
    obtain rfl : m = 0 := by omega
    exact ⟨regex_reader_choices.zero, regex_reader_row.zero, regex_reader_atom.zero⟩
  | k + 1, 0, _ => ⟨regex_reader_choices.zero, regex_reader_row.zero, regex_reader_atom.zero⟩
  | k + 1, m + 1, h => ⟨regex_reader_choices.step m (fun i hi => (regex_reader_choices.grp k i (by omega)).2.1), regex_reader_row.step m (fun i hi => (regex_reader_choices.grp k i (by omega)).2.2), regex_reader_atom.step m (fun i hi => (regex_reader_choices.grp k i (by omega)).1)⟩
theorem regex_reader_choices.ok (k : Nat) : regex_reader_choices.C k := (regex_reader_choices.grp k k (Nat.le_refl k)).1
def regex_Expr_put.f (k : Nat) (x0 : T_regex_Expr) (x1 : T_regex_step) : Option (Int × T_regex_Expr) := ((app 56 x0.prog [x1]).bind fun l7 => (some ((i64 ((l7.length : Int) - 1)), (T_regex_Expr.mk x0.top l7))))
abbrev regex_Expr_put.C (k : Nat) : Prop := ∀ {x0 : T_regex_Expr} {x1 : T_regex_step} {x0v1 : Value} {x0v2 : Value} {x0v4 : Value} {cx0_4 : List Value} {x1v1 : Value} {bx0 : Nat} {F : List It} {I : IMem} {w : World} {r : Int × T_regex_Expr}, Glob I → Own I w (.bk bx0 55 [.int .i64 x0.top.kind, x0v1, x0v2, .bool x0.top.not, x0v4] :: .av x0v4 59 6 cx0_4 :: F) → SlR R_regex_piece I x0v1 x0.top.parts → SlR R_regex_span I x0v2 x0.top.spans → Flat R_regex_step I cx0_4 x0.prog → SlR R_regex_span I x1v1 x1.spans → regex_Expr_put.f k x0 x1 = some r →
    Calls Tryd.prog 31 #[.pointer (some ⟨bx0, 0, none⟩), .agg #[.int .i64 x1.op, x1v1, .bool x1.all, .bool x1.not, .int .i64 x1.to_.1, .int .i64 x1.to_.2]] w fun e w' => ∃ v, e = .returned v ∧ ∃ (y_1v1 : Value) (y_1v2 : Value) (y_1v4 : Value) (cy_1_4 : List Value) (J : IMem), I.le J ∧ v = .int .i64 r.1 ∧ SlR R_regex_piece J y_1v1 r.2.top.parts ∧ SlR R_regex_span J y_1v2 r.2.top.spans ∧ Flat R_regex_step J cy_1_4 r.2.prog ∧ Own J w' (.bk bx0 55 [.int .i64 r.2.top.kind, y_1v1, y_1v2, .bool r.2.top.not, y_1v4] :: .av y_1v4 59 6 cy_1_4 :: F)
theorem regex_Expr_put.ok (k : Nat) : regex_Expr_put.C k := by
  intro x0 x1 x0v1 x0v2 x0v4 cx0_4 x1v1 bx0 F I w r hG S x0h1 x0h2 x0h4 x1h1 H
  have hI := IMem.le.refl I
  rw [regex_Expr_put.f] at H
  refine Calls.ofFW (args := [.pointer (some ⟨bx0, 0, none⟩), .agg #[.int .i64 x1.op, x1v1, .bool x1.all, .bool x1.not, .int .i64 x1.to_.1, .int .i64 x1.to_.2]]) Tryd.func31 rfl rfl ?_
  refine FW.seq ?_
  refine FW.region ?_
  refine U rfl rfl (o_boxA rfl S fun b1 w S => ?_)
  refine U rfl rfl (V (x_asgV (v := .int .i64 0) rfl) ?_)
  refine FW.seq ?_
  have S := S.drew
  refine FW.regionD mixed ?_
  have hO := Hold.nil (w := { w with drawn := w.drawn + 1 })
  refine AQ.pure 0 rfl (by kernel_rfl) (by kernel_rfl) (by kernel_rfl) rfl hO (fun w => x_movV (v := .pointer (some ⟨bx0, 0, none⟩)) rfl) ?_
  refine AQ.pure 1 rfl (by kernel_rfl) (by kernel_rfl) (by kernel_rfl) rfl hO (fun w => x_movV (v := .pointer (some ⟨bx0, 0, none⟩)) rfl) ?_
  refine AQ.pure 2 rfl (by kernel_rfl) (by kernel_rfl) (by kernel_rfl) rfl hO (fun w => x_nk rfl) ?_
  refine AQ.pure 3 rfl (by kernel_rfl) (by kernel_rfl) (by kernel_rfl) rfl hO (fun w => x_fa tf55_1 rfl) ?_
  have hR2 := IMem.le.refl I
  refine AQ.take (S := Stab I [.bk bx0 55 [.int .i64 x0.top.kind, x0v1, x0v2, .bool x0.top.not, x0v4]]) 4 rfl (by kernel_rfl) (by kernel_rfl) (by kernel_rfl) rfl hO (Stab.of S 1 rfl hR2) (fun w hS => x_ld tsc53 rfl (hS.load 0 rfl 4 rfl)) fun hO => ?_
  refine AQ.take (S := Stab I [.bk b1 59 [.int .i64 x1.op, x1v1, .bool x1.all, .bool x1.not, .int .i64 x1.to_.1, .int .i64 x1.to_.2]]) 5 rfl (by kernel_rfl) (by kernel_rfl) (by kernel_rfl) rfl hO (Stab.of S 0 rfl hR2) (fun w hS => x_ldA tag59 rfl (hS.loadW 0 rfl) rfl) fun hO => ?_
  refine AQ.one 6 [5, 4] [false, true] (by kernel_rfl) rfl (by kernel_rfl) ?_
  refine U rfl rfl (o_bsl tsl53 tz59 rfl rfl rfl rfl (.agg PC.nil) rfl S fun b3 w S => ?_)
  obtain ⟨J4, hJ6, S, h5⟩ := S.freeze (r := R_regex_step) (l := [x1]) 0 rfl ⟨[.int .i64 x1.op, x1v1, .bool x1.all, .bool x1.not, .int .i64 x1.to_.1, .int .i64 x1.to_.2], _, rfl, ⟨x1v1, rfl, x1h1⟩, rfl⟩ rfl rfl
  have x1h1 := x1h1.mono hJ6
  have x0h1 := x0h1.mono hJ6
  have x0h2 := x0h2.mono hJ6
  have x0h4 := x0h4.mono hJ6
  have hI := hI.trans hJ6
  have hR2 := hR2.trans hJ6
  have hG := hG.mono hJ6
  refine andI (Hold.cons (Stab.of S 2 rfl hR2) Hold.nil) fun hO => ?_
  refine AQ.one 7 [4] [false] (by kernel_rfl) rfl (by kernel_rfl) ?_
  obtain ⟨l7, h9, H⟩ := obx H
  refine U rfl rfl (o_appV (r := R_regex_step) tsl53 rfl tz59 rfl rfl S 3 rfl rfl x0h4 h5 h9 fun v8 w a11 S h10 => ?_)
  refine andI Hold.nil fun hO => ?_
  refine AQ.pure 8 rfl (by kernel_rfl) (by kernel_rfl) (by kernel_rfl) rfl hO (fun w => x_nk rfl) ?_
  refine AQ.pure 9 rfl (by kernel_rfl) (by kernel_rfl) (by kernel_rfl) rfl hO (fun w => x_fa tf55_1 rfl) ?_
  refine AQ.one 10 [] [] (by kernel_rfl) rfl (by kernel_rfl) ?_
  refine U rfl rfl (o_st tone53 S 2 rfl rfl rfl (av_one S 3 rfl) fun w S => ?_)
  refine andI Hold.nil fun hO => ?_
  refine AQ.done (by kernel_rfl) ?_
  refine FW.seq ?_
  refine FW.anew [(0, .pointer (some ⟨bx0, 0, none⟩))] ⟨rfl, trivial⟩ fun σ => ?_
  refine FW.region ?_
  refine U rfl rfl (V (x_movV (v := .pointer (some ⟨bx0, 0, none⟩)) rfl) ?_)
  refine U rfl rfl (V (x_nk rfl) ?_)
  refine U rfl rfl (V (x_fa tf55_1 rfl) ?_)
  refine U rfl rfl (V (x_ld tsc53 rfl (S.load 2 rfl 4 rfl)) ?_)
  refine U rfl rfl (V (x_lenV (r := R_regex_step) tsl53 rfl rfl S 3 rfl h10) ?_)
  refine U rfl rfl (V (x_bin rfl rfl rfl) ?_)
  refine U rfl rfl (V (x_asgV (v := .int .i64 (i64 ((l7.length : Int) - 1))) rfl) ?_)
  refine FW.ret ?_
  obtain rfl := Option.some.inj H
  exact ⟨_, ⟨_, rfl, rfl⟩, ⟨x0v1, x0v2, v8, a11, J4, hI, rfl, x0h1, x0h2, h10, (S.sel 4 [2, 3] rfl)⟩⟩
end Go.Proofs.YtkkflfmonidepaaDoor
