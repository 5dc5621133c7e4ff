/-
  COMPILING ENDS; all places of the program that it makes lie within the program.
-/
import Derived.Test.YtkkflfmonidepaaDoorP3
namespace Go.Proofs.YtkkflfmonidepaaDoor
open Sp
set_option maxRecDepth 100000
set_option maxHeartbeats 4000000

def stepOk (n : Nat) (s : T_regex_step) : Prop := ((s.op = 0 ∨ s.op = 1 ∨ s.op = 2 ∨ s.op = 3) ∧ s.spans.length ≤ 1000000) ∧ (0 ≤ s.to_.1 ∧ s.to_.1 ≤ n) ∧ (0 ≤ s.to_.2 ∧ s.to_.2 ≤ n)
def V (p : List T_regex_step) : Prop := ∀ s ∈ p, stepOk p.length s
theorem stepOk.mono {n m : Nat} {s : T_regex_step} (h : stepOk n s) (hn : n ≤ m) : stepOk m s := ⟨h.1, ⟨h.2.1.1, by have := h.2.1.2; omega⟩, ⟨h.2.2.1, by have := h.2.2.2; omega⟩⟩
theorem V.app {p : List T_regex_step} (h : V p) {s : T_regex_step} (hs : stepOk (p.length + 1) s) : V (p ++ [s]) := fun x hx => by
  rw [List.length_append]
  rcases List.mem_append.1 hx with hx | hx
  · exact (h x hx).mono (by omega)
  · simp at hx; subst hx; exact hs
theorem V.set {p : List T_regex_step} (h : V p) (i : Nat) {s : T_regex_step} (hs : stepOk p.length s) : V (p.set i s) := fun x hx => by
  rw [List.length_set]
  rcases List.mem_or_eq_of_mem_set hx with hx | rfl
  · exact h x hx
  · exact hs
theorem V.get {p : List T_regex_step} (h : V p) {i : Int} (h0 : 0 ≤ i) (h1 : i < p.length) : ∃ s, lat p i = some s ∧ stepOk p.length s := by
  obtain ⟨s, e, e2⟩ := lat_lt h0 h1
  exact ⟨s, e, h s (List.mem_of_getElem? e2)⟩

theorem peta (t : T_regex_piece) : (⟨t.kind, t.parts, t.spans, t.not⟩ : T_regex_piece) = t := by cases t; rfl

theorem put_ok {k : Nat} {t : T_regex_piece} {p : List T_regex_step} (s : T_regex_step) (h : p.length ≤ 1000000) : regex_Expr_put.f k ⟨t, p⟩ s = some ((p.length : Int), ⟨t, p ++ [s]⟩) := by
  rw [regex_Expr_put.f]
  have ha : Sp.app 56 p [s] = some (p ++ [s]) := app_small (by simp <;> omega) (by decide)
  simp only [ha, Option.bind_some]
  rw [show i64 (((p ++ [s]).length : Int) - 1) = (p.length : Int) by rw [List.length_append]; simp only [List.length_singleton]; rw [i64_id (by omega) (by omega)]; omega]

/-- What compiling a piece, or choices, gives. -/
def Comp (t : T_regex_piece) (p : List T_regex_step) (w : Nat) (o : Option T_regex_Expr) : Prop :=
  ∃ q, o = some ⟨t, q⟩ ∧ V q ∧ p.length ≤ q.length ∧ q.length + 2 ≤ p.length + 4 * w

def CompAll (n : Nat) : Prop := ∀ (x : T_regex_piece) (j : Nat), WF j x → wt x ≤ n → ∀ (k : Nat) (t : T_regex_piece) (p : List T_regex_step), 4 * wt x ≤ k → V p → p.length + 4 * wt x ≤ 1000000 → Comp t p (wt x) (regex_Expr_compile.f k ⟨t, p⟩ x)

theorem wt_pos (x : T_regex_piece) : 1 ≤ wt x := by obtain ⟨_, _, _, _⟩ := x; simp only [wt]; omega
theorem wt_mem {x : T_regex_piece} : ∀ {l : List T_regex_piece}, x ∈ l → wt x ≤ wts l
  | y :: l, h => by
    simp only [wts]
    rcases List.mem_cons.1 h with rfl | h
    · omega
    · have := wt_mem h; omega
theorem wts_drop {l : List T_regex_piece} {i : Nat} {x : T_regex_piece} (h : l[i]? = some x) : wts (l.drop i) = wt x + wts (l.drop (i + 1)) := by
  have hlt := (List.getElem?_eq_some_iff.1 h).1
  have he : l[i] = x := by have := (List.getElem?_eq_some_iff.1 h).2; exact this
  rw [List.drop_eq_getElem_cons hlt, wts, he]

/-- Parts, one behind the other. -/
theorem comp_l0 {n : Nat} (ih : CompAll n) (x1 : T_regex_piece) {j : Nat} (hw : ∀ y ∈ x1.parts, WF j y) (hn : wts x1.parts ≤ n) (hlen : x1.parts.length ≤ 1000000) :
    ∀ (k i : Nat) (t : T_regex_piece) (p : List T_regex_step), i ≤ x1.parts.length → 4 * wts (x1.parts.drop i) + 1 ≤ k → V p → p.length + 4 * wts (x1.parts.drop i) ≤ 1000000 →
      ∃ q, regex_Expr_compile.l0 k x1 (i : Int) t.kind t.parts t.spans t.not p = some (t.kind, t.parts, t.spans, t.not, q) ∧ V q ∧ p.length ≤ q.length ∧ q.length ≤ p.length + 4 * wts (x1.parts.drop i)
  | 0, _, _, _, _, h, _, _ => by omega
  | k + 1, i, t, p, hi, hk, hV, hb => by
    rw [regex_Expr_compile.l0]
    by_cases hlt : i < x1.parts.length
    · rw [if_pos (by omega), lat_nat, List.getElem?_eq_getElem hlt]
      simp only [Option.bind_some]
      have hd := wts_drop (l := x1.parts) (i := i) (x := x1.parts[i]) (by simp [hlt])
      have hmem : x1.parts[i] ∈ x1.parts := List.getElem_mem hlt
      have hle := wt_mem hmem
      have hp1 := wt_pos x1.parts[i]
      obtain ⟨q, e, h1, h2, h3⟩ := ih x1.parts[i] j (hw _ hmem) (by omega) k ⟨t.kind, t.parts, t.spans, t.not⟩ p (by omega) hV (by omega)
      rw [e]
      simp only [Option.bind_some]
      rw [i64_id (by omega) (by omega), show ((i : Int) + 1) = ((i + 1 : Nat) : Int) by omega]
      obtain ⟨q2, e2, h4, h5, h6⟩ := comp_l0 ih x1 hw hn hlen k (i + 1) t q (by omega) (by omega) h1 (by omega)
      exact ⟨q2, e2, h4, by omega, by omega⟩
    · rw [if_neg (by omega)]
      exact ⟨p, rfl, hV, Nat.le_refl _, by omega⟩

theorem ch_l1 (js : List Int) : ∀ (k i : Nat) (p : List T_regex_step), i ≤ js.length → js.length < k + i → (∀ j ∈ js, 0 ≤ j ∧ j < p.length) → V p → p.length ≤ 1000000 → js.length ≤ 1000000 →
    ∃ q, regex_Expr_choices.l1 k js (i : Int) p = some q ∧ V q ∧ q.length = p.length
  | 0, _, _, _, h, _, _, _, _ => by omega
  | k + 1, i, p, hi, hk, hj, hV, hb, hb2 => by
    rw [regex_Expr_choices.l1]
    by_cases hlt : i < js.length
    · rw [if_pos (by omega), lat_nat, List.getElem?_eq_getElem hlt]
      simp only [Option.bind_some]
      obtain ⟨h0, h1⟩ := hj js[i] (List.getElem_mem hlt)
      obtain ⟨s, e, hs⟩ := hV.get h0 h1
      rw [e]
      simp only [Option.bind_some]
      rw [i64_id (by omega) (by omega), show ((i : Int) + 1) = ((i + 1 : Nat) : Int) by omega]
      have hV' : V (p.set (js[i]).toNat ⟨s.op, s.spans, s.all, s.not, ((p.length : Int), (p.length : Int))⟩) := hV.set _ ⟨hs.1, ⟨Int.natCast_nonneg _, by show (p.length : Int) ≤ _; omega⟩, ⟨Int.natCast_nonneg _, by show (p.length : Int) ≤ _; omega⟩⟩
      obtain ⟨q, e2, h2, h3⟩ := ch_l1 js k (i + 1) _ (by omega) (by omega) (fun j hjm => by rw [List.length_set]; exact hj j hjm) hV' (by rw [List.length_set]; exact hb) hb2
      exact ⟨q, e2, h2, by rw [h3, List.length_set]⟩
    · rw [if_neg (by omega)]
      exact ⟨p, rfl, hV, rfl⟩

theorem ch_l0 {n : Nat} (ih : CompAll n) (x1 : List T_regex_piece) (hw : ∀ y ∈ x1, WF 1 y) (hn : wts x1 ≤ n) (hlen : x1.length ≤ 1000000) :
    ∀ (k i : Nat) (js : List Int) (t : T_regex_piece) (p : List T_regex_step), i < x1.length → 4 * wts (x1.drop i) + 1 ≤ k → V p → p.length + 4 * wts (x1.drop i) ≤ 1000000 → (∀ j ∈ js, 0 ≤ j ∧ j < p.length) → js.length ≤ i →
      ∃ js' q, regex_Expr_choices.l0 k x1 js (i : Int) t.kind t.parts t.spans t.not p = some (js', t.kind, t.parts, t.spans, t.not, q) ∧ V q ∧ p.length ≤ q.length ∧ q.length ≤ p.length + 4 * wts (x1.drop i) ∧ (∀ j ∈ js', 0 ≤ j ∧ j < q.length) ∧ js'.length ≤ x1.length
  | 0, _, _, _, _, _, h, _, _, _, _ => by omega
  | k + 1, i, js, t, p, hi, hk, hV, hb, hj, hjl => by
    rw [regex_Expr_choices.l0, if_pos (by omega), lat_nat, List.getElem?_eq_getElem hi]
    simp only [Option.bind_some]
    have hd := wts_drop (l := x1) (i := i) (x := x1[i]) (by simp [hi])
    have hmem : x1[i] ∈ x1 := List.getElem_mem hi
    have hle := wt_mem hmem
    have hp1 := wt_pos x1[i]
    have hxl := wts_len (x1.drop i)
    rw [List.length_drop] at hxl
    have hxl2 := wts_len (x1.drop (i + 1))
    rw [List.length_drop] at hxl2
    rw [i64_id (by omega) (by omega)]
    by_cases hlast : (i : Int) = (x1.length : Int) - 1
    · rw [if_pos hlast]
      obtain ⟨q, e, h1, h2, h3⟩ := ih x1[i] 1 (hw _ hmem) (by omega) k ⟨t.kind, t.parts, t.spans, t.not⟩ p (by omega) hV (by omega)
      rw [e]
      exact ⟨js, q, rfl, h1, h2, by omega, fun j hjm => by have := hj j hjm; omega, by omega⟩
    · rw [if_neg hlast, put_ok _ (by omega)]
      simp only [Option.bind_some]
      have hV1 : V (p ++ [⟨1, [], false, false, (0, 0)⟩]) := hV.app ⟨⟨.inr (.inl rfl), Nat.zero_le _⟩, ⟨Int.le_refl _, Int.natCast_nonneg _⟩, ⟨Int.le_refl _, Int.natCast_nonneg _⟩⟩
      obtain ⟨s, e, hs⟩ := hV1.get (i := (p.length : Int)) (by omega) (by simp <;> omega)
      rw [e]
      simp only [Option.bind_some]
      have hV2 : V ((p ++ [(⟨1, [], false, false, (0, 0)⟩ : T_regex_step)]).set (p.length : Int).toNat ⟨s.op, s.spans, s.all, s.not, (((p ++ [(⟨1, [], false, false, (0, 0)⟩ : T_regex_step)]).length : Int), s.to_.2)⟩) :=
        hV1.set _ ⟨hs.1, ⟨Int.natCast_nonneg _, by show (((p ++ [_]).length : Nat) : Int) ≤ _; omega⟩, hs.2.2⟩
      obtain ⟨q, e1, h1, h2, h3⟩ := ih x1[i] 1 (hw _ hmem) (by omega) k ⟨t.kind, t.parts, t.spans, t.not⟩ _ (by omega) hV2 (by simp <;> omega)
      rw [List.length_set, List.length_append, List.length_singleton] at h2 h3
      rw [e1]
      simp only [Option.bind_some]
      rw [put_ok _ (by omega)]
      simp only [Option.bind_some]
      have hja : Sp.app 8 js [(q.length : Int)] = some (js ++ [(q.length : Int)]) := app_small (by simp <;> omega) (by decide)
      rw [hja]
      simp only [Option.bind_some]
      have hV3 : V (q ++ [⟨1, [], false, false, (0, 0)⟩]) := h1.app ⟨⟨.inr (.inl rfl), Nat.zero_le _⟩, ⟨Int.le_refl _, Int.natCast_nonneg _⟩, ⟨Int.le_refl _, Int.natCast_nonneg _⟩⟩
      obtain ⟨s2, e2, hs2⟩ := hV3.get (i := (p.length : Int)) (by omega) (by simp <;> omega)
      rw [e2]
      simp only [Option.bind_some]
      have hV4 : V ((q ++ [(⟨1, [], false, false, (0, 0)⟩ : T_regex_step)]).set (p.length : Int).toNat ⟨s2.op, s2.spans, s2.all, s2.not, (s2.to_.1, ((q ++ [(⟨1, [], false, false, (0, 0)⟩ : T_regex_step)]).length : Int))⟩) :=
        hV3.set _ ⟨hs2.1, hs2.2.1, ⟨Int.natCast_nonneg _, by show (((q ++ [_]).length : Nat) : Int) ≤ _; omega⟩⟩
      rw [i64_id (by omega) (by omega), show ((i : Int) + 1) = ((i + 1 : Nat) : Int) by omega]
      obtain ⟨js', q2, e3, h4, h5, h6, h7, h8⟩ := ch_l0 ih x1 hw hn hlen k (i + 1) (js ++ [(q.length : Int)]) ⟨t.kind, t.parts, t.spans, t.not⟩ _ (by omega) (by omega) hV4 (by simp <;> omega) (fun j hjm => by
        rw [List.length_set, List.length_append, List.length_singleton]
        rcases List.mem_append.1 hjm with hjm | hjm
        · have := hj j hjm; omega
        · simp at hjm; subst hjm; omega) (by simp <;> omega)
      rw [List.length_set, List.length_append, List.length_singleton] at h5 h6
      exact ⟨js', q2, e3, h4, by omega, by omega, h7, h8⟩

theorem ch_ok {n : Nat} (ih : CompAll n) {x1 : List T_regex_piece} (hne : x1 ≠ []) (hw : ∀ y ∈ x1, WF 1 y) (hn : wts x1 ≤ n) {k : Nat} {t : T_regex_piece} {p : List T_regex_step} (hk : 4 * wts x1 + 2 ≤ k) (hV : V p) (hb : p.length + 4 * wts x1 ≤ 1000000) :
    ∃ q, regex_Expr_choices.f k ⟨t, p⟩ x1 = some ⟨t, q⟩ ∧ V q ∧ p.length ≤ q.length ∧ q.length ≤ p.length + 4 * wts x1 := by
  cases k with
  | zero => omega
  | succ k =>
    rw [regex_Expr_choices.f]
    have hl : 0 < x1.length := List.length_pos_iff.2 hne
    have hxl := wts_len x1
    obtain ⟨js, q, e, h1, h2, h3, h4, h5⟩ := ch_l0 ih x1 hw hn (by omega) k 0 [] t p hl (by simp <;> omega) hV (by simpa using hb) (fun _ h => by cases h) (Nat.le_refl _)
    rw [List.drop_zero] at h3
    rw [show ((0 : Nat) : Int) = 0 from rfl] at e
    rw [e]
    simp only [Option.bind_some]
    obtain ⟨q2, e2, h6, h7⟩ := ch_l1 js k 0 q (Nat.zero_le _) (by omega) h4 h1 (by omega) (by omega)
    rw [show ((0 : Nat) : Int) = 0 from rfl] at e2
    rw [e2]
    refine ⟨q2, ?_, h6, by omega, by omega⟩
    simp only [Option.bind_some, peta]

theorem comp_n (n : Nat) (ih : CompAll n) : CompAll (n + 1) := by
  intro x j hx hn k t p hk hV hb
  have hp1 := wt_pos x
  cases k with
  | zero => omega
  | succ k =>
    rw [regex_Expr_compile.f]
    have put1 : ∀ (s : T_regex_step), stepOk (p.length + 1) s → Comp t p (wt x) ((regex_Expr_put.f k ⟨t, p⟩ s).bind fun y => some y.2) := by
      intro s hs
      rw [put_ok s (by omega)]
      exact ⟨_, rfl, hV.app hs, by simp, by simp <;> omega⟩
    have z : (0 : Int) ≤ ((p.length + 1 : Nat) : Int) := by omega
    cases hx with
    | num h => exact put1 _ ⟨⟨.inl rfl, by simp⟩, ⟨Int.le_refl _, z⟩, ⟨Int.le_refl _, z⟩⟩
    | any => exact put1 _ ⟨⟨.inl rfl, Nat.zero_le _⟩, ⟨Int.le_refl _, z⟩, ⟨Int.le_refl _, z⟩⟩
    | start => exact put1 _ ⟨⟨.inr (.inr (.inl rfl)), Nat.zero_le _⟩, ⟨Int.le_refl _, z⟩, ⟨Int.le_refl _, z⟩⟩
    | stop => exact put1 _ ⟨⟨.inr (.inr (.inr rfl)), Nat.zero_le _⟩, ⟨Int.le_refl _, z⟩, ⟨Int.le_refl _, z⟩⟩
    | @set ss _ h1 h2 => exact put1 _ ⟨⟨.inl rfl, by simp only [wt, wts] at hb; show ss.length ≤ _; omega⟩, ⟨Int.le_refl _, z⟩, ⟨Int.le_refl _, z⟩⟩
    | par h =>
      cases h with
      | choice hne hw =>
        rename_i ps
        simp only [wt, List.length_nil] at hn hk hb ⊢
        obtain ⟨q, e, h1, h2, h3⟩ := ch_ok ih hne hw (by omega) (k := k) (t := t) (p := p) (by omega) hV (by omega)
        have h01 : ¬ (1 : Int) = 0 := by decide
        simp only [if_neg h01, if_true, e, Option.bind_some]
        exact ⟨q, rfl, h1, h2, by omega⟩
    | choice hne hw =>
      rename_i ps
      simp only [wt, List.length_nil] at hn hk hb ⊢
      obtain ⟨q, e, h1, h2, h3⟩ := ch_ok ih hne hw (by omega) (k := k) (t := t) (p := p) (by omega) hV (by omega)
      have h01 : ¬ (1 : Int) = 0 := by decide
      simp only [if_neg h01, if_true, e, Option.bind_some]
      exact ⟨q, rfl, h1, h2, by omega⟩
    | row hw =>
      rename_i ps
      simp only [wt, List.length_nil] at hn hk hb ⊢
      obtain ⟨q, e, h1, h2, h3⟩ := comp_l0 ih ⟨0, ps, [], false⟩ hw (by show wts ps ≤ n; omega) (by have := wts_len ps; show ps.length ≤ _; omega) k 0 t p (Nat.zero_le _) (by show 4 * wts (ps.drop 0) + 1 ≤ k; rw [List.drop_zero]; omega) hV (by show p.length + 4 * wts (ps.drop 0) ≤ _; rw [List.drop_zero]; omega)
      rw [show ((0 : Nat) : Int) = 0 from rfl] at e
      simp only [if_true, e, Option.bind_some]
      have h3' : q.length ≤ p.length + 4 * wts ps := by simpa using h3
      exact ⟨q, by simp only [peta], h1, h2, by omega⟩
    | rep hkk hq =>
      rename_i c r
      simp only [wt, wts, List.length_nil] at hn hk hb ⊢
      have hr1 := wt_pos r
      have hsp : ∀ q : List T_regex_step, stepOk (q.length + 1) ⟨1, [], false, false, (0, 0)⟩ := fun q => ⟨⟨.inr (.inl rfl), Nat.zero_le _⟩, ⟨Int.le_refl _, Int.natCast_nonneg _⟩, ⟨Int.le_refl _, Int.natCast_nonneg _⟩⟩
      have hl0 : lat [r] 0 = some r := rfl
      by_cases h8 : c = 8
      · subst h8
        obtain ⟨q, e, h1, h2, h3⟩ := ih r 0 hq (by omega) k t p (by omega) hV (by omega)
        have f0 : ¬ (8 : Int) = 0 := by decide
        have f1 : ¬ (8 : Int) = 1 := by decide
        have f2 : ¬ (8 : Int) = 2 := by decide
        have f3 : ¬ (8 : Int) = 3 := by decide
        have f5 : ¬ (8 : Int) = 5 := by decide
        have f6 : ¬ (8 : Int) = 6 := by decide
        have f4 : ((8 : Int) == 4) = false := by decide
        simp only [if_neg f0, if_neg f1, if_neg f2, if_neg f3, if_neg f5, if_neg f6, f4, Option.bind_some, Bool.false_eq_true, if_false, if_true, hl0, e]
        rw [put_ok _ (by omega)]
        simp only [Option.bind_some]
        have hV1 : V (q ++ [⟨1, [], false, false, (0, 0)⟩]) := h1.app (hsp q)
        obtain ⟨s, e2, hs⟩ := hV1.get (i := (q.length : Int)) (by omega) (by simp <;> omega)
        rw [e2]
        refine ⟨_, rfl, hV1.set _ ⟨hs.1, ⟨Int.natCast_nonneg _, by show (p.length : Int) ≤ _; simp; omega⟩, ⟨Int.natCast_nonneg _, by show (((q ++ [_]).length : Nat) : Int) ≤ _; omega⟩⟩, by simp <;> omega, by simp <;> omega⟩
      · have hc79 : c = 7 ∨ c = 9 := by omega
        have f0 : ¬ c = 0 := by omega
        have f1 : ¬ c = 1 := by omega
        have f2 : ¬ c = 2 := by omega
        have f3 : ¬ c = 3 := by omega
        have f5 : ¬ c = 5 := by omega
        have f6 : ¬ c = 6 := by omega
        have f4 : (c == 4) = false := by simp <;> omega
        simp only [if_neg f0, if_neg f1, if_neg f2, if_neg f3, if_neg f5, if_neg f6, if_neg h8, f4, Option.bind_some, Bool.false_eq_true, if_false]
        rw [put_ok _ (by omega)]
        simp only [Option.bind_some]
        have hV1 : V (p ++ [⟨1, [], false, false, (0, 0)⟩]) := hV.app (hsp p)
        obtain ⟨s, e2, hs⟩ := hV1.get (i := (p.length : Int)) (by omega) (by simp <;> omega)
        rw [e2]
        simp only [Option.bind_some, hl0]
        have hV2 : V ((p ++ [(⟨1, [], false, false, (0, 0)⟩ : T_regex_step)]).set (p.length : Int).toNat ⟨s.op, s.spans, s.all, s.not, (((p ++ [(⟨1, [], false, false, (0, 0)⟩ : T_regex_step)]).length : Int), s.to_.2)⟩) :=
          hV1.set _ ⟨hs.1, ⟨Int.natCast_nonneg _, by show (((p ++ [_]).length : Nat) : Int) ≤ _; omega⟩, hs.2.2⟩
        obtain ⟨q, e, h1, h2, h3⟩ := ih r 0 hq (by omega) k t _ (by omega) hV2 (by simp <;> omega)
        rw [List.length_set, List.length_append, List.length_singleton] at h2 h3
        rw [e]
        simp only [Option.bind_some]
        have fin : ∀ q2 : List T_regex_step, V q2 → p.length + 1 ≤ q2.length → q2.length ≤ q.length + 1 → Comp t p (1 + (wt r + 0) + 0) ((lat q2 (p.length : Int)).bind fun y168 => some ⟨⟨t.kind, t.parts, t.spans, t.not⟩, q2.set (p.length : Int).toNat ⟨y168.op, y168.spans, y168.all, y168.not, (y168.to_.1, (q2.length : Int))⟩⟩) := by
          intro q2 hV3 hl1 hl2
          obtain ⟨s3, e3, hs3⟩ := hV3.get (i := (p.length : Int)) (by omega) (by omega)
          rw [e3]
          simp only [Option.bind_some, peta]
          exact ⟨_, rfl, hV3.set _ ⟨hs3.1, hs3.2.1, ⟨Int.natCast_nonneg _, Int.le_refl _⟩⟩, by simp <;> omega, by simp <;> omega⟩
        by_cases h7 : c = 7
        · rw [if_pos h7, put_ok _ (by omega)]
          simp only [Option.bind_some]
          have hV5 : V (q ++ [⟨1, [], false, false, (0, 0)⟩]) := h1.app (hsp q)
          obtain ⟨s5, e5, hs5⟩ := hV5.get (i := (q.length : Int)) (by omega) (by simp <;> omega)
          rw [e5]
          simp only [Option.bind_some]
          exact fin _ (hV5.set _ ⟨hs5.1, ⟨Int.natCast_nonneg _, by show (p.length : Int) ≤ _; simp; omega⟩, ⟨Int.natCast_nonneg _, by show (p.length : Int) ≤ _; simp; omega⟩⟩) (by simp <;> omega) (by simp)
        · rw [if_neg h7]
          simp only [Option.bind_some]
          exact fin q h1 (by omega) (by omega)

theorem comp_all : ∀ n, CompAll n
  | 0 => fun x _ _ h => by have := wt_pos x; omega
  | n + 1 => comp_n n (comp_all n)
theorem comp_ok {x : T_regex_piece} {j : Nat} (hx : WF j x) {k : Nat} {t : T_regex_piece} {p : List T_regex_step} (hk : 4 * wt x ≤ k) (hV : V p) (hb : p.length + 4 * wt x ≤ 1000000) : Comp t p (wt x) (regex_Expr_compile.f k ⟨t, p⟩ x) :=
  comp_all _ x j hx (Nat.le_refl _) k t p hk hV hb
end Go.Proofs.YtkkflfmonidepaaDoor
