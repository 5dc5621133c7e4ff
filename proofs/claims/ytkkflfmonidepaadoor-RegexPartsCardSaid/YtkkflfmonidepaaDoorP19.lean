/-
  PATTERNS PUT TOGETHER OF OTHERS: how they are read, and what they take.
-/
import Derived.Test.YtkkflfmonidepaaDoorP18
namespace Go.Proofs.YtkkflfmonidepaaDoor
open Sp
set_option maxRecDepth 100000
set_option maxHeartbeats 4000000

theorem lexEq_of {t : List UInt8} {tk : List T_regex_sign} (h : lexS t [] [] = some tk) : LexEq t tk := fun rest acc hr => by
  have h1 := lex_acc t [] [] tk h acc
  rw [List.append_nil] at h1
  cases rest with
  | nil => rw [List.append_nil, h1, lexS, flush_nil]
  | cons c r => exact lex_then t [] acc _ h1 c r (hr c r rfl)
theorem LexEq.lex {t : List UInt8} {tk : List T_regex_sign} (h : LexEq t tk) : lexS t [] [] = some tk := by
  have := h [] [] NDH.nil
  rw [List.append_nil, List.nil_append] at this
  rw [this, lexS, flush_nil]

/-- What a text is read as. -/
def Src (t : List UInt8) (p : T_regex_piece) : Prop := t.length ≤ 60 ∧ ∃ tk, LexEq t tk ∧ ∃ r, regex_reader_choices.f 10000000 ⟨tk, false⟩ = some (p, r) ∧ r.bad = false ∧ dsp r.rest = []

theorem item_src {t : List UInt8} {p : T_regex_piece} (h : Src t p) : ∃ tk, LexEq (40 :: (t ++ 41 :: [])) tk ∧ ItemP p tk := by
  obtain ⟨ht, tk, h1, r, hc, hb, hd⟩ := h
  obtain ⟨hs, hl⟩ := lex_sgs t [] [] tk h1.lex (fun _ h => by cases h)
  simp only [List.length_nil] at hl
  refine ⟨sgn 40 :: (tk ++ sgn 41 :: []), lexC_40.pre (h1.then lexC_41 LexEq.nil), sgn 40, _, rfl, ⟨⟨by decide, by decide, by decide, by decide⟩, .inr ⟨by decide, by decide, by decide⟩⟩, fun rest k hk hlen => ?_⟩
  have e0 : (tk ++ sgn 41 :: []) ++ rest = tk ++ sgn 41 :: rest := by simp
  have hlen' : (tk ++ sgn 41 :: rest).length ≤ 100000 := by simp at hlen ⊢; omega
  rw [e0] at hk ⊢
  cases k with
  | zero => omega
  | succ k =>
    refine ⟨p, rest, 0, ?_, Nat.zero_le _, fun K _ => rfl⟩
    have d41 : dsp (r.rest ++ sgn 41 :: rest) = sgn 41 :: rest := by rw [dsp_app rfl, hd]; rfl
    have e := choices_ext (k2 := k) (rest0 := rest) hs hlen' (by omega) (by omega) hc hb
    have hr : r.rest.length ≤ tk.length := by
      obtain ⟨g1, _⟩ := res_inv (choices_ok (k := 10000000) (b := false) (by omega) hs (by omega)) hc
      exact g1
    rw [regex_reader_atom.f, if_neg (by show ¬ false = true; decide), if_neg (by show ¬ (40 : Int) = 46; decide), if_neg (by show ¬ (40 : Int) = 94; decide), if_neg (by show ¬ (40 : Int) = 36; decide), if_neg (by show ¬ (40 : Int) = 91; decide), if_pos rfl]
    rw [e, Option.bind_some]
    simp only [Bool.false_eq_true, if_false]
    rw [next_cons d41 (by rw [List.length_append] at hk ⊢; omega), Option.bind_some]
    rfl

/-- Items one behind the other, with blanks between or without. -/
inductive RowT (rest : List T_regex_sign) : List (T_regex_piece × List T_regex_sign) → List T_regex_sign → Prop
  | nil {L : List T_regex_sign} : dsp L = dsp rest → RowT rest [] L
  | cons {z : T_regex_piece × List T_regex_sign} {zs : List (T_regex_piece × List T_regex_sign)} {L T : List T_regex_sign} : dsp L = z.2 ++ T → ItemP z.1 z.2 → RowT rest zs T → RowT rest (z :: zs) L
theorem RowT.stop {rest : List T_regex_sign} (hst : stopR rest) {zs : List (T_regex_piece × List T_regex_sign)} {T : List T_regex_sign} (h : RowT rest zs T) : ¬ (hd (dsp T)).c = 42 ∧ ¬ (hd (dsp T)).c = 43 ∧ ¬ (hd (dsp T)).c = 63 := by
  cases h with
  | nil h => rw [h]; rcases hst.2 with h | h | h <;> rw [h] <;> decide
  | cons h hi _ =>
    obtain ⟨x2, tk2, h2, hx2, _⟩ := hi
    rw [h, h2]
    exact ⟨hx2.1.2.1, hx2.1.2.2.1, hx2.1.2.2.2⟩
theorem rowt_l0 (rest : List T_regex_sign) (hst : stopR rest) : ∀ (zs : List (T_regex_piece × List T_regex_sign)) (k : Nat) (L : List T_regex_sign) (done : List T_regex_piece), RowT rest zs L → 4 * L.length + 2 ≤ k → L.length ≤ 100000 → done.length + zs.length ≤ 100000 →
    regex_reader_row.l0 k done L false = some (done ++ zs.map (·.1), dsp rest, false)
  | [], k, L, done, hz, hk, _, _ => by
    cases hz with
    | nil hL =>
      cases k with
      | zero => omega
      | succ k =>
        rw [regex_reader_row.l0, if_neg (by decide), peek_eq (by omega), Option.bind_some, hL]
        simp only [List.map_nil, List.append_nil]
        obtain ⟨s1, s2⟩ := hst
        rw [if_neg (by rw [s1]; decide)]
        rcases s2 with s2 | s2 | s2
        · rw [if_pos s2]
        · rw [if_neg (by rw [s2]; decide), if_pos s2]
        · rw [if_neg (by rw [s2]; decide), if_neg (by rw [s2]; decide), if_pos s2]
  | z :: zs, k, L, done, hz, hk, hl, hb => by
    cases hz with
    | @cons _ _ _ T hL hi hT =>
      cases k with
      | zero => omega
      | succ k =>
        have hstop := hT.stop hst
        obtain ⟨x, tk', htk, hx, hit⟩ := hi
        rw [htk, List.cons_append] at hL
        have dl := dsp_len L
        have hlen : (tk' ++ T).length + 1 ≤ L.length := by rw [hL] at dl; simpa using dl
        rw [regex_reader_row.l0, if_neg (by decide), peek_cons hL (by omega), Option.bind_some]
        simp only
        rw [next_cons (show dsp (x :: (tk' ++ T)) = x :: (tk' ++ T) by rw [← hL, dsp_dsp]) (by simp only [List.length_cons]; omega)]
        simp only [Option.bind_some]
        have hll : (z.2 ++ T).length = (tk' ++ T).length + 1 := by rw [htk]; simp
        have go : ((regex_reader_atom.f k ⟨tk' ++ T, false⟩ x).bind fun y38 => ((regex_reader_repeats.f k y38.2 y38.1).bind fun y42 => ((Sp.app 64 done [y42.1]).bind fun l50 => (regex_reader_row.l0 k l50 y42.2.rest y42.2.bad)))) = some (done ++ (z :: zs).map (·.1), dsp rest, false) := by
          obtain ⟨q, l2, m, ea, hm, hr⟩ := hit T k (by omega) (by omega)
          rw [ea, Option.bind_some, regex_reader_repeats.f]
          have hm2 : m ≤ (tk' ++ T).length := by rw [List.length_append]; omega
          have hKm : k = (k - m) + m := by omega
          have htl : T.length ≤ (tk' ++ T).length := by rw [List.length_append]; omega
          have e := hr (k - m) (by omega)
          rw [← hKm, rep_stop (by omega) hstop] at e
          simp only
          rw [e]
          simp only [Option.bind_some]
          simp only [List.length_cons] at hb
          have ha : Sp.app 64 done [z.1] = some (done ++ [z.1]) := app_small (by simp; omega) (by decide)
          rw [ha, Option.bind_some]
          have dl2 := dsp_len T
          have hT2 : RowT rest zs (dsp T) := by
            cases hT with
            | nil h => exact .nil (by rw [dsp_dsp]; exact h)
            | cons h h2 h3 => exact .cons (by rw [dsp_dsp]; exact h) h2 h3
          rw [rowt_l0 rest hst zs k (dsp T) (done ++ [z.1]) hT2 (by omega) (by omega) (by simp; omega)]
          simp
        rcases hx.2 with hdg | ⟨h0, h1, h2⟩
        · split
          · exact go
          · rename_i h; exact absurd hdg h
        · split
          · exact go
          · exact go
theorem rowT_P {zs : List (T_regex_piece × List T_regex_sign)} {tk : List T_regex_sign} (hz : ∀ rest, RowT rest zs (tk ++ rest)) (hb : zs.length ≤ 100000) : RowP ⟨0, zs.map (·.1), [], false⟩ tk := by
  intro rest k hst hk hl
  cases k with
  | zero => omega
  | succ k =>
    rw [regex_reader_row.f, rowt_l0 rest hst zs k _ [] (hz rest) (by omega) hl (by simpa using hb)]
    rfl
theorem item_dsp {p : T_regex_piece} {tk : List T_regex_sign} (h : ItemP p tk) (T : List T_regex_sign) : dsp (tk ++ T) = tk ++ T := by
  obtain ⟨x, tk', rfl, hx, _⟩ := h
  rw [List.cons_append, dsp, if_neg hx.1.1]

/-- A text whose signs are choices, by themselves. -/
theorem parse_of {k : Nat} (hk : 5000000 ≤ k) {t : List UInt8} {tk : List T_regex_sign} {p : T_regex_piece} (ht : t.length ≤ 100) (hl : LexEq t tk) (hc : ChP p tk) : ∃ e, regex_Parse.f k (B t) = some (some e, 0) ∧ e.top = p ∧ Pat k e := by
  rw [regex_Parse.f, B_size, if_neg (by omega)]
  obtain ⟨sg, ok, es, f1, f2⟩ := signs_ok (k := k) (l := t) (by omega) (by omega)
  have hlex := hl.lex
  have hok : ok = true := by
    cases ok with
    | true => rfl
    | false => rw [f2 rfl] at hlex; cases hlex
  subst hok
  have hsg : sg = tk := by have := f1 rfl; rw [hlex] at this; exact (Option.some.inj this).symm
  subst hsg
  obtain ⟨hs, hlen⟩ := lex_sgs t [] [] sg hlex (fun _ h => by cases h)
  simp only [List.length_nil] at hlen
  rw [es, Option.bind_some, if_pos rfl]
  have hc1 := hc [] k ⟨rfl, .inl rfl⟩ (by rw [List.append_nil]; omega) (by rw [List.append_nil]; omega)
  rw [List.append_nil] at hc1
  have hres := choices_ok (k := k) (l := sg) (b := false) (by omega) hs (by omega)
  obtain ⟨p', r, e1, h1, h2, h3, h4⟩ := hres
  simp only
  rw [hc1] at e1
  simp only [Option.some.injEq, Prod.mk.injEq] at e1
  obtain ⟨rfl, rfl⟩ := e1
  obtain ⟨_, hw⟩ := h4 rfl
  rw [hc1, Option.bind_some]
  simp only [dsp]
  rw [peek_eq (by simp; omega), Option.bind_some]
  simp only [dsp, hd, Bool.false_eq_true, if_false, if_true]
  simp only [dsp, List.length_nil] at h3
  have hwt : wt p ≤ 1000 := by omega
  obtain ⟨q, eq, hV, hq1, hq2⟩ := comp_ok hw (k := k) (t := p) (p := []) (by omega) (fun _ h => by cases h) (by simp; omega)
  rw [eq, Option.bind_some]
  have hql : q.length ≤ 4000 := by simp at hq2; omega
  have ha : Sp.app 56 q [(T_regex_step.mk 4 [] false false (0, 0))] = some (q ++ [lastStep]) := app_small (by simp; omega) (by decide)
  simp only
  rw [ha, Option.bind_some]
  exact ⟨⟨p, q ++ [lastStep]⟩, rfl, rfl, hw, hwt, ⟨⟨q, hV, rfl⟩, by simp; omega⟩, q, eq, hV, hql, rfl⟩

/-- A text that is a pattern. -/
theorem parse_inv {t : List UInt8} (ht : t.length ≤ 60) {y : Option T_regex_Expr} (h : regex_Parse.f 10000000 (B t) = some (y, 0)) : ∃ p, Src t p ∧ (noEnds t → na p = true) := by
  rw [regex_Parse.f, B_size, if_neg (by omega)] at h
  obtain ⟨sg, ok, es, f1, f2⟩ := signs_ok (k := 10000000) (l := t) (by omega) (by omega)
  rw [es, Option.bind_some] at h
  cases ok with
  | false => rw [if_neg (show ¬ false = true by decide)] at h; simp at h
  | true =>
    rw [if_pos rfl] at h
    have hlex := f1 rfl
    obtain ⟨⟨p, r⟩, hc, h⟩ := obx h
    simp only at h hc
    obtain ⟨z, hp, h⟩ := obx h
    obtain ⟨hs, hlen⟩ := lex_sgs t [] [] sg hlex (fun _ h => by cases h)
    simp only [List.length_nil] at hlen
    obtain ⟨g1, g2, _⟩ := res_inv (choices_ok (k := 10000000) (b := false) (by omega) hs (by omega)) hc
    have hpe := peek_eq (k := 10000000) (l := r.rest) (b := r.bad) (by omega)
    rw [show (⟨r.rest, r.bad⟩ : T_regex_reader) = r from rfl, hp] at hpe
    obtain rfl := Option.some.inj hpe
    simp only at h
    split at h
    · simp at h
    · rename_i hb
      split at h
      · simp at h
      · rename_i hdg
        split at h
        · rename_i h0
          refine ⟨p, ⟨ht, sg, lexEq_of hlex, r, hc, by simpa using hb, ?_⟩, fun hn => ?_⟩
          · have hsd := sgs_dsp g2
            cases hd' : dsp r.rest with
            | nil => rfl
            | cons x u =>
              rw [hd'] at hsd hdg h0
              have := hsd x (List.mem_cons_self ..)
              exact absurd h0 (this.2 (by simpa [hd] using hdg))
          · have hnt := nt_lex t [] [] sg hn (fun _ h => by cases h) hlex
            exact ((na_all 10000000).2.2.2.1 ⟨sg, false⟩ p r hnt hc).1
        · simp at h

/-! ### Between ^ and $ -/

abbrev pSt : T_regex_piece := ⟨5, [], [], false⟩
abbrev pEn : T_regex_piece := ⟨6, [], [], false⟩
def topW (ps : List T_regex_piece) : T_regex_piece := ⟨1, [⟨0, pSt :: (ps ++ [pEn]), [], false⟩], [], false⟩
theorem item_st : ItemP pSt [sgn 94] := item_one ⟨⟨by decide, by decide, by decide, by decide⟩, .inr ⟨by decide, by decide, by decide⟩⟩ fun l k hk => by
  cases k with
  | zero => omega
  | succ k => rw [regex_reader_atom.f, if_neg (by show ¬ false = true; decide), if_neg (by show ¬ (94 : Int) = 46; decide), if_pos rfl]
theorem item_en : ItemP pEn [sgn 36] := item_one ⟨⟨by decide, by decide, by decide, by decide⟩, .inr ⟨by decide, by decide, by decide⟩⟩ fun l k hk => by
  cases k with
  | zero => omega
  | succ k => rw [regex_reader_atom.f, if_neg (by show ¬ false = true; decide), if_neg (by show ¬ (36 : Int) = 46; decide), if_neg (by show ¬ (36 : Int) = 94; decide), if_pos rfl]
theorem ch_one {p : T_regex_piece} {tk : List T_regex_sign} (h : RowP p tk) : ChP ⟨1, [p], [], false⟩ tk := by
  have := ch_P (zs := [((p, [], tk) : Z)]) (by simp) (fun z hz => by rw [List.mem_singleton] at hz; subst hz; exact h) (by simp)
  exact this
theorem ch_two {p q : T_regex_piece} {tk uk : List T_regex_sign} (h : RowP p tk) (h2 : RowP q uk) : ChP ⟨1, [p, q], [], false⟩ (tk ++ sgn 124 :: uk) := by
  have := ch_P (zs := [((p, [], tk) : Z), ((q, [], uk) : Z)]) (by simp) (fun z hz => by
    rcases List.mem_cons.1 hz with rfl | hz
    · exact h
    · rw [List.mem_singleton] at hz; subst hz; exact h2) (by simp)
  exact this

/-- One part between the ends. -/
theorem parse_one {k : Nat} (hk : 5000000 ≤ k) {t : List UInt8} {p : T_regex_piece} (h : Src t p) : ∃ e, regex_Parse.f k (B ([94, 40] ++ t ++ [41, 36])) = some (some e, 0) ∧ e.top = topW [p] ∧ Pat k e := by
  have ht := h.1
  obtain ⟨tk, h1, h2⟩ := item_src h
  have hl : LexEq ([94, 40] ++ t ++ [41, 36]) (sgn 94 :: (tk ++ sgn 36 :: [])) := by
    have : [94, 40] ++ t ++ [41, 36] = 94 :: ((40 :: (t ++ 41 :: [])) ++ 36 :: []) := by simp
    rw [this]
    exact lexC_94.pre (h1.then lexC_36 LexEq.nil)
  refine parse_of hk (by simp; omega) hl (ch_one (rowT_P (zs := [(pSt, [sgn 94]), (p, tk), (pEn, [sgn 36])]) (fun rest => ?_) (by simp)))
  refine .cons (T := tk ++ sgn 36 :: rest) (by simp [dsp]) item_st (.cons (T := sgn 36 :: rest) (item_dsp h2 _) h2 (.cons (T := rest) (by simp [dsp]) item_en (.nil rfl)))
/-- Two parts between the ends. -/
theorem parse_two {k : Nat} (hk : 5000000 ≤ k) {t u : List UInt8} {p q : T_regex_piece} (h : Src t p) (g : Src u q) (htu : t.length + u.length ≤ 80) : ∃ e, regex_Parse.f k (B ([94, 40] ++ t ++ [41, 32, 40] ++ u ++ [41, 36])) = some (some e, 0) ∧ e.top = topW [p, q] ∧ Pat k e := by
  obtain ⟨tk, h1, h2⟩ := item_src h
  obtain ⟨uk, g1, g2⟩ := item_src g
  have hl : LexEq ([94, 40] ++ t ++ [41, 32, 40] ++ u ++ [41, 36]) (sgn 94 :: (tk ++ sgn 32 :: (uk ++ sgn 36 :: []))) := by
    have : [94, 40] ++ t ++ [41, 32, 40] ++ u ++ [41, 36] = 94 :: ((40 :: (t ++ 41 :: [])) ++ 32 :: ((40 :: (u ++ 41 :: [])) ++ 36 :: [])) := by simp
    rw [this]
    exact lexC_94.pre (h1.then lexC_blank (g1.then lexC_36 LexEq.nil))
  refine parse_of hk (by simp; omega) hl (ch_one (rowT_P (zs := [(pSt, [sgn 94]), (p, tk), (q, uk), (pEn, [sgn 36])]) (fun rest => ?_) (by simp)))
  refine .cons (T := tk ++ sgn 32 :: (uk ++ sgn 36 :: rest)) (by simp [dsp]) item_st (.cons (T := sgn 32 :: (uk ++ sgn 36 :: rest)) (item_dsp h2 _) h2 (.cons (T := sgn 36 :: rest) ?_ g2 (.cons (T := rest) (by simp [dsp]) item_en (.nil rfl))))
  rw [dsp, if_pos rfl, item_dsp g2]
/-- Choices of two. -/
theorem src_or {t u : List UInt8} {p q : T_regex_piece} (h : Src t p) (g : Src u q) (htu : t.length + u.length ≤ 55) : Src ([40] ++ t ++ [41, 124, 40] ++ u ++ [41]) ⟨1, [⟨0, [p], [], false⟩, ⟨0, [q], [], false⟩], [], false⟩ := by
  obtain ⟨tk, h1, h2⟩ := item_src h
  obtain ⟨uk, g1, g2⟩ := item_src g
  have hl : LexEq ([40] ++ t ++ [41, 124, 40] ++ u ++ [41]) (tk ++ sgn 124 :: uk) := by
    have : [40] ++ t ++ [41, 124, 40] ++ u ++ [41] = (40 :: (t ++ 41 :: [])) ++ 124 :: (40 :: (u ++ 41 :: [])) := by simp
    rw [this]
    exact h1.then lexC_124 g1
  have one : ∀ {p : T_regex_piece} {tk : List T_regex_sign}, ItemP p tk → RowP ⟨0, [p], [], false⟩ tk := fun {p tk} hi => rowT_P (zs := [(p, tk)]) (fun rest => .cons (T := rest) (item_dsp hi _) hi (.nil rfl)) (by simp)
  have hc := ch_two (one h2) (one g2)
  obtain ⟨hs, hlen⟩ := lex_sgs _ [] [] _ hl.lex (fun _ h => by cases h)
  simp only [List.length_nil, List.length_append, List.length_cons] at hlen
  have hc1 := hc [] 10000000 ⟨rfl, .inl rfl⟩ (by simp; omega) (by simp; omega)
  rw [List.append_nil] at hc1
  exact ⟨by simp; omega, _, hl, _, hc1, rfl, rfl⟩

theorem schain_app {S : T_regex_piece → Nat → Nat → Prop} : ∀ (a b : List T_regex_piece) (i j : Nat), schain S (a ++ b) i j ↔ ∃ m, schain S a i m ∧ schain S b m j
  | [], b, i, j => by
    simp only [List.nil_append, schain]
    constructor
    · intro h; exact ⟨i, rfl, h⟩
    · rintro ⟨m, rfl, h⟩; exact h
  | x :: a, b, i, j => by
    simp only [List.cons_append, schain, schain_app a b]
    constructor
    · rintro ⟨m, h1, m2, h2, h3⟩; exact ⟨m2, ⟨m, h1, h2⟩, h3⟩
    · rintro ⟨m2, ⟨m, h1, h2⟩, h3⟩; exact ⟨m, h1, m2, h2, h3⟩

theorem sem_k0 {n : Nat} {l : List Int} {x : T_regex_piece} {i j : Nat} (hx : x.kind = 0) : Sem (n + 1) l x i j ↔ schain (Sem n l) x.parts i j := by
  constructor
  · rintro (⟨_, h⟩ | ⟨hk, _⟩ | ⟨hk | hk, _⟩ | ⟨hk, _⟩ | ⟨hk, _⟩ | ⟨hk, _⟩ | ⟨hk, _⟩ | ⟨hk, _⟩ | ⟨hk, _⟩)
    · exact h
    all_goals (exfalso; omega)
  · intro h; exact .inl ⟨hx, h⟩
theorem sem_k1 {n : Nat} {l : List Int} {x : T_regex_piece} {i j : Nat} (hx : x.kind = 1) : Sem (n + 1) l x i j ↔ ∃ y ∈ x.parts, Sem n l y i j := by
  constructor
  · rintro (⟨hk, _⟩ | ⟨_, h⟩ | ⟨hk | hk, _⟩ | ⟨hk, _⟩ | ⟨hk, _⟩ | ⟨hk, _⟩ | ⟨hk, _⟩ | ⟨hk, _⟩ | ⟨hk, _⟩)
    · exfalso; omega
    · exact h
    all_goals (exfalso; omega)
  · intro h; exact .inr (.inl ⟨hx, h⟩)
theorem sem_k5 {n : Nat} {l : List Int} {x : T_regex_piece} {i j : Nat} (hx : x.kind = 5) : Sem (n + 1) l x i j ↔ j = i ∧ i = 0 := by
  constructor
  · rintro (⟨hk, _⟩ | ⟨hk, _⟩ | ⟨hk | hk, _⟩ | ⟨hk, _⟩ | ⟨_, h⟩ | ⟨hk, _⟩ | ⟨hk, _⟩ | ⟨hk, _⟩ | ⟨hk, _⟩)
    case inr.inr.inr.inr.inl => exact h
    all_goals (exfalso; omega)
  · intro h; exact .inr (.inr (.inr (.inr (.inl ⟨hx, h⟩))))
theorem sem_k6 {n : Nat} {l : List Int} {x : T_regex_piece} {i j : Nat} (hx : x.kind = 6) : Sem (n + 1) l x i j ↔ j = i ∧ i = l.length := by
  constructor
  · rintro (⟨hk, _⟩ | ⟨hk, _⟩ | ⟨hk | hk, _⟩ | ⟨hk, _⟩ | ⟨hk, _⟩ | ⟨_, h⟩ | ⟨hk, _⟩ | ⟨hk, _⟩ | ⟨hk, _⟩)
    case inr.inr.inr.inr.inr.inl => exact h
    all_goals (exfalso; omega)
  · intro h; exact .inr (.inr (.inr (.inr (.inr (.inl ⟨hx, h⟩)))))

/-- Match of what stands between the ends. -/
theorem match_top {k : Nat} (hk : 5000000 ≤ k) {e : T_regex_Expr} {ps : List T_regex_piece} (h : Pat k e) (ht : e.top = topW ps) (l : List Int) (hl : l.length ≤ 1000000) : ∃ b, regex_Expr_Match.f k (some e) l = some b ∧ (b = true ↔ schain (Sem 1000 l) ps 0 l.length) := by
  obtain ⟨b, hb, hs⟩ := match_sem hk h l hl
  refine ⟨b, hb, hs.trans ?_⟩
  have hw : wt e.top ≤ 1000 := h.2.1
  have key : ∀ i j, Sem (wt e.top) l e.top i j ↔ i = 0 ∧ j = l.length ∧ schain (Sem 1000 l) ps 0 l.length := by
    intro i j
    rw [sem_eq l _ 1002 _ (Nat.le_refl _) (by omega), ht]
    have e1 : Sem 1002 l (topW ps) i j ↔ schain (Sem 1000 l) (pSt :: (ps ++ [pEn])) i j := by
      rw [sem_k1 (n := 1001) (x := topW ps) rfl]
      have e0 : Sem (1000 + 1) l ⟨0, pSt :: (ps ++ [pEn]), [], false⟩ i j ↔ schain (Sem 1000 l) (pSt :: (ps ++ [pEn])) i j := sem_k0 rfl
      constructor
      · rintro ⟨y, hy, h⟩
        rw [show (topW ps).parts = [⟨0, pSt :: (ps ++ [pEn]), [], false⟩] from rfl, List.mem_singleton] at hy
        subst hy
        exact e0.1 h
      · intro h
        exact ⟨_, List.mem_cons_self .., e0.2 h⟩
    rw [e1]
    have est : ∀ i j, Sem 1000 l pSt i j ↔ j = i ∧ i = 0 := fun i j => sem_k5 (n := 999) rfl
    have een : ∀ i j, Sem 1000 l pEn i j ↔ j = i ∧ i = l.length := fun i j => sem_k6 (n := 999) rfl
    simp only [schain, schain_app, est, een]
    constructor
    · rintro ⟨m, ⟨rfl, rfl⟩, m2, h1, m3, ⟨rfl, rfl⟩, rfl⟩
      exact ⟨rfl, rfl, h1⟩
    · rintro ⟨rfl, rfl, h1⟩
      exact ⟨0, ⟨rfl, rfl⟩, _, h1, _, ⟨rfl, rfl⟩, rfl⟩
  constructor
  · rintro ⟨i, j, _, h⟩
    exact ((key i j).1 h).2.2
  · intro h
    exact ⟨0, l.length, Nat.zero_le _, (key 0 l.length).2 ⟨rfl, rfl, h⟩⟩
end Go.Proofs.YtkkflfmonidepaaDoor
