/-
  WHAT IS WRITTEN OF A WELL FORMED PATTERN IS READ AS THAT PATTERN (signs, one by one).
-/
import Derived.Test.YtkkflfmonidepaaDoorP9
namespace Go.Proofs.YtkkflfmonidepaaDoor
open Sp
set_option maxRecDepth 100000
set_option maxHeartbeats 4000000

theorem peek_cons {k : Nat} {L r : List T_regex_sign} {x : T_regex_sign} {b : Bool} (h : dsp L = x :: r) (hk : L.length < k) : regex_reader_peek.f k ⟨L, b⟩ = some (x, ⟨x :: r, b⟩) := by
  rw [peek_eq hk, h]; rfl
theorem next_cons {k : Nat} {L r : List T_regex_sign} {x : T_regex_sign} {b : Bool} (h : dsp L = x :: r) (hk : L.length < k) : regex_reader_next.f k ⟨L, b⟩ = some (x, ⟨r, b⟩) := by
  rw [next_eq hk, h]; rfl
def tailT (rest : List T_regex_sign) : List T_regex_span → List T_regex_sign
  | [] => sgn 93 :: rest
  | y :: r => sgn 32 :: (jn (sgn 32) ((y :: r).map memK) ++ sgn 93 :: rest)
theorem mk_cons (s : T_regex_span) (ss : List T_regex_span) (rest : List T_regex_sign) : jn (sgn 32) ((s :: ss).map memK) ++ sgn 93 :: rest = memK s ++ tailT rest ss := by
  cases ss with
  | nil => simp [jn, tailT]
  | cons y r => simp [jn, tailT]
theorem dsp_num (n : Int) (l : List T_regex_sign) : dsp (⟨0, n, true⟩ :: l) = ⟨0, n, true⟩ :: l := by simp [dsp]
theorem dsp_memK (s : T_regex_span) (l : List T_regex_sign) : dsp (memK s ++ l) = memK s ++ l := by
  unfold memK
  split <;> simp [dsp]
theorem dsp_tailT (rest : List T_regex_sign) (ss : List T_regex_span) : dsp (tailT rest ss) = jn (sgn 32) (ss.map memK) ++ sgn 93 :: rest := by
  cases ss with
  | nil => simp [tailT, dsp, jn]
  | cons y r =>
    rw [tailT, mk_cons]
    simp only [dsp, if_true]
    exact dsp_memK y _
theorem tailT_head (rest : List T_regex_sign) (ss : List T_regex_span) : ∃ y t, tailT rest ss = y :: t ∧ ¬ y.c = 45 := by
  cases ss with
  | nil => exact ⟨_, _, rfl, by decide⟩
  | cons y r => exact ⟨_, _, rfl, by show ¬ (32 : Int) = 45; decide⟩

theorem setk_l0 (nt : Bool) (rest : List T_regex_sign) : ∀ (ss : List T_regex_span) (k : Nat) (L : List T_regex_sign) (done : List T_regex_span), (∀ s ∈ ss, spanOk s) → dsp L = jn (sgn 32) (ss.map memK) ++ sgn 93 :: rest → done ++ ss ≠ [] → L.length + 3 ≤ k → done.length + ss.length ≤ 100000 →
    regex_reader_set.l0 k nt L false done = some (.inl (⟨4, [], done ++ ss, nt⟩, ⟨rest, false⟩))
  | [], k, L, done, _, hL, hne, hk, _ => by
    cases k with
    | zero => omega
    | succ k =>
      simp only [List.map_nil, jn, List.nil_append] at hL
      have dl := dsp_len L
      rw [regex_reader_set.l0]
      have h1 : regex_reader_set.l1 k L false = some (dsp L, false) := by
        cases k with
        | zero => omega
        | succ k =>
          rw [regex_reader_set.l1, peek_eq (by omega), Option.bind_some, hL]
          rw [if_neg (by show ¬ (93 : Int) = 44; decide)]
      rw [h1, Option.bind_some]
      simp only
      rw [next_eq (by omega), dsp_dsp, hL, Option.bind_some]
      simp only [hd, List.tail_cons, Bool.false_eq_true, if_false, if_true, List.append_nil] at hne ⊢
      have : (((done.length : Nat) : Int) == 0) = false := by
        have := List.length_pos_iff.2 hne
        simp; exact hne
      rw [this]
  | s :: ss, k, L, done, hs, hL, hne, hk, hb => by
    cases k with
    | zero => omega
    | succ k =>
      rw [mk_cons] at hL
      have dl := dsp_len L
      have hok := hs s (List.mem_cons_self ..)
      rw [regex_reader_set.l0]
      have hhd : hd (dsp L) = ⟨0, s.from_, true⟩ := by rw [hL]; unfold memK; split <;> rfl
      have h1 : regex_reader_set.l1 k L false = some (dsp L, false) := by
        cases k with
        | zero => omega
        | succ k =>
          rw [regex_reader_set.l1, peek_eq (by omega), Option.bind_some]
          simp only [hhd]
          rw [if_neg (by decide)]
      rw [h1, Option.bind_some]
      simp only
      rw [next_eq (by omega), dsp_dsp, hhd, Option.bind_some]
      simp only [if_true]
      have go : ∀ T, dsp T = jn (sgn 32) (ss.map memK) ++ sgn 93 :: rest → T.length + 1 ≤ L.length → (Sp.app 8 done [s]).bind (fun l110 => regex_reader_set.l0 k nt T false l110) = some (.inl (⟨4, [], done ++ s :: ss, nt⟩, ⟨rest, false⟩)) := by
        intro T hT hTl
        have ha : Sp.app 8 done [s] = some (done ++ [s]) := app_small (by simp; simp at hb; omega) (by decide)
        rw [ha, Option.bind_some, setk_l0 nt rest ss k T (done ++ [s]) (fun x hx => hs x (List.mem_cons_of_mem _ hx)) hT (by simp) (by omega) (by simp at hb ⊢; omega), List.append_assoc]
        rfl
      obtain ⟨y, t, hy, hy45⟩ := tailT_head rest ss
      by_cases he : s.to_ = s.from_
      · have hm : memK s = [⟨0, s.from_, true⟩] := by unfold memK; rw [if_pos he]
        have htl : (dsp L).tail = y :: t := by rw [hL, hm, ← hy]; rfl
        have hlen : (y :: t).length + 1 ≤ L.length := by rw [← htl]; exact tail_lt (by rw [hL, hm]; simp)
        rw [htl]
        try simp only
        rw [if_pos (by simp <;> omega), show lat (y :: t) 0 = some y from rfl, Option.bind_some, if_neg hy45, Option.bind_some]
        simp only [Bool.false_eq_true, if_false]
        have hd0 : decide (s.from_ > s.from_) = false := by simp
        rw [hd0]
        have hse : (⟨s.from_, s.from_⟩ : T_regex_span) = s := by obtain ⟨a, b⟩ := s; simp only at he; subst he; rfl
        rw [hse]
        exact go (y :: t) (by rw [← hy]; exact dsp_tailT rest ss) hlen
      · have hm : memK s = [⟨0, s.from_, true⟩, sgn 45, ⟨0, s.to_, true⟩] := by unfold memK; rw [if_neg he]
        have htl : (dsp L).tail = sgn 45 :: ⟨0, s.to_, true⟩ :: y :: t := by rw [hL, hm, ← hy]; rfl
        have hlen : (sgn 45 :: (⟨0, s.to_, true⟩ : T_regex_sign) :: y :: t).length + 1 ≤ L.length := by rw [← htl]; exact tail_lt (by rw [hL, hm]; simp)
        rw [htl]
        try simp only
        rw [if_pos (by simp <;> omega), show lat (sgn 45 :: (⟨0, s.to_, true⟩ : T_regex_sign) :: y :: t) 0 = some (sgn 45) from rfl, Option.bind_some, if_pos rfl]
        have d45 : dsp (sgn 45 :: (⟨0, s.to_, true⟩ : T_regex_sign) :: y :: t) = sgn 45 :: ⟨0, s.to_, true⟩ :: y :: t := by simp [dsp]
        simp only [List.length_cons] at hlen
        rw [next_cons d45 (by simp; omega), Option.bind_some]
        try simp only
        have hnz : ¬ ((((⟨0, s.to_, true⟩ : T_regex_sign) :: y :: t).length : Nat) : Int) = 0 := by simp only [List.length_cons]; omega
        rw [if_neg hnz, show lat ((⟨0, s.to_, true⟩ : T_regex_sign) :: y :: t) 0 = some ⟨0, s.to_, true⟩ from rfl, Option.bind_some]
        simp only [if_true]
        rw [next_cons (dsp_num _ _) (by simp; omega), Option.bind_some]
        simp only [Option.bind_some, Bool.false_eq_true, if_false]
        have hd0 : decide (s.from_ > s.to_) = false := by have := hok.2.2; simp; omega
        rw [hd0]
        exact go (y :: t) (by rw [← hy]; exact dsp_tailT rest ss) (by simp; omega)

theorem setk_ok {k : Nat} {ss : List T_regex_span} {b : Bool} {rest : List T_regex_sign} (hne : ss ≠ []) (hs : ∀ s ∈ ss, spanOk s) (hb : ss.length ≤ 100000)
    (hk : ((if b then [sgn 94] else []) ++ jn (sgn 32) (ss.map memK) ++ sgn 93 :: rest).length + 4 ≤ k) :
    regex_reader_set.f k ⟨(if b then [sgn 94] else []) ++ jn (sgn 32) (ss.map memK) ++ sgn 93 :: rest, false⟩ = some (⟨4, [], ss, b⟩, ⟨rest, false⟩) := by
  cases ss with
  | nil => exact absurd rfl hne
  | cons s ss =>
    cases b with
    | true =>
      have e : (if true = true then [sgn 94] else []) ++ jn (sgn 32) ((s :: ss).map memK) ++ sgn 93 :: rest = sgn 94 :: (jn (sgn 32) ((s :: ss).map memK) ++ sgn 93 :: rest) := by simp
      rw [e] at hk ⊢
      simp only [List.length_cons] at hk
      have d : dsp (sgn 94 :: (jn (sgn 32) ((s :: ss).map memK) ++ sgn 93 :: rest)) = sgn 94 :: (jn (sgn 32) ((s :: ss).map memK) ++ sgn 93 :: rest) := by simp [dsp]
      rw [regex_reader_set.f, peek_cons d (by simp only [List.length_cons]; omega), Option.bind_some]
      simp only [if_true]
      rw [next_cons d (by simp only [List.length_cons]; omega), Option.bind_some]
      simp only [Option.bind_some]
      rw [setk_l0 true rest (s :: ss) k _ [] hs (by rw [mk_cons, dsp_memK]) (by simp) (by omega) (by simpa using hb)]
      rfl
    | false =>
      have e : (if false = true then [sgn 94] else []) ++ jn (sgn 32) ((s :: ss).map memK) ++ sgn 93 :: rest = jn (sgn 32) ((s :: ss).map memK) ++ sgn 93 :: rest := by simp
      rw [e] at hk ⊢
      have d : dsp (jn (sgn 32) ((s :: ss).map memK) ++ sgn 93 :: rest) = jn (sgn 32) ((s :: ss).map memK) ++ sgn 93 :: rest := by rw [mk_cons, dsp_memK]
      have hh : (hd (jn (sgn 32) ((s :: ss).map memK) ++ sgn 93 :: rest)).c = 0 := by rw [mk_cons]; unfold memK; split <;> rfl
      rw [regex_reader_set.f, peek_eq (by omega), Option.bind_some, d]
      rw [if_neg (by rw [hh]; decide), Option.bind_some]
      simp only
      rw [setk_l0 false rest (s :: ss) k _ [] hs d (by simp) (by omega) (by simpa using hb)]
      rfl

/-! ### Items, rows, choices -/

def firstOk (x : T_regex_sign) : Prop := (¬ x.c = 32 ∧ ¬ x.c = 42 ∧ ¬ x.c = 43 ∧ ¬ x.c = 63) ∧ (x.digits = true ∨ (¬ x.c = 0 ∧ ¬ x.c = 124 ∧ ¬ x.c = 41))
def ItemP (p : T_regex_piece) (tk : List T_regex_sign) : Prop := ∃ x tk', tk = x :: tk' ∧ firstOk x ∧ ∀ rest k, 4 * (tk' ++ rest).length + 5 ≤ k → (tk ++ rest).length ≤ 100000 →
  ∃ q l2 m, regex_reader_atom.f k ⟨tk' ++ rest, false⟩ x = some (q, ⟨l2, false⟩) ∧ m ≤ tk'.length ∧
    ∀ K, (tk ++ rest).length + 3 ≤ K → regex_reader_repeats.l0 (K + m) q.kind q.parts q.spans q.not l2 false = regex_reader_repeats.l0 K p.kind p.parts p.spans p.not rest false
def stopR (rest : List T_regex_sign) : Prop := (hd (dsp rest)).digits = false ∧ ((hd (dsp rest)).c = 0 ∨ (hd (dsp rest)).c = 124 ∨ (hd (dsp rest)).c = 41)
def stopC (rest : List T_regex_sign) : Prop := (hd (dsp rest)).digits = false ∧ ((hd (dsp rest)).c = 0 ∨ (hd (dsp rest)).c = 41)
theorem stopC.r {rest : List T_regex_sign} (h : stopC rest) : stopR rest := ⟨h.1, h.2.imp id .inr⟩
def RowP (p : T_regex_piece) (tk : List T_regex_sign) : Prop := ∀ rest k, stopR rest → 4 * (tk ++ rest).length + 3 ≤ k → (tk ++ rest).length ≤ 100000 → regex_reader_row.f k ⟨tk ++ rest, false⟩ = some (p, ⟨dsp rest, false⟩)
def ChP (p : T_regex_piece) (tk : List T_regex_sign) : Prop := ∀ rest k, stopC rest → 4 * (tk ++ rest).length + 4 ≤ k → (tk ++ rest).length ≤ 100000 → regex_reader_choices.f k ⟨tk ++ rest, false⟩ = some (p, ⟨dsp rest, false⟩)

theorem rep_stop {K : Nat} {p : T_regex_piece} {T : List T_regex_sign} (hK : T.length + 2 ≤ K) (h : ¬ (hd (dsp T)).c = 42 ∧ ¬ (hd (dsp T)).c = 43 ∧ ¬ (hd (dsp T)).c = 63) :
    regex_reader_repeats.l0 K p.kind p.parts p.spans p.not T false = some (.inl (p, ⟨dsp T, false⟩)) := by
  cases K with
  | zero => omega
  | succ K =>
    rw [regex_reader_repeats.l0, peek_eq (by omega), Option.bind_some]
    simp only
    rw [if_neg h.1, if_neg h.2.1, if_neg h.2.2, peta]

/-- What is left behind an item. -/
def tl2 (rest : List T_regex_sign) : List Z → List T_regex_sign
  | [] => rest
  | z :: zs => sgn 32 :: (jn (sgn 32) ((z :: zs).map (·.2.2)) ++ rest)
theorem jn_tl2 (rest : List T_regex_sign) (z : Z) (zs : List Z) : jn (sgn 32) ((z :: zs).map (·.2.2)) ++ rest = z.2.2 ++ tl2 rest zs := by
  cases zs with
  | nil => simp [jn, tl2]
  | cons y r => simp [jn, tl2]
theorem dsp_tl2 (rest : List T_regex_sign) (zs : List Z) : dsp (tl2 rest zs) = dsp (jn (sgn 32) (zs.map (·.2.2)) ++ rest) := by
  cases zs with
  | nil => simp [tl2, jn]
  | cons z zs =>
    rw [tl2]
    conv => lhs; rw [dsp]
    rw [if_pos rfl]

theorem rowk_l0 (rest : List T_regex_sign) (hst : stopR rest) : ∀ (zs : List Z) (k : Nat) (L : List T_regex_sign) (done : List T_regex_piece), (∀ z ∈ zs, ItemP z.1 z.2.2) → dsp L = dsp (jn (sgn 32) (zs.map (·.2.2)) ++ rest) → 4 * L.length + 2 ≤ k → L.length ≤ 100000 → done.length + zs.length ≤ 100000 →
    regex_reader_row.l0 k done L false = some (done ++ zs.map (·.1), dsp rest, false)
  | [], k, L, done, _, hL, hk, _, _ => by
    cases k with
    | zero => omega
    | succ k =>
      simp only [List.map_nil, jn, List.nil_append] at hL
      rw [regex_reader_row.l0, if_neg (by decide), peek_eq (by omega), Option.bind_some, hL]
      simp only [List.map_nil, List.append_nil]
      obtain ⟨s1, s2⟩ := hst
      rw [if_neg (by rw [s1]; decide)]
      rcases s2 with s2 | s2 | s2
      · rw [if_pos s2]
      · rw [if_neg (by rw [s2]; decide), if_pos s2]
      · rw [if_neg (by rw [s2]; decide), if_neg (by rw [s2]; decide), if_pos s2]
  | z :: zs, k, L, done, hz, hL, hk, hl, hb => by
    cases k with
    | zero => omega
    | succ k =>
      obtain ⟨x, tk', htk, hx, hit⟩ := hz z (List.mem_cons_self ..)
      rw [jn_tl2, htk] at hL
      have hdx : dsp (x :: tk' ++ tl2 rest zs) = x :: (tk' ++ tl2 rest zs) := by
        rw [List.cons_append, dsp, if_neg hx.1.1]
      rw [hdx] at hL
      have dl := dsp_len L
      have hlen : (tk' ++ tl2 rest zs).length + 1 ≤ L.length := by rw [hL] at dl; simpa using dl
      rw [regex_reader_row.l0, if_neg (by decide), peek_cons hL (by omega), Option.bind_some]
      simp only
      rw [next_cons (show dsp (x :: (tk' ++ tl2 rest zs)) = x :: (tk' ++ tl2 rest zs) by rw [← hL, dsp_dsp]) (by simp only [List.length_cons]; omega)]
      simp only [Option.bind_some]
      have hll : (z.2.2 ++ tl2 rest zs).length = (tk' ++ tl2 rest zs).length + 1 := by rw [htk]; simp
      have hstop : ¬ (hd (dsp (tl2 rest zs))).c = 42 ∧ ¬ (hd (dsp (tl2 rest zs))).c = 43 ∧ ¬ (hd (dsp (tl2 rest zs))).c = 63 := by
        rw [dsp_tl2]
        cases zs with
        | nil =>
          simp only [List.map_nil, jn, List.nil_append]
          rcases hst.2 with h | h | h <;> rw [h] <;> decide
        | cons y ys =>
          obtain ⟨x2, tk2, h2, hx2, _⟩ := hz y (by simp)
          rw [jn_tl2, h2, List.cons_append, dsp, if_neg hx2.1.1]
          exact ⟨hx2.1.2.1, hx2.1.2.2.1, hx2.1.2.2.2⟩
      have go : ((regex_reader_atom.f k ⟨tk' ++ tl2 rest zs, false⟩ x).bind fun y38 => ((regex_reader_repeats.f k y38.2 y38.1).bind fun y42 => ((Sp.app 64 done [y42.1]).bind fun l50 => (regex_reader_row.l0 k l50 y42.2.rest y42.2.bad)))) = some (done ++ (z :: zs).map (·.1), dsp rest, false) := by
        obtain ⟨q, l2, m, ea, hm, hr⟩ := hit (tl2 rest zs) k (by omega) (by omega)
        rw [ea, Option.bind_some, regex_reader_repeats.f]
        have hm2 : m ≤ (tk' ++ tl2 rest zs).length := by rw [List.length_append]; omega
        have hKm : k = (k - m) + m := by omega
        have htl : (tl2 rest zs).length ≤ (tk' ++ tl2 rest zs).length := by rw [List.length_append]; omega
        have e := hr (k - m) (by omega)
        rw [← hKm, rep_stop (by omega) hstop] at e
        simp only
        rw [e]
        simp only [Option.bind_some]
        simp only [List.length_cons] at hb
        have ha : Sp.app 64 done [z.1] = some (done ++ [z.1]) := app_small (by simp; omega) (by decide)
        rw [ha, Option.bind_some]
        have dl2 := dsp_len (tl2 rest zs)
        rw [rowk_l0 rest hst zs k (dsp (tl2 rest zs)) (done ++ [z.1]) (fun w hw => hz w (List.mem_cons_of_mem _ hw)) (by rw [dsp_dsp, dsp_tl2]) (by omega) (by omega) (by simp; omega)]
        simp
      rcases hx.2 with hdg | ⟨h0, h1, h2⟩
      · split
        · exact go
        · rename_i h; exact absurd hdg h
      · split
        · exact go
        · exact go

theorem row_P {zs : List Z} (hz : ∀ z ∈ zs, ItemP z.1 z.2.2) (hb : zs.length ≤ 100000) : RowP ⟨0, zs.map (·.1), [], false⟩ (jn (sgn 32) (zs.map (·.2.2))) := by
  intro rest k hst hk hl
  cases k with
  | zero => omega
  | succ k =>
    rw [regex_reader_row.f, rowk_l0 rest hst zs k _ [] hz rfl (by omega) hl (by simpa using hb)]
    rfl

theorem jn_flat (s : T_regex_sign) : ∀ (x : List T_regex_sign) (r : List (List T_regex_sign)), jn s (x :: r) = x ++ r.flatMap (fun y => s :: y)
  | x, [] => by simp [jn]
  | x, y :: r => by rw [jn, jn_flat s y r]; simp

theorem chk_l0 (rest : List T_regex_sign) (hst : stopC rest) : ∀ (zs : List Z) (k : Nat) (L : List T_regex_sign) (done : List T_regex_piece), (∀ z ∈ zs, RowP z.1 z.2.2) → dsp L = dsp ((zs.map (·.2.2)).flatMap (fun y => sgn 124 :: y) ++ rest) → 4 * L.length + 2 ≤ k → L.length ≤ 100000 → done.length + zs.length ≤ 100000 →
    regex_reader_choices.l0 k done L false = some (done ++ zs.map (·.1), dsp rest, false)
  | [], k, L, done, _, hL, hk, _, _ => by
    cases k with
    | zero => omega
    | succ k =>
      simp only [List.map_nil, List.flatMap_nil, List.nil_append] at hL
      rw [regex_reader_choices.l0, if_neg (by decide), peek_eq (by omega), Option.bind_some, hL]
      simp only [List.map_nil, List.append_nil]
      rw [if_neg (by rcases hst.2 with h | h <;> rw [h] <;> decide)]
  | z :: zs, k, L, done, hz, hL, hk, hl, hb => by
    cases k with
    | zero => omega
    | succ k =>
      have e0 : ((z :: zs).map (·.2.2)).flatMap (fun y => sgn 124 :: y) ++ rest = sgn 124 :: (z.2.2 ++ ((zs.map (·.2.2)).flatMap (fun y => sgn 124 :: y) ++ rest)) := by simp
      rw [e0, dsp, if_neg (by decide)] at hL
      have dl := dsp_len L
      have hlen : (z.2.2 ++ ((zs.map (·.2.2)).flatMap (fun y => sgn 124 :: y) ++ rest)).length + 1 ≤ L.length := by rw [hL] at dl; simpa using dl
      rw [regex_reader_choices.l0, if_neg (by decide), peek_cons hL (by omega), Option.bind_some]
      simp only [if_true]
      rw [next_cons (by rw [dsp, if_neg (by decide)]) (by simp only [List.length_cons]; omega), Option.bind_some]
      simp only
      have hst2 : stopR ((zs.map (·.2.2)).flatMap (fun y => sgn 124 :: y) ++ rest) := by
        cases zs with
        | nil => simpa using hst.r
        | cons y ys =>
          refine ⟨?_, .inr (.inl ?_)⟩
          · simp [dsp, hd]
          · simp [dsp, hd]
      rw [hz z (List.mem_cons_self ..) _ k hst2 (by omega) (by omega), Option.bind_some]
      simp only [List.length_cons] at hb
      have ha : Sp.app 64 done [z.1] = some (done ++ [z.1]) := app_small (by simp; omega) (by decide)
      simp only
      rw [ha, Option.bind_some]
      have dl2 := dsp_len ((zs.map (·.2.2)).flatMap (fun y => sgn 124 :: y) ++ rest)
      rw [List.length_append] at hlen
      rw [chk_l0 rest hst zs k _ (done ++ [z.1]) (fun w hw => hz w (List.mem_cons_of_mem _ hw)) (dsp_dsp _) (by omega) (by omega) (by simp; omega)]
      simp

theorem ch_P {zs : List Z} (hne : zs ≠ []) (hz : ∀ z ∈ zs, RowP z.1 z.2.2) (hb : zs.length ≤ 100000) : ChP ⟨1, zs.map (·.1), [], false⟩ (jn (sgn 124) (zs.map (·.2.2))) := by
  intro rest k hst hk hl
  cases zs with
  | nil => exact absurd rfl hne
  | cons z zs =>
    cases k with
    | zero => omega
    | succ k =>
      rw [List.map_cons, jn_flat, List.append_assoc] at hk hl ⊢
      have hst2 : stopR ((zs.map (·.2.2)).flatMap (fun y => sgn 124 :: y) ++ rest) := by
        cases zs with
        | nil => simpa using hst.r
        | cons y ys =>
          refine ⟨?_, .inr (.inl ?_)⟩
          · simp [dsp, hd]
          · simp [dsp, hd]
      rw [regex_reader_choices.f, hz z (List.mem_cons_self ..) _ k hst2 (by omega) hl, Option.bind_some]
      simp only
      have dl2 := dsp_len ((zs.map (·.2.2)).flatMap (fun y => sgn 124 :: y) ++ rest)
      rw [List.length_append] at hk hl
      simp only [List.length_cons] at hb
      rw [chk_l0 rest hst zs k _ [z.1] (fun w hw => hz w (List.mem_cons_of_mem _ hw)) (dsp_dsp _) (by omega) (by omega) (by simp; omega)]
      rfl
end Go.Proofs.YtkkflfmonidepaaDoor
