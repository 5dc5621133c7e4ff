/-
  A PATTERN THAT IS READ TO ITS END IS READ THE SAME AHEAD OF A CLOSING SIGN.
-/
import Derived.Test.YtkkflfmonidepaaDoorP11
namespace Go.Proofs.YtkkflfmonidepaaDoor
open Sp
set_option maxRecDepth 100000
set_option maxHeartbeats 4000000

/-- A text ahead of a byte that is no digit. -/
theorem lex_then : ∀ (l pend : List UInt8) (acc r : List T_regex_sign), lexS l pend acc = some r → ∀ (c : UInt8) (t : List UInt8), ¬ dig c → lexS (l ++ c :: t) pend acc = lexS (c :: t) [] r
  | [], pend, acc, r, h, c, t, hc => by
    rw [lexS] at h
    rw [List.nil_append, lexS_non hc, lexS_non hc, h, flush_nil]
  | d :: l, pend, acc, r, h, c, t, hc => by
    by_cases hd : dig d
    · rw [lexS_dig hd] at h
      rw [List.cons_append, lexS_dig hd]
      exact lex_then l _ _ _ h c t hc
    · rw [lexS_non hd] at h
      rw [List.cons_append, lexS_non hd]
      obtain ⟨a, ha, h⟩ := obx h
      rw [ha, Option.bind_some]
      by_cases h1 : d.toNat = 32 ∨ d.toNat = 95
      · rw [if_pos h1] at h ⊢
        exact lex_then l _ _ _ h c t hc
      · rw [if_neg h1] at h ⊢
        by_cases h2 : punctI d.toNat = true
        · rw [if_pos h2] at h ⊢
          exact lex_then l _ _ _ h c t hc
        · rw [if_neg h2] at h
          cases h
/-- What was read ahead stays ahead. -/
theorem lex_acc : ∀ (l pend : List UInt8) (acc r : List T_regex_sign), lexS l pend acc = some r → ∀ a, lexS l pend (a ++ acc) = some (a ++ r)
  | [], pend, acc, r, h, a => by
    rw [lexS] at h ⊢
    unfold flushS at h ⊢
    by_cases h0 : pend = []
    · rw [if_pos h0] at h ⊢
      obtain rfl := Option.some.inj h
      rfl
    · rw [if_neg h0] at h ⊢
      obtain ⟨m, hm, rfl⟩ := Option.map_eq_some_iff.1 h
      rw [hm, Option.map_some, List.append_assoc]
  | d :: l, pend, acc, r, h, a => by
    by_cases hd : dig d
    · rw [lexS_dig hd] at h ⊢
      exact lex_acc l _ _ _ h a
    · rw [lexS_non hd] at h ⊢
      obtain ⟨b, hb, h⟩ := obx h
      have hb' := lex_acc [] pend acc b (by rw [lexS]; exact hb) a
      rw [lexS] at hb'
      rw [hb', Option.bind_some]
      by_cases h1 : d.toNat = 32 ∨ d.toNat = 95
      · rw [if_pos h1] at h ⊢
        rw [List.append_assoc]
        exact lex_acc l _ _ _ h a
      · rw [if_neg h1] at h ⊢
        by_cases h2 : punctI d.toNat = true
        · rw [if_pos h2] at h ⊢
          rw [List.append_assoc]
          exact lex_acc l _ _ _ h a
        · rw [if_neg h2] at h
          cases h

/-! ### The reader ahead of a closing sign -/

section
variable {X rest0 : List T_regex_sign}

theorem dsp_app (hX : X = sgn 41 :: rest0) : ∀ l, dsp (l ++ X) = dsp l ++ X
  | [] => by subst hX; simp [dsp]
  | x :: l => by
    by_cases h : x.c = 32
    · simp [dsp, h, dsp_app hX l]
    · simp [dsp, h]
theorem hd_app (hX : X = sgn 41 :: rest0) (l : List T_regex_sign) : (dsp l = [] ∧ hd (dsp (l ++ X)) = sgn 41 ∧ hd (dsp l) = ⟨0, 0, false⟩) ∨ (dsp l ≠ [] ∧ hd (dsp (l ++ X)) = hd (dsp l)) := by
  rw [dsp_app hX]
  cases h : dsp l with
  | nil => subst hX; exact .inl ⟨rfl, rfl, rfl⟩
  | cons x t => exact .inr ⟨by simp, rfl⟩
theorem tail_app (hX : X = sgn 41 :: rest0) {l : List T_regex_sign} (h : dsp l ≠ []) : (dsp (l ++ X)).tail = (dsp l).tail ++ X := by
  rw [dsp_app hX]
  cases h' : dsp l with
  | nil => exact absurd h' h
  | cons x t => rfl

theorem repx (hX : X = sgn 41 :: rest0) : ∀ (k1 k2 : Nat) (q p : T_regex_piece) (l : List T_regex_sign) (r : T_regex_reader), l.length + 1 < k1 → (l ++ X).length + 1 < k2 → regex_reader_repeats.l0 k1 q.kind q.parts q.spans q.not l false = some (.inl (p, r)) → regex_reader_repeats.l0 k2 q.kind q.parts q.spans q.not (l ++ X) false = some (.inl (p, ⟨r.rest ++ X, false⟩))
  | 0, _, _, _, _, _, h, _, _ => by omega
  | k1 + 1, 0, _, _, _, _, _, h, _ => by omega
  | k1 + 1, k2 + 1, q, p, l, r, h1, h2, h => by
    rw [regex_reader_repeats.l0, peek_eq (by omega)] at h
    rw [regex_reader_repeats.l0, peek_eq (by omega)]
    simp only [Option.bind_some] at h ⊢
    have dl := dsp_len l
    have dlx := dsp_len (l ++ X)
    rcases hd_app hX l with ⟨e1, e2, e3⟩ | ⟨e1, e2⟩
    · rw [e3] at h
      rw [if_neg (by decide), if_neg (by decide), if_neg (by decide)] at h
      rw [e2, if_neg (by decide), if_neg (by decide), if_neg (by decide)]
      simp only [Option.some.injEq, Sum.inl.injEq, Prod.mk.injEq] at h
      obtain ⟨rfl, rfl⟩ := h
      rw [dsp_app hX]
    · rw [e2]
      have ht := tail_lt e1
      have htx : (dsp (l ++ X)).tail = (dsp l).tail ++ X := tail_app hX e1
      rw [next_eq (by omega), dsp_dsp] at h
      rw [next_eq (by omega), dsp_dsp, htx]
      simp only [Option.bind_some] at h ⊢
      have hlx : ((dsp l).tail ++ X).length + 1 ≤ (l ++ X).length := by rw [List.length_append, List.length_append]; omega
      split at h
      · rename_i hc
        rw [if_pos hc]
        exact repx hX k1 k2 ⟨7, [⟨q.kind, q.parts, q.spans, q.not⟩], [], false⟩ p _ r (by omega) (by omega) h
      · rename_i hc
        rw [if_neg hc]
        split at h
        · rename_i hc
          rw [if_pos hc]
          exact repx hX k1 k2 ⟨8, [⟨q.kind, q.parts, q.spans, q.not⟩], [], false⟩ p _ r (by omega) (by omega) h
        · rename_i hc
          rw [if_neg hc]
          split at h
          · rename_i hc
            rw [if_pos hc]
            exact repx hX k1 k2 ⟨9, [⟨q.kind, q.parts, q.spans, q.not⟩], [], false⟩ p _ r (by omega) (by omega) h
          · rename_i hc
            rw [if_neg hc]
            simp only [Option.some.injEq, Sum.inl.injEq, Prod.mk.injEq] at h
            obtain ⟨rfl, rfl⟩ := h
            rw [dsp_app hX]

theorem setx_l1 (hX : X = sgn 41 :: rest0) : ∀ (k1 k2 : Nat) (l l1 : List T_regex_sign) (b : Bool), l.length + 1 < k1 → (l ++ X).length + 1 < k2 → regex_reader_set.l1 k1 l false = some (l1, b) → b = false ∧ regex_reader_set.l1 k2 (l ++ X) false = some (l1 ++ X, false)
  | 0, _, _, _, _, h, _, _ => by omega
  | k1 + 1, 0, _, _, _, _, h, _ => by omega
  | k1 + 1, k2 + 1, l, l1, b, h1, h2, h => by
    rw [regex_reader_set.l1, peek_eq (by omega)] at h
    rw [regex_reader_set.l1, peek_eq (by omega)]
    simp only [Option.bind_some] at h ⊢
    have dl := dsp_len l
    have dlx := dsp_len (l ++ X)
    rcases hd_app hX l with ⟨e1, e2, e3⟩ | ⟨e1, e2⟩
    · rw [e3, if_neg (by decide)] at h
      rw [e2, if_neg (by decide)]
      simp only [Option.some.injEq, Prod.mk.injEq] at h
      obtain ⟨rfl, rfl⟩ := h
      exact ⟨rfl, by rw [dsp_app hX]⟩
    · rw [e2]
      split at h
      · rename_i hc
        rw [if_pos hc]
        have ht := tail_lt e1
        rw [next_eq (by omega), dsp_dsp, Option.bind_some] at h
        rw [next_eq (by omega), dsp_dsp, tail_app hX e1, Option.bind_some]
        have hlx : ((dsp l).tail ++ X).length + 1 ≤ (l ++ X).length := by rw [List.length_append, List.length_append]; omega
        exact setx_l1 hX k1 k2 _ l1 b (by omega) (by omega) h
      · rename_i hc
        rw [if_neg hc]
        simp only [Option.some.injEq, Prod.mk.injEq] at h
        obtain ⟨rfl, rfl⟩ := h
        exact ⟨rfl, by rw [dsp_app hX]⟩

/-- A set at the end of the signs is none. -/
theorem set_nil {k : Nat} {nt b : Bool} {ss : List T_regex_span} {p : T_regex_piece} {r : T_regex_reader} (hk : 3 ≤ k) (h : regex_reader_set.l0 k nt [] b ss = some (.inl (p, r))) : r.bad = true := by
  cases k with
  | zero => omega
  | succ k =>
    have h1 : regex_reader_set.l1 k [] b = some ([], b) := by
      cases k with
      | zero => omega
      | succ k =>
        rw [regex_reader_set.l1, peek_eq (by simp; omega), Option.bind_some]
        simp [dsp, hd]
    rw [regex_reader_set.l0, h1, Option.bind_some] at h
    simp only at h
    rw [show regex_reader_next.f k ⟨[], b⟩ = some (⟨0, 0, false⟩, ⟨[], b⟩) by rw [next_eq (by simp; omega)]; rfl, Option.bind_some] at h
    rw [if_neg (show ¬ false = true by decide)] at h
    by_cases hbb : b = true
    · rw [if_pos hbb] at h
      simp only [Option.some.injEq, Sum.inl.injEq, Prod.mk.injEq] at h
      rw [← h.2]
    · rw [if_neg hbb, if_neg (show ¬ (0 : Int) = 93 by decide)] at h
      simp only [Option.some.injEq, Sum.inl.injEq, Prod.mk.injEq] at h
      rw [← h.2]

theorem setx_l0 (hX : X = sgn 41 :: rest0) : ∀ (k1 k2 : Nat) (nt : Bool) (l : List T_regex_sign) (ss : List T_regex_span) (p : T_regex_piece) (r : T_regex_reader), sgs l → l.length + 3 < k1 → (l ++ X).length + 3 < k2 → ss.length + l.length ≤ 1000000 →
    regex_reader_set.l0 k1 nt l false ss = some (.inl (p, r)) → r.bad = false → regex_reader_set.l0 k2 nt (l ++ X) false ss = some (.inl (p, ⟨r.rest ++ X, false⟩))
  | 0, _, _, _, _, _, _, _, h, _, _, _, _ => by omega
  | k1 + 1, 0, _, _, _, _, _, _, _, h, _, _, _ => by omega
  | k1 + 1, k2 + 1, nt, l, ss, p, r, hs, h1, h2, hb, h, hr => by
    rw [regex_reader_set.l0] at h
    rw [regex_reader_set.l0]
    obtain ⟨l1, e1, g1, gs⟩ := set_l1 k1 l false (by omega) hs
    obtain ⟨_, e2⟩ := setx_l1 hX k1 k2 l l1 false (by omega) (by omega) e1
    rw [e1, Option.bind_some] at h
    rw [e2, Option.bind_some]
    simp only at h ⊢
    have hlx : (l1 ++ X).length ≤ (l ++ X).length := by rw [List.length_append, List.length_append]; omega
    rw [next_eq (by omega), Option.bind_some] at h
    rw [next_eq (by omega), Option.bind_some]
    have bad : ∀ {q : T_regex_piece} {u : List T_regex_sign}, (some (.inl (q, ⟨u, true⟩)) : Option (Sum (T_regex_piece × T_regex_reader) Unit)) = some (.inl (p, r)) → False := fun hh => by
      simp only [Option.some.injEq, Sum.inl.injEq, Prod.mk.injEq] at hh
      rw [← hh.2] at hr
      cases hr
    rcases hd_app hX l1 with ⟨d1, d2, d3⟩ | ⟨d1, d2⟩
    · exfalso
      rw [d3] at h
      rw [if_neg (show ¬ false = true by decide), if_neg (show ¬ false = true by decide), if_neg (show ¬ (0 : Int) = 93 by decide)] at h
      exact bad h
    · rw [tail_app hX d1]
      simp only [d2]
      have hlt := tail_lt d1
      have hst := sgs_tail gs
      simp only at h
      -- the loop goes on
      have go : ∀ (t : List T_regex_sign) (s : T_regex_span) (b' : Bool), t.length + 1 ≤ l1.length → sgs t → ((Sp.app 8 ss [s]).bind fun l110 => regex_reader_set.l0 k1 nt t b' l110) = some (.inl (p, r)) → ((Sp.app 8 ss [s]).bind fun l110 => regex_reader_set.l0 k2 nt (t ++ X) b' l110) = some (.inl (p, ⟨r.rest ++ X, false⟩)) := by
        intro t s b' ht hst' hh
        have ha : Sp.app 8 ss [s] = some (ss ++ [s]) := app_small (by simp; omega) (by decide)
        rw [ha, Option.bind_some] at hh ⊢
        have hb' : b' = false := by
          obtain ⟨p', r', e', _, _, _, h5⟩ := set_l0 k1 nt t b' (ss ++ [s]) (by omega) hst' (by simp; omega)
          rw [e'] at hh
          simp only [Option.some.injEq, Sum.inl.injEq, Prod.mk.injEq] at hh
          obtain ⟨rfl, rfl⟩ := hh
          exact (h5 hr).1
        subst hb'
        exact setx_l0 hX k1 k2 nt t (ss ++ [s]) p r hst' (by omega) (by rw [List.length_append] at h2 ⊢; omega) (by simp; omega) hh hr
      by_cases hdg : (hd (dsp l1)).digits = true
      · rw [if_pos hdg] at h ⊢
        cases ht : (dsp l1).tail with
        | nil =>
          exfalso
          rw [ht] at h
          rw [if_neg (by decide)] at h
          have ha : ∀ s, Sp.app 8 ss [s] = some (ss ++ [s]) := fun s => app_small (by simp; omega) (by decide)
          simp only [ha, Option.bind_some, Bool.false_eq_true, if_false] at h
          have := set_nil (by omega) h
          rw [hr] at this
          cases this
        | cons y t =>
          rw [ht] at h hlt hst
          have hy : signOk y := hst y (List.mem_cons_self ..)
          have pos1 : ((((y :: t).length : Nat) : Int) > 0) := by simp only [List.length_cons]; omega
          have pos2 : ((((y :: t ++ X).length : Nat) : Int) > 0) := by rw [List.length_append]; simp only [List.length_cons]; omega
          rw [if_pos pos1, show lat (y :: t) 0 = some y from rfl, Option.bind_some] at h
          rw [if_pos pos2, show lat (y :: t ++ X) 0 = some y from rfl, Option.bind_some]
          by_cases hc : y.c = 45
          · rw [if_pos hc] at h ⊢
            have hdy : ∀ u, dsp (y :: u) = y :: u := fun u => by simp [dsp, hc]
            rw [next_cons (hdy t) (by simp only [List.length_cons] at hlt ⊢; omega), Option.bind_some] at h
            rw [show y :: t ++ X = y :: (t ++ X) from rfl, next_cons (hdy _) (by simp only [List.length_cons, List.length_append] at hlt hlx h2 ⊢; omega), Option.bind_some]
            simp only at h ⊢
            cases t with
            | nil =>
              exfalso
              rw [if_pos (by rfl), Option.bind_some] at h
              exact bad h
            | cons z t2 =>
              have hz : signOk z := hst z (by simp)
              have n1 : ¬ ((((z :: t2).length : Nat) : Int) = 0) := by simp only [List.length_cons]; omega
              have n2 : ¬ ((((z :: t2 ++ X).length : Nat) : Int) = 0) := by rw [List.length_append]; simp only [List.length_cons]; omega
              rw [if_neg n1, show lat (z :: t2) 0 = some z from rfl, Option.bind_some] at h
              rw [if_neg n2, show lat (z :: t2 ++ X) 0 = some z from rfl, Option.bind_some]
              by_cases hzd : z.digits = true
              · rw [if_pos hzd] at h ⊢
                have hdz : ∀ u, dsp (z :: u) = z :: u := fun u => by simp [dsp, (hz.1 hzd).2]
                rw [next_cons (hdz t2) (by simp only [List.length_cons] at hlt ⊢; omega), Option.bind_some] at h
                rw [show z :: t2 ++ X = z :: (t2 ++ X) from rfl, next_cons (hdz _) (by simp only [List.length_cons, List.length_append] at hlt hlx h2 ⊢; omega), Option.bind_some]
                simp only [Option.bind_some, Bool.false_eq_true, if_false] at h ⊢
                exact go t2 _ _ (by simp only [List.length_cons] at hlt; omega) (fun w hw => hst w (by simp [hw])) h
              · exfalso
                rw [if_neg hzd, Option.bind_some] at h
                exact bad h
          · rw [if_neg hc] at h ⊢
            simp only [Option.bind_some, Bool.false_eq_true, if_false] at h ⊢
            exact go (y :: t) _ _ (by omega) hst h
      · rw [if_neg hdg] at h ⊢
        rw [if_neg (by decide)] at h ⊢
        split at h
        · rename_i hc
          rw [if_pos hc]
          simp only [Option.some.injEq, Sum.inl.injEq, Prod.mk.injEq] at h ⊢
          obtain ⟨rfl, rfl⟩ := h
          simp only at hr
          refine ⟨rfl, ?_⟩
          rw [hr]
        · exfalso
          exact bad h

theorem setx (hX : X = sgn 41 :: rest0) {k1 k2 : Nat} {l : List T_regex_sign} {p : T_regex_piece} {r : T_regex_reader} (hs : sgs l) (h1 : l.length + 3 < k1) (h2 : (l ++ X).length + 3 < k2) (hb : l.length ≤ 100000)
    (h : regex_reader_set.f k1 ⟨l, false⟩ = some (p, r)) (hr : r.bad = false) : regex_reader_set.f k2 ⟨l ++ X, false⟩ = some (p, ⟨r.rest ++ X, false⟩) := by
  rw [regex_reader_set.f, peek_eq (by omega), Option.bind_some] at h
  rw [regex_reader_set.f, peek_eq (by omega), Option.bind_some]
  have dl := dsp_len l
  have dlx := dsp_len (l ++ X)
  have key : ∀ (t : List T_regex_sign) (nt : Bool), t.length ≤ l.length → sgs t → ((regex_reader_set.l0 k1 nt t false []).bind fun o => match o with | .inl r => some r | .inr _ => none) = some (p, r) → ((regex_reader_set.l0 k2 nt (t ++ X) false []).bind fun o => match o with | .inl r => some r | .inr _ => none) = some (p, ⟨r.rest ++ X, false⟩) := by
    intro t nt ht hst hh
    obtain ⟨o, ho, hh⟩ := obx hh
    cases o with
    | inr _ => cases hh
    | inl o =>
      obtain rfl := Option.some.inj hh
      rw [setx_l0 hX k1 k2 nt t [] p r hst (by omega) (by rw [List.length_append] at h2 ⊢; omega) (by simp; omega) ho hr]
      rfl
  rcases hd_app hX l with ⟨e1, e2, e3⟩ | ⟨e1, e2⟩
  · rw [e3, if_neg (show ¬ (0 : Int) = 94 by decide), Option.bind_some] at h
    rw [e2, if_neg (show ¬ (41 : Int) = 94 by decide), Option.bind_some, dsp_app hX]
    exact key _ _ dl (sgs_dsp hs) h
  · rw [e2]
    split at h
    · rename_i hc
      rw [if_pos hc]
      rw [next_eq (by omega), dsp_dsp, Option.bind_some, Option.bind_some] at h
      rw [next_eq (by omega), dsp_dsp, tail_app hX e1, Option.bind_some, Option.bind_some]
      exact key _ _ (tail_len l) (sgs_tail hs) h
    · rename_i hc
      rw [if_neg hc, Option.bind_some, dsp_app hX]
      rw [Option.bind_some] at h
      exact key _ _ dl (sgs_dsp hs) h
end
end Go.Proofs.YtkkflfmonidepaaDoor
