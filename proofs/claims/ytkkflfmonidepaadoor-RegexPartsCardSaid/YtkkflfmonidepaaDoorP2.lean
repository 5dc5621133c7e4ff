/-
  THE PARSER OF PATTERNS ENDS, on any signs; what it gives without a fault is well formed, and no heavier than four times its signs.
-/
import Derived.Test.YtkkflfmonidepaaDoorP1
namespace Go.Proofs.YtkkflfmonidepaaDoor
open Sp
set_option maxRecDepth 100000
set_option maxHeartbeats 4000000

theorem tail_lt {l : List T_regex_sign} (h : dsp l ≠ []) : (dsp l).tail.length + 1 ≤ l.length := by
  cases hd' : dsp l with
  | nil => exact absurd hd' h
  | cons x r => have := dsp_len l; rw [hd'] at this; simpa using this
theorem hd_ne {l : List T_regex_sign} (h : (hd l).c ≠ 0 ∨ (hd l).digits = true) : l ≠ [] := by
  rintro rfl
  rcases h with h | h
  · exact h rfl
  · exact absurd h (by decide)
theorem hd_ok {l : List T_regex_sign} (hs : sgs l) (h : l ≠ []) : signOk (hd l) := by
  cases l with
  | nil => exact absurd rfl h
  | cons x l => exact hs x (List.mem_cons_self ..)

theorem set_l1 : ∀ (k : Nat) (l : List T_regex_sign) (b : Bool), l.length + 1 < k → sgs l → ∃ r, regex_reader_set.l1 k l b = some (r, b) ∧ r.length ≤ l.length ∧ sgs r
  | 0, _, _, h, _ => by omega
  | k + 1, l, b, h, hs => by
    rw [regex_reader_set.l1, peek_eq (by omega)]
    simp only [Option.bind_some]
    split
    · rename_i hc
      rw [next_eq (by have := dsp_len l; omega), dsp_dsp]
      simp only [Option.bind_some]
      have hne := tail_lt (hd_ne (.inl (by rw [hc]; decide)))
      obtain ⟨r, e, h1, h2⟩ := set_l1 k (dsp l).tail b (by omega) (sgs_tail hs)
      exact ⟨r, e, by omega, h2⟩
    · exact ⟨dsp l, rfl, dsp_len l, sgs_dsp hs⟩

/-- What a reading gives: a piece of a kind, no heavier than what it took. -/
def Res (l : List T_regex_sign) (b : Bool) (kind c : Nat) (o : Option (T_regex_piece × T_regex_reader)) : Prop :=
  ∃ p r, o = some (p, r) ∧ r.rest.length ≤ l.length ∧ sgs r.rest ∧ wt p + 4 * r.rest.length ≤ 4 * l.length + c ∧ (r.bad = false → b = false ∧ WF kind p)

theorem set_l0 : ∀ (k : Nat) (nt : Bool) (l : List T_regex_sign) (b : Bool) (ss : List T_regex_span), l.length + 2 < k → sgs l → ss.length + l.length ≤ 1000000 →
    ∃ p r, regex_reader_set.l0 k nt l b ss = some (.inl (p, r)) ∧ r.rest.length ≤ l.length ∧ sgs r.rest ∧ wt p + r.rest.length ≤ 1 + ss.length + l.length ∧ (r.bad = false → b = false ∧ ((∀ s ∈ ss, spanOk s) → WF 0 p))
  | 0, _, _, _, _, h, _, _ => by omega
  | k + 1, nt, l, b, ss, h, hs, hb => by
    rw [regex_reader_set.l0]
    obtain ⟨l1, e1, h1, hs1⟩ := set_l1 k l b (by omega) hs
    rw [e1]
    simp only [Option.bind_some]
    rw [next_eq (by omega)]
    simp only [Option.bind_some]
    have hx := tail_len l1
    have hst := sgs_tail hs1
    have stop : ∀ (r : List T_regex_sign), r.length ≤ l.length → sgs r → ∃ p q, (some (.inl (⟨4, [], ss, nt⟩, ⟨r, true⟩)) : Option (Sum (T_regex_piece × T_regex_reader) Unit)) = some (.inl (p, q)) ∧ q.rest.length ≤ l.length ∧ sgs q.rest ∧ wt p + q.rest.length ≤ 1 + ss.length + l.length ∧ (q.bad = false → b = false ∧ ((∀ s ∈ ss, spanOk s) → WF 0 p)) :=
      fun r hr hsr => ⟨_, _, rfl, hr, hsr, by simp only [wt, wts]; omega, fun h => by cases h⟩
    have go : ∀ (r : List T_regex_sign) (s : T_regex_span) (b' : Bool), r.length + 1 ≤ l.length → sgs r → (b' = false → b = false ∧ spanOk s) → ∃ p q, (app 8 ss [s]).bind (fun l110 => regex_reader_set.l0 k nt r b' l110) = some (.inl (p, q)) ∧ q.rest.length ≤ l.length ∧ sgs q.rest ∧ wt p + q.rest.length ≤ 1 + ss.length + l.length ∧ (q.bad = false → b = false ∧ ((∀ s ∈ ss, spanOk s) → WF 0 p)) := by
      intro r s b' hr hsr hbs
      rw [app_small (by simp; omega) (by decide)]
      simp only [Option.bind_some]
      obtain ⟨p, q, e, k1, k2, k3, k4⟩ := set_l0 k nt r b' (ss ++ [s]) (by omega) hsr (by simp; omega)
      refine ⟨p, q, e, by omega, k2, by simp at k3; omega, fun hq => ?_⟩
      obtain ⟨j1, j2⟩ := k4 hq
      obtain ⟨j3, j4⟩ := hbs j1
      refine ⟨j3, fun hss => j2 fun x hx => ?_⟩
      rcases List.mem_append.1 hx with hx | hx
      · exact hss x hx
      · simp at hx; subst hx; exact j4
    by_cases hdg : (hd (dsp l1)).digits = true
    · rw [if_pos hdg]
      have hne := hd_ne (.inr hdg)
      have hlt := tail_lt hne
      have hok := (hd_ok (sgs_dsp hs1) hne).1 hdg
      have same : ∀ b' : Bool, b' = decide ((hd (dsp l1)).n > (hd (dsp l1)).n) → (b' = false → spanOk ⟨(hd (dsp l1)).n, (hd (dsp l1)).n⟩) := fun _ _ _ => ⟨hok.1, hok.1, Int.le_refl _⟩
      by_cases hr0 : (((dsp l1).tail.length : Nat) : Int) > 0
      · rw [if_pos hr0]
        cases ht : (dsp l1).tail with
        | nil => rw [ht] at hr0; exact absurd hr0 (by decide)
        | cons y t =>
          rw [ht] at hlt hst
          have hy : signOk y := hst y (List.mem_cons_self ..)
          have hlat : lat (y :: t) 0 = some y := rfl
          rw [hlat]
          simp only [Option.bind_some]
          by_cases hc : y.c = 45
          · rw [if_pos hc]
            have hdy : dsp (y :: t) = y :: t := by simp [dsp, hc]
            rw [next_eq (by omega), hdy]
            simp only [Option.bind_some, List.tail_cons]
            by_cases hz : ((t.length : Nat) : Int) = 0
            · rw [if_pos hz]
              simp only [Option.bind_some]
              exact stop t (by simp at hlt; omega) fun x hx => hst x (List.mem_cons_of_mem _ hx)
            · rw [if_neg hz]
              cases t with
              | nil => exact absurd rfl hz
              | cons z t2 =>
                have hz' : signOk z := hst z (by simp)
                have hlat2 : lat (z :: t2) 0 = some z := rfl
                rw [hlat2]
                simp only [Option.bind_some]
                by_cases hzd : z.digits = true
                · rw [if_pos hzd]
                  have hdz : dsp (z :: t2) = z :: t2 := by simp [dsp, (hz'.1 hzd).2]
                  rw [next_eq (by simp at hlt ⊢; omega), hdz]
                  simp only [Option.bind_some, List.tail_cons, hd]
                  have hst2 : sgs t2 := fun x hx => hst x (by simp [hx])
                  by_cases hbb : b = true
                  · rw [if_pos hbb]
                    exact go t2 _ true (by simp at hlt; omega) hst2 (fun h => by cases h)
                  · rw [if_neg hbb]
                    refine go t2 _ _ (by simp at hlt; omega) hst2 (fun h => ⟨by simpa using hbb, hok.1, (hz'.1 hzd).1, ?_⟩)
                    simpa using h
                · rw [if_neg hzd]
                  simp only [Option.bind_some]
                  exact stop _ (by simp at hlt ⊢; omega) fun x hx => hst x (List.mem_cons_of_mem _ hx)
          · rw [if_neg hc]
            simp only [Option.bind_some]
            by_cases hbb : b = true
            · rw [if_pos hbb]
              exact go _ _ true (by omega) hst (fun h => by cases h)
            · rw [if_neg hbb]
              exact go _ _ _ (by omega) hst (fun h => ⟨by simpa using hbb, hok.1, hok.1, Int.le_refl _⟩)
      · rw [if_neg hr0]
        by_cases hbb : b = true
        · rw [if_pos hbb]
          exact go _ _ true (by omega) hst (fun h => by cases h)
        · rw [if_neg hbb]
          exact go _ _ _ (by omega) hst (fun h => ⟨by simpa using hbb, hok.1, hok.1, Int.le_refl _⟩)
    · rw [if_neg hdg]
      split
      · exact stop _ (by omega) hst
      · rename_i hbb
        split
        · refine ⟨_, _, rfl, (by show (dsp l1).tail.length ≤ _; omega), hst, (by simp only [wt, wts]; show 1 + 0 + ss.length + (dsp l1).tail.length ≤ _; omega), fun hq => ⟨by simpa using hbb, fun hss => .set ?_ hss⟩⟩
          rintro rfl
          simp at hq
        · exact stop _ (by omega) hst

theorem set_ok {k : Nat} {l : List T_regex_sign} {b : Bool} (h : l.length + 3 < k) (hs : sgs l) (hb : l.length ≤ 100000) : Res l b 0 1 (regex_reader_set.f k ⟨l, b⟩) := by
  rw [regex_reader_set.f, peek_eq (by omega)]
  simp only [Option.bind_some]
  have key : ∀ (r : List T_regex_sign) (nt : Bool), r.length ≤ l.length → sgs r → Res l b 0 1 ((regex_reader_set.l0 k nt r b []).bind fun o => match o with | .inl r => some r | .inr _ => none) := by
    intro r nt hr hsr
    obtain ⟨p, q, e, h1, h2, h3, h4⟩ := set_l0 k nt r b [] (by omega) hsr (by simp; omega)
    refine ⟨p, q, by rw [e]; rfl, by omega, h2, by simp at h3; omega, fun hq => ?_⟩
    obtain ⟨j1, j2⟩ := h4 hq
    exact ⟨j1, j2 (fun _ h => by cases h)⟩
  split
  · rename_i hc
    rw [next_eq (by have := dsp_len l; omega), dsp_dsp]
    simp only [Option.bind_some]
    exact key _ _ (tail_len l) (sgs_tail hs)
  · simp only [Option.bind_some]
    exact key _ _ (dsp_len l) (sgs_dsp hs)
end Go.Proofs.YtkkflfmonidepaaDoor
