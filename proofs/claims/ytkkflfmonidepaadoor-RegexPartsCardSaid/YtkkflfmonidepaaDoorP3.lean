/-
  THE PARSER OF PATTERNS ENDS (rows, choices, atoms); what Parse's reader gives without a fault is well formed.
-/
import Derived.Test.YtkkflfmonidepaaDoorP2
namespace Go.Proofs.YtkkflfmonidepaaDoor
open Sp
set_option maxRecDepth 100000
set_option maxHeartbeats 4000000

/-- What a row, or choices, on the way give. -/
def ResL (l : List T_regex_sign) (b : Bool) (ps : List T_regex_piece) (kind : Nat) (o : Option (List T_regex_piece × List T_regex_sign × Bool)) : Prop :=
  ∃ ps' l' b', o = some (ps', l', b') ∧ l'.length ≤ l.length ∧ sgs l' ∧ wts ps' + 4 * l'.length ≤ wts ps + 4 * l.length ∧ (ps ≠ [] → ps' ≠ []) ∧ (b' = false → b = false ∧ ((∀ x ∈ ps, WF kind x) → ∀ x ∈ ps', WF kind x))

def AllN (n : Nat) : Prop := ∀ (l : List T_regex_sign) (b : Bool), l.length = n → sgs l → l.length ≤ 100000 →
  (∀ k ps, 4 * n + 2 ≤ k → wts ps + 4 * n ≤ 1000000 → ResL l b ps 0 (regex_reader_row.l0 k ps l b)) ∧
  (∀ k, 4 * n + 3 ≤ k → Res l b 1 1 (regex_reader_row.f k ⟨l, b⟩)) ∧
  (∀ k ps, 4 * n + 2 ≤ k → wts ps + 4 * n ≤ 1000000 → ResL l b ps 1 (regex_reader_choices.l0 k ps l b)) ∧
  (∀ k, 4 * n + 4 ≤ k → Res l b 2 2 (regex_reader_choices.f k ⟨l, b⟩)) ∧
  (∀ k x, 4 * n + 5 ≤ k → signOk x → Res l b 0 3 (regex_reader_atom.f k ⟨l, b⟩ x))

theorem all_n (n : Nat) (ih : ∀ m, m < n → AllN m) : AllN n := by
  intro l b hn hs hb
  have dl := dsp_len l
  have hsd := sgs_dsp hs
  -- a row on the way
  have hrow0 : ∀ k ps, 4 * n + 2 ≤ k → wts ps + 4 * n ≤ 1000000 → ResL l b ps 0 (regex_reader_row.l0 k ps l b) := by
    intro k ps hk hw
    cases k with
    | zero => omega
    | succ k =>
      rw [regex_reader_row.l0]
      by_cases hbb : b = true
      · rw [if_pos hbb]
        exact ⟨ps, l, b, rfl, Nat.le_refl _, hs, Nat.le_refl _, id, fun h => ⟨h, id⟩⟩
      · rw [if_neg hbb, peek_eq (by omega)]
        simp only [Option.bind_some]
        rw [next_eq (by omega), dsp_dsp]
        simp only [Option.bind_some]
        have stay : ResL l b ps 0 (some (ps, dsp l, b)) := ⟨ps, dsp l, b, rfl, dl, hsd, by omega, id, fun h => ⟨h, id⟩⟩
        have go : dsp l ≠ [] → ResL l b ps 0 ((regex_reader_atom.f k ⟨(dsp l).tail, b⟩ (hd (dsp l))).bind fun y38 => ((regex_reader_repeats.f k y38.2 y38.1).bind fun y42 => ((app 64 ps [y42.1]).bind fun l50 => (regex_reader_row.l0 k l50 y42.2.rest y42.2.bad)))) := by
          intro hne
          have hlt := tail_lt hne
          obtain ⟨_, _, _, _, ha⟩ := ih _ (show (dsp l).tail.length < n by omega) (dsp l).tail b rfl (sgs_tail hs) (by omega)
          obtain ⟨p, r, e1, h1, h2, h3, h4⟩ := ha k (hd (dsp l)) (by omega) (hd_ok hsd hne)
          rw [e1]
          simp only [Option.bind_some]
          obtain ⟨q, r2, e2, j1, j2, j3, j4, j5⟩ := repeats_ok (k := k) (p := p) (l := r.rest) (b := r.bad) (by omega) h2
          rw [show (⟨r.rest, r.bad⟩ : T_regex_reader) = r from rfl] at e2
          rw [e2]
          simp only [Option.bind_some]
          have hpl := wts_len ps
          rw [app_small (by simp; omega) (by decide)]
          simp only [Option.bind_some]
          have hwq : wts (ps ++ [q]) = wts ps + wt q := by rw [wts_app]; simp [wts]
          obtain ⟨g, _, _, _, _⟩ := ih _ (show r2.rest.length < n by omega) r2.rest r2.bad rfl j3 (by omega)
          obtain ⟨ps', l', b', e3, g1, g2, g3, g4, g5⟩ := g k (ps ++ [q]) (by omega) (by omega)
          refine ⟨ps', l', b', e3, by omega, g2, by omega, fun _ => g4 (by simp), fun hb' => ?_⟩
          obtain ⟨k1, k2⟩ := g5 hb'
          rw [j2] at k1
          obtain ⟨k3, k4⟩ := h4 k1
          refine ⟨k3, fun hps => k2 fun x hx => ?_⟩
          rcases List.mem_append.1 hx with hx | hx
          · exact hps x hx
          · simp at hx; subst hx; exact j5 k4
        split
        · rename_i hdg
          exact go (hd_ne (.inr hdg))
        · split
          · exact stay
          · rename_i hc
            split
            · exact stay
            · split
              · exact stay
              · exact go (hd_ne (.inl hc))
  have hrow : ∀ k, 4 * n + 3 ≤ k → Res l b 1 1 (regex_reader_row.f k ⟨l, b⟩) := by
    intro k hk
    cases k with
    | zero => omega
    | succ k =>
      rw [regex_reader_row.f]
      obtain ⟨ps', l', b', e, h1, h2, h3, _, h5⟩ := hrow0 k [] (by omega) (by simp [wts]; omega)
      rw [e]
      simp only [Option.bind_some]
      refine ⟨_, _, rfl, h1, h2, ?_, fun hb' => ?_⟩
      · simp only [wt, wts, List.length_nil] at h3 ⊢; omega
      · obtain ⟨k1, k2⟩ := h5 hb'
        exact ⟨k1, .row (k2 (fun _ h => by cases h))⟩
  have hch0 : ∀ k ps, 4 * n + 2 ≤ k → wts ps + 4 * n ≤ 1000000 → ResL l b ps 1 (regex_reader_choices.l0 k ps l b) := by
    intro k ps hk hw
    cases k with
    | zero => omega
    | succ k =>
      rw [regex_reader_choices.l0]
      by_cases hbb : b = true
      · rw [if_pos hbb]
        exact ⟨ps, l, b, rfl, Nat.le_refl _, hs, Nat.le_refl _, id, fun h => ⟨h, id⟩⟩
      · rw [if_neg hbb, peek_eq (by omega)]
        simp only [Option.bind_some]
        split
        · rename_i hc
          rw [next_eq (by omega), dsp_dsp]
          simp only [Option.bind_some]
          have hlt := tail_lt (hd_ne (.inl (by rw [hc]; decide)))
          obtain ⟨_, hr, _, _, _⟩ := ih _ (show (dsp l).tail.length < n by omega) (dsp l).tail b rfl (sgs_tail hs) (by omega)
          obtain ⟨p, r, e1, h1, h2, h3, h4⟩ := hr k (by omega)
          rw [e1]
          simp only [Option.bind_some]
          have hpl := wts_len ps
          rw [app_small (by simp; omega) (by decide)]
          simp only [Option.bind_some]
          have hwq : wts (ps ++ [p]) = wts ps + wt p := by rw [wts_app]; simp [wts]
          obtain ⟨_, _, g, _, _⟩ := ih _ (show r.rest.length < n by omega) r.rest r.bad rfl h2 (by omega)
          obtain ⟨ps', l', b', e3, g1, g2, g3, g4, g5⟩ := g k (ps ++ [p]) (by omega) (by omega)
          refine ⟨ps', l', b', e3, by omega, g2, by omega, fun _ => g4 (by simp), fun hb' => ?_⟩
          obtain ⟨k1, k2⟩ := g5 hb'
          obtain ⟨k3, k4⟩ := h4 k1
          refine ⟨k3, fun hps => k2 fun x hx => ?_⟩
          rcases List.mem_append.1 hx with hx | hx
          · exact hps x hx
          · simp at hx; subst hx; exact k4
        · exact ⟨ps, dsp l, b, rfl, dl, hsd, by omega, id, fun h => ⟨h, id⟩⟩
  have hch : ∀ k, 4 * n + 4 ≤ k → Res l b 2 2 (regex_reader_choices.f k ⟨l, b⟩) := by
    intro k hk
    cases k with
    | zero => omega
    | succ k =>
      rw [regex_reader_choices.f]
      obtain ⟨p, r, e1, h1, h2, h3, h4⟩ := hrow k (by omega)
      rw [e1]
      simp only [Option.bind_some]
      have key : ResL r.rest r.bad [p] 1 (regex_reader_choices.l0 k [p] r.rest r.bad) := by
        by_cases hr : r.rest.length < n
        · obtain ⟨_, _, g, _, _⟩ := ih _ hr r.rest r.bad rfl h2 (by omega)
          exact g k [p] (by omega) (by simp only [wts]; omega)
        · -- nothing was taken: the same length
          have hl : r.rest.length = n := by omega
          clear hrow0 hrow hch0
          -- the loop by itself, at this length
          cases k with
          | zero => omega
          | succ k =>
            rw [regex_reader_choices.l0]
            have hbnd : wts [p] + 4 * r.rest.length ≤ 4 * l.length + 1 := by simp only [wts]; omega
            by_cases hbb : r.bad = true
            · rw [if_pos hbb]
              exact ⟨[p], r.rest, r.bad, rfl, Nat.le_refl _, h2, Nat.le_refl _, id, fun h => ⟨h, id⟩⟩
            · rw [if_neg hbb, peek_eq (by omega)]
              simp only [Option.bind_some]
              have dl2 := dsp_len r.rest
              split
              · rename_i hc
                rw [next_eq (by omega), dsp_dsp]
                simp only [Option.bind_some]
                have hlt := tail_lt (hd_ne (.inl (by rw [hc]; decide)))
                obtain ⟨_, hr2, _, _, _⟩ := ih _ (show (dsp r.rest).tail.length < n by omega) (dsp r.rest).tail r.bad rfl (sgs_tail h2) (by omega)
                obtain ⟨p2, r2, e2, i1, i2, i3, i4⟩ := hr2 k (by omega)
                rw [e2]
                simp only [Option.bind_some]
                rw [app_small (by simp) (by decide)]
                simp only [Option.bind_some]
                have hwq : wts ([p] ++ [p2]) = wts [p] + wt p2 := by rw [wts_app]; simp [wts]
                obtain ⟨_, _, g, _, _⟩ := ih _ (show r2.rest.length < n by omega) r2.rest r2.bad rfl i2 (by omega)
                obtain ⟨ps', l', b', e3, g1, g2, g3, g4, g5⟩ := g k ([p] ++ [p2]) (by omega) (by omega)
                refine ⟨ps', l', b', e3, by omega, g2, by omega, fun _ => g4 (by simp), fun hb' => ?_⟩
                obtain ⟨k1, k2⟩ := g5 hb'
                obtain ⟨k3, k4⟩ := i4 k1
                refine ⟨k3, fun hps => k2 fun x hx => ?_⟩
                rcases List.mem_append.1 hx with hx | hx
                · exact hps x hx
                · simp at hx; subst hx; exact k4
              · exact ⟨[p], dsp r.rest, r.bad, rfl, dl2, sgs_dsp h2, by omega, id, fun h => ⟨h, id⟩⟩
      obtain ⟨ps', l', b', e, j1, j2, j3, j4, j5⟩ := key
      rw [e]
      simp only [Option.bind_some]
      refine ⟨_, _, rfl, by show l'.length ≤ _; omega, j2, ?_, fun hb' => ?_⟩
      · simp only [wt, wts, List.length_nil] at j3 h3 ⊢; omega
      · obtain ⟨k1, k2⟩ := j5 hb'
        obtain ⟨k3, k4⟩ := h4 k1
        exact ⟨k3, .choice (j4 (by simp)) (k2 fun x hx => by simp at hx; subst hx; exact k4)⟩
  refine ⟨hrow0, hrow, hch0, hch, ?_⟩
  intro k x hk hx
  cases k with
  | zero => omega
  | succ k =>
    rw [regex_reader_atom.f]
    have one : ∀ (p : T_regex_piece), wt p ≤ 2 → WF 0 p → Res l b 0 3 (some (p, ⟨l, b⟩)) := fun p hp hw => ⟨p, ⟨l, b⟩, rfl, Nat.le_refl _, hs, by show wt p + 4 * l.length ≤ _; omega, fun h => ⟨h, hw⟩⟩
    split
    · rename_i hdg
      exact one _ (by simp [wt, wts]) (.num (hx.1 hdg).1)
    · split
      · exact one _ (by simp [wt, wts]) .any
      · split
        · exact one _ (by simp [wt, wts]) .start
        · split
          · exact one _ (by simp [wt, wts]) .stop
          · split
            · obtain ⟨p, r, e, h1, h2, h3, h4⟩ := set_ok (k := k) (l := l) (b := b) (by omega) hs hb
              rw [e]
              exact ⟨p, r, rfl, h1, h2, by omega, h4⟩
            · split
              · obtain ⟨p, r, e, h1, h2, h3, h4⟩ := hch k (by omega)
                rw [e]
                simp only [Option.bind_some]
                split
                · exact ⟨p, ⟨r.rest, true⟩, rfl, h1, h2, by show wt p + 4 * r.rest.length ≤ _; omega, fun h => by cases h⟩
                · rename_i hbb
                  have hn := next_eq (k := k) (l := r.rest) (b := r.bad) (by omega)
                  rw [show (⟨r.rest, r.bad⟩ : T_regex_reader) = r from rfl] at hn
                  rw [hn]
                  simp only [Option.bind_some]
                  have ht := tail_len r.rest
                  refine ⟨p, _, rfl, by show (dsp r.rest).tail.length ≤ _; omega, sgs_tail h2, by show wt p + 4 * (dsp r.rest).tail.length ≤ _; omega, fun _ => ?_⟩
                  obtain ⟨k1, k2⟩ := h4 (by simpa using hbb)
                  exact ⟨k1, .par k2⟩
              · exact ⟨⟨0, [], [], false⟩, ⟨l, true⟩, rfl, Nat.le_refl _, hs, by simp [wt, wts]; omega, fun h => by cases h⟩

theorem all_ok (n : Nat) : AllN n := Nat.strongRecOn n fun n ih => all_n n ih

theorem choices_ok {k : Nat} {l : List T_regex_sign} {b : Bool} (h : 4 * l.length + 4 ≤ k) (hs : sgs l) (hb : l.length ≤ 100000) : Res l b 2 2 (regex_reader_choices.f k ⟨l, b⟩) :=
  (all_ok l.length l b rfl hs hb).2.2.2.1 k h
end Go.Proofs.YtkkflfmonidepaaDoor
