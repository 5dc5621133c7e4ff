/-
  A PATTERN THAT IS READ TO ITS END IS READ THE SAME AHEAD OF A CLOSING SIGN: rows, choices, atoms.
-/
import Derived.Test.YtkkflfmonidepaaDoorP15
namespace Go.Proofs.YtkkflfmonidepaaDoor
open Sp
set_option maxRecDepth 100000
set_option maxHeartbeats 4000000

theorem row0_bad {k : Nat} {l l' : List T_regex_sign} {b : Bool} {ps ps' : List T_regex_piece} (hs : sgs l) (hb : l.length ≤ 100000) (hk : 4 * l.length + 2 ≤ k) (hw : wts ps + 4 * l.length ≤ 1000000) (h : regex_reader_row.l0 k ps l b = some (ps', l', false)) : b = false ∧ wts ps' + 4 * l'.length ≤ wts ps + 4 * l.length ∧ sgs l' ∧ l'.length ≤ l.length := by
  obtain ⟨h1, _⟩ := all_ok l.length l b rfl hs hb
  obtain ⟨a, c, d, e, e1, e2, e3, _, e4⟩ := h1 k ps hk hw
  rw [e] at h
  simp only [Option.some.injEq, Prod.mk.injEq] at h
  obtain ⟨rfl, rfl, rfl⟩ := h
  exact ⟨(e4 rfl).1, e3, e2, e1⟩
theorem ch0_bad {k : Nat} {l l' : List T_regex_sign} {b : Bool} {ps ps' : List T_regex_piece} (hs : sgs l) (hb : l.length ≤ 100000) (hk : 4 * l.length + 2 ≤ k) (hw : wts ps + 4 * l.length ≤ 1000000) (h : regex_reader_choices.l0 k ps l b = some (ps', l', false)) : b = false := by
  obtain ⟨_, _, h1, _⟩ := all_ok l.length l b rfl hs hb
  obtain ⟨a, c, d, e, _, _, _, _, e4⟩ := h1 k ps hk hw
  rw [e] at h
  simp only [Option.some.injEq, Prod.mk.injEq] at h
  obtain ⟨rfl, rfl, rfl⟩ := h
  exact (e4 rfl).1
theorem res_inv {l : List T_regex_sign} {b : Bool} {kd c : Nat} {o : Option (T_regex_piece × T_regex_reader)} (h : Res l b kd c o) {p : T_regex_piece} {r : T_regex_reader} (he : o = some (p, r)) : r.rest.length ≤ l.length ∧ sgs r.rest ∧ wt p + 4 * r.rest.length ≤ 4 * l.length + c := by
  obtain ⟨p', r', e, h1, h2, h3, _⟩ := h
  rw [he] at e
  simp only [Option.some.injEq, Prod.mk.injEq] at e
  obtain ⟨rfl, rfl⟩ := e
  exact ⟨h1, h2, h3⟩

section
variable {X rest0 : List T_regex_sign}

def E1 (X : List T_regex_sign) (n : Nat) : Prop := ∀ (l : List T_regex_sign), l.length = n → sgs l → (l ++ X).length ≤ 100000 → ∀ (k1 k2 : Nat) (ps ps' : List T_regex_piece) (l' : List T_regex_sign), 4 * n + 2 ≤ k1 → 4 * (l ++ X).length + 2 ≤ k2 → wts ps + 4 * n ≤ 600000 →
  regex_reader_row.l0 k1 ps l false = some (ps', l', false) → regex_reader_row.l0 k2 ps (l ++ X) false = some (ps', l' ++ X, false)
def E2 (X : List T_regex_sign) (n : Nat) : Prop := ∀ (l : List T_regex_sign), l.length = n → sgs l → (l ++ X).length ≤ 100000 → ∀ (k1 k2 : Nat) (p : T_regex_piece) (r : T_regex_reader), 4 * n + 3 ≤ k1 → 4 * (l ++ X).length + 3 ≤ k2 →
  regex_reader_row.f k1 ⟨l, false⟩ = some (p, r) → r.bad = false → regex_reader_row.f k2 ⟨l ++ X, false⟩ = some (p, ⟨r.rest ++ X, false⟩)
def E3 (X : List T_regex_sign) (n : Nat) : Prop := ∀ (l : List T_regex_sign), l.length = n → sgs l → (l ++ X).length ≤ 100000 → ∀ (k1 k2 : Nat) (ps ps' : List T_regex_piece) (l' : List T_regex_sign), 4 * n + 2 ≤ k1 → 4 * (l ++ X).length + 2 ≤ k2 → wts ps + 4 * n ≤ 600000 →
  regex_reader_choices.l0 k1 ps l false = some (ps', l', false) → regex_reader_choices.l0 k2 ps (l ++ X) false = some (ps', l' ++ X, false)
def E4 (X : List T_regex_sign) (n : Nat) : Prop := ∀ (l : List T_regex_sign), l.length = n → sgs l → (l ++ X).length ≤ 100000 → ∀ (k1 k2 : Nat) (p : T_regex_piece) (r : T_regex_reader), 4 * n + 4 ≤ k1 → 4 * (l ++ X).length + 4 ≤ k2 →
  regex_reader_choices.f k1 ⟨l, false⟩ = some (p, r) → r.bad = false → regex_reader_choices.f k2 ⟨l ++ X, false⟩ = some (p, ⟨r.rest ++ X, false⟩)
def E5 (X : List T_regex_sign) (n : Nat) : Prop := ∀ (l : List T_regex_sign), l.length = n → sgs l → (l ++ X).length ≤ 100000 → ∀ (k1 k2 : Nat) (x : T_regex_sign) (p : T_regex_piece) (r : T_regex_reader), 4 * n + 5 ≤ k1 → 4 * (l ++ X).length + 5 ≤ k2 → signOk x →
  regex_reader_atom.f k1 ⟨l, false⟩ x = some (p, r) → r.bad = false → regex_reader_atom.f k2 ⟨l ++ X, false⟩ x = some (p, ⟨r.rest ++ X, false⟩)

theorem e1 (hX : X = sgn 41 :: rest0) (n : Nat) (i1 : ∀ m, m < n → E1 X m) (i5 : ∀ m, m < n → E5 X m) : E1 X n := by
  intro l hn hs hl k1 k2 ps ps' l' h1 h2 hw h
  have hlX : (l ++ X).length = l.length + X.length := List.length_append
  cases k1 with
  | zero => omega
  | succ k1 =>
    cases k2 with
    | zero => omega
    | succ k2 =>
      rw [regex_reader_row.l0, if_neg (by decide), peek_eq (by omega), Option.bind_some] at h
      rw [regex_reader_row.l0, if_neg (by decide), peek_eq (by omega), Option.bind_some]
      have dl := dsp_len l
      have dlx := dsp_len (l ++ X)
      rcases hd_app hX l with ⟨d1, d2, d3⟩ | ⟨d1, d2⟩
      · rw [d3, if_neg (show ¬ false = true by decide), if_pos (show (0 : Int) = 0 from rfl)] at h
        rw [d2, if_neg (show ¬ false = true by decide), if_neg (show ¬ (41 : Int) = 0 by decide), if_neg (show ¬ (41 : Int) = 124 by decide), if_pos (show (41 : Int) = 41 from rfl)]
        simp only [Option.some.injEq, Prod.mk.injEq] at h
        obtain ⟨rfl, rfl, _⟩ := h
        rw [dsp_app hX]
      · rw [next_eq (by omega), dsp_dsp, Option.bind_some] at h
        rw [next_eq (by omega), dsp_dsp, tail_app hX d1, Option.bind_some, d2]
        simp only at h ⊢
        have hlt := tail_lt d1
        have hst := sgs_tail hs
        have hok := hd_ok (sgs_dsp hs) d1
        have stay : some (ps, dsp l, false) = some (ps', l', false) → some (ps, dsp (l ++ X), false) = some (ps', l' ++ X, false) := fun h => by
          simp only [Option.some.injEq, Prod.mk.injEq] at h
          obtain ⟨rfl, rfl, _⟩ := h
          rw [dsp_app hX]
        have htX : ((dsp l).tail ++ X).length = (dsp l).tail.length + X.length := List.length_append
        have go : ((regex_reader_atom.f k1 ⟨(dsp l).tail, false⟩ (hd (dsp l))).bind fun y38 => ((regex_reader_repeats.f k1 y38.2 y38.1).bind fun y42 => ((Sp.app 64 ps [y42.1]).bind fun l50 => (regex_reader_row.l0 k1 l50 y42.2.rest y42.2.bad)))) = some (ps', l', false) →
            ((regex_reader_atom.f k2 ⟨(dsp l).tail ++ X, false⟩ (hd (dsp l))).bind fun y38 => ((regex_reader_repeats.f k2 y38.2 y38.1).bind fun y42 => ((Sp.app 64 ps [y42.1]).bind fun l50 => (regex_reader_row.l0 k2 l50 y42.2.rest y42.2.bad)))) = some (ps', l' ++ X, false) := by
          intro h
          obtain ⟨⟨p, r⟩, a1, h⟩ := obx h
          simp only at h
          obtain ⟨⟨q, r2⟩, a2, h⟩ := obx h
          obtain ⟨l50, a3, h⟩ := obx h
          simp only at h a3
          obtain ⟨_, _, _, _, hat⟩ := all_ok (dsp l).tail.length (dsp l).tail false rfl hst (by omega)
          obtain ⟨g1, g2, g3⟩ := res_inv (hat k1 (hd (dsp l)) (by omega) hok) a1
          obtain ⟨q', r', b1, b2, b3, b4, b5, _⟩ := repeats_ok (k := k1) (p := p) (l := r.rest) (b := r.bad) (by omega) g2
          rw [show (⟨r.rest, r.bad⟩ : T_regex_reader) = r from rfl, a2] at b1
          simp only [Option.some.injEq, Prod.mk.injEq] at b1
          obtain ⟨rfl, rfl⟩ := b1
          obtain ⟨_, _, rfl⟩ := app_ok a3
          have hwq : wts (ps ++ [q]) = wts ps + wt q := by rw [wts_app]; simp [wts]
          obtain ⟨c1', _, _, _⟩ := row0_bad b4 (by omega) (by omega) (by omega) h
          have hrb : r.bad = false := by rw [← b3, c1']
          have x1 := i5 _ (show (dsp l).tail.length < n by omega) (dsp l).tail rfl hst (by omega) k1 k2 _ p r (by omega) (by omega) hok a1 hrb
          rw [x1, Option.bind_some]
          simp only
          have hrX : (r.rest ++ X).length = r.rest.length + X.length := List.length_append
          have hr2X : (r2.rest ++ X).length = r2.rest.length + X.length := List.length_append
          have x2 : regex_reader_repeats.f k2 ⟨r.rest ++ X, false⟩ p = some (q, ⟨r2.rest ++ X, false⟩) := by
            rw [regex_reader_repeats.f] at a2 ⊢
            obtain ⟨o, ho, a2⟩ := obx a2
            cases o with
            | inr _ => cases a2
            | inl o =>
              obtain rfl := Option.some.inj a2
              rw [hrb] at ho
              simp only
              rw [repx hX k1 k2 p q r.rest r2 (by omega) (by omega) ho]
              rfl
          rw [x2, Option.bind_some, a3, Option.bind_some]
          rw [c1'] at h
          exact i1 _ (show r2.rest.length < n by omega) r2.rest rfl b4 (by omega) k1 k2 _ ps' l' (by omega) (by omega) (by omega) h
        split at h
        · rename_i hdg
          rw [if_pos hdg]
          exact go h
        · rename_i hdg
          rw [if_neg hdg]
          split at h
          · rename_i hc; rw [if_pos hc]; exact stay h
          · rename_i hc
            rw [if_neg hc]
            split at h
            · rename_i hc; rw [if_pos hc]; exact stay h
            · rename_i hc
              rw [if_neg hc]
              split at h
              · rename_i hc; rw [if_pos hc]; exact stay h
              · rename_i hc; rw [if_neg hc]; exact go h

theorem e2 (n : Nat) (i1 : E1 X n) : E2 X n := by
  intro l hn hs hl k1 k2 p r h1 h2 h hr
  cases k1 with
  | zero => omega
  | succ k1 =>
    cases k2 with
    | zero => omega
    | succ k2 =>
      rw [regex_reader_row.f] at h ⊢
      obtain ⟨⟨ps', l', b'⟩, a1, h⟩ := obx h
      simp only [Option.some.injEq, Prod.mk.injEq] at h
      obtain ⟨rfl, rfl⟩ := h
      obtain rfl : b' = false := hr
      have hn1 : n ≤ 100000 := by rw [List.length_append] at hl; omega
      simp only at a1 ⊢
      rw [i1 l hn hs hl k1 k2 [] ps' l' (by omega) (by omega) (by simp [wts]; omega) a1]
      rfl

theorem e3 (hX : X = sgn 41 :: rest0) (n : Nat) (i2 : ∀ m, m < n → E2 X m) (i3 : ∀ m, m < n → E3 X m) : E3 X n := by
  intro l hn hs hl k1 k2 ps ps' l' h1 h2 hw h
  have hlX : (l ++ X).length = l.length + X.length := List.length_append
  cases k1 with
  | zero => omega
  | succ k1 =>
    cases k2 with
    | zero => omega
    | succ k2 =>
      rw [regex_reader_choices.l0, if_neg (by decide), peek_eq (by omega), Option.bind_some] at h
      rw [regex_reader_choices.l0, if_neg (by decide), peek_eq (by omega), Option.bind_some]
      have dl := dsp_len l
      have dlx := dsp_len (l ++ X)
      have stay : some (ps, dsp l, false) = some (ps', l', false) → some (ps, dsp (l ++ X), false) = some (ps', l' ++ X, false) := fun h => by
        simp only [Option.some.injEq, Prod.mk.injEq] at h
        obtain ⟨rfl, rfl, _⟩ := h
        rw [dsp_app hX]
      rcases hd_app hX l with ⟨d1, d2, d3⟩ | ⟨d1, d2⟩
      · rw [d3, if_neg (show ¬ (0 : Int) = 124 by decide)] at h
        rw [d2, if_neg (show ¬ (41 : Int) = 124 by decide)]
        exact stay h
      · rw [d2]
        split at h
        · rename_i hc
          rw [if_pos hc]
          rw [next_eq (by omega), dsp_dsp, Option.bind_some] at h
          rw [next_eq (by omega), dsp_dsp, tail_app hX d1, Option.bind_some]
          simp only at h ⊢
          have hlt := tail_lt d1
          have hst := sgs_tail hs
          have htX : ((dsp l).tail ++ X).length = (dsp l).tail.length + X.length := List.length_append
          obtain ⟨⟨p, r⟩, a1, h⟩ := obx h
          obtain ⟨l52, a3, h⟩ := obx h
          simp only at h a3
          obtain ⟨_, hrw, _⟩ := all_ok (dsp l).tail.length (dsp l).tail false rfl hst (by omega)
          obtain ⟨g1, g2, g3⟩ := res_inv (hrw k1 (by omega)) a1
          obtain ⟨_, _, rfl⟩ := app_ok a3
          have hwq : wts (ps ++ [p]) = wts ps + wt p := by rw [wts_app]; simp [wts]
          have hrb := ch0_bad g2 (by omega) (by omega) (by omega) h
          have x1 := i2 _ (show (dsp l).tail.length < n by omega) (dsp l).tail rfl hst (by omega) k1 k2 p r (by omega) (by omega) a1 hrb
          rw [x1, Option.bind_some]
          simp only
          rw [a3, Option.bind_some]
          rw [hrb] at h
          have hrX : (r.rest ++ X).length = r.rest.length + X.length := List.length_append
          exact i3 _ (show r.rest.length < n by omega) r.rest rfl g2 (by omega) k1 k2 _ ps' l' (by omega) (by omega) (by omega) h
        · rename_i hc
          rw [if_neg hc]
          exact stay h

theorem e4 (n : Nat) (i2 : E2 X n) (i3 : ∀ m, m ≤ n → E3 X m) : E4 X n := by
  intro l hn hs hl k1 k2 p r h1 h2 h hr
  have hlX : (l ++ X).length = l.length + X.length := List.length_append
  cases k1 with
  | zero => omega
  | succ k1 =>
    cases k2 with
    | zero => omega
    | succ k2 =>
      rw [regex_reader_choices.f] at h ⊢
      obtain ⟨⟨p1, r1⟩, a1, h⟩ := obx h
      obtain ⟨⟨ps', l', b'⟩, a2, h⟩ := obx h
      simp only [Option.some.injEq, Prod.mk.injEq] at h a2
      obtain ⟨rfl, rfl⟩ := h
      obtain rfl : b' = false := hr
      obtain ⟨_, hrw, _⟩ := all_ok l.length l false rfl hs (by omega)
      obtain ⟨g1, g2, g3⟩ := res_inv (hrw k1 (by omega)) a1
      have hw1 : wts [p1] = wt p1 := by simp [wts]
      have hrb := ch0_bad g2 (by omega) (by omega) (by omega) a2
      rw [i2 l hn hs hl k1 k2 p1 r1 (by omega) (by omega) a1 hrb, Option.bind_some]
      simp only
      rw [hrb] at a2
      have hrX : (r1.rest ++ X).length = r1.rest.length + X.length := List.length_append
      rw [i3 _ (show r1.rest.length ≤ n by omega) r1.rest rfl g2 (by omega) k1 k2 _ ps' l' (by omega) (by omega) (by omega) a2]
      rfl

theorem e5 (hX : X = sgn 41 :: rest0) (n : Nat) (i4 : E4 X n) : E5 X n := by
  intro l hn hs hl k1 k2 x p r h1 h2 hx h hr
  have hlX : (l ++ X).length = l.length + X.length := List.length_append
  have hXl : 1 ≤ X.length := by subst hX; simp
  cases k1 with
  | zero => omega
  | succ k1 =>
    cases k2 with
    | zero => omega
    | succ k2 =>
      rw [regex_reader_atom.f] at h ⊢
      have one : ∀ {q : T_regex_piece}, some (q, (⟨l, false⟩ : T_regex_reader)) = some (p, r) → some (q, (⟨l ++ X, false⟩ : T_regex_reader)) = some (p, ⟨r.rest ++ X, false⟩) := fun h => by
        simp only [Option.some.injEq, Prod.mk.injEq] at h
        obtain ⟨rfl, rfl⟩ := h
        rfl
      split at h
      · rename_i hc; rw [if_pos hc]; exact one h
      · rename_i hc
        rw [if_neg hc]
        split at h
        · rename_i hc; rw [if_pos hc]; exact one h
        · rename_i hc
          rw [if_neg hc]
          split at h
          · rename_i hc; rw [if_pos hc]; exact one h
          · rename_i hc
            rw [if_neg hc]
            split at h
            · rename_i hc; rw [if_pos hc]; exact one h
            · rename_i hc
              rw [if_neg hc]
              split at h
              · rename_i hc
                rw [if_pos hc]
                obtain ⟨⟨q, u⟩, a1, h⟩ := obx h
                simp only [Option.some.injEq, Prod.mk.injEq] at h
                obtain ⟨rfl, rfl⟩ := h
                rw [setx hX hs (by omega) (by omega) (by omega) a1 hr]
                rfl
              · rename_i hc
                rw [if_neg hc]
                split at h
                · rename_i hc
                  rw [if_pos hc]
                  obtain ⟨⟨q, u⟩, a1, h⟩ := obx h
                  simp only at h
                  split at h
                  · simp only [Option.some.injEq, Prod.mk.injEq] at h
                    rw [← h.2] at hr
                    cases hr
                  · rename_i hub
                    have hub' : u.bad = false := by simpa using hub
                    obtain ⟨_, _, _, hch, _⟩ := all_ok l.length l false rfl hs (by omega)
                    obtain ⟨g1, g2, g3⟩ := res_inv (hch k1 (by omega)) a1
                    rw [i4 l hn hs hl k1 k2 q u (by omega) (by omega) a1 hub', Option.bind_some]
                    simp only
                    rw [if_neg (show ¬ false = true by decide)]
                    have hn1 := next_eq (k := k1) (l := u.rest) (b := u.bad) (by omega)
                    rw [show (⟨u.rest, u.bad⟩ : T_regex_reader) = u from rfl] at hn1
                    rw [hn1, Option.bind_some] at h
                    have huX : (u.rest ++ X).length = u.rest.length + X.length := List.length_append
                    rw [next_eq (by omega), Option.bind_some]
                    simp only [Option.some.injEq, Prod.mk.injEq] at h
                    obtain ⟨rfl, rfl⟩ := h
                    simp only at hr
                    rcases hd_app hX u.rest with ⟨d1, d2, d3⟩ | ⟨d1, d2⟩
                    · rw [d3] at hr
                      exact absurd hr (by decide)
                    · rw [tail_app hX d1, d2]
                      simp only [hr]
                · rename_i hc
                  simp only [Option.some.injEq, Prod.mk.injEq] at h
                  rw [← h.2] at hr
                  cases hr

theorem e_all (hX : X = sgn 41 :: rest0) (n : Nat) : E1 X n ∧ E2 X n ∧ E3 X n ∧ E4 X n ∧ E5 X n := by
  induction n using Nat.strongRecOn with
  | ind n ih =>
    have h1 := e1 hX n (fun m hm => (ih m hm).1) (fun m hm => (ih m hm).2.2.2.2)
    have h2 := e2 n h1
    have h3 := e3 hX n (fun m hm => (ih m hm).2.1) (fun m hm => (ih m hm).2.2.1)
    have h4 := e4 n h2 (fun m hm => by
      rcases Nat.lt_or_eq_of_le hm with h | rfl
      · exact (ih m h).2.2.1
      · exact h3)
    exact ⟨h1, h2, h3, h4, e5 hX n h4⟩
end

/-- Choices that are read to the signs' end. -/
theorem choices_ext {k1 k2 : Nat} {l rest0 : List T_regex_sign} {p : T_regex_piece} {r : T_regex_reader} (hs : sgs l) (hl : (l ++ sgn 41 :: rest0).length ≤ 100000) (h1 : 4 * l.length + 4 ≤ k1) (h2 : 4 * (l ++ sgn 41 :: rest0).length + 4 ≤ k2)
    (h : regex_reader_choices.f k1 ⟨l, false⟩ = some (p, r)) (hr : r.bad = false) : regex_reader_choices.f k2 ⟨l ++ sgn 41 :: rest0, false⟩ = some (p, ⟨r.rest ++ sgn 41 :: rest0, false⟩) :=
  (e_all (X := sgn 41 :: rest0) rfl l.length).2.2.2.1 l rfl hs hl k1 k2 p r h1 h2 h hr
end Go.Proofs.YtkkflfmonidepaaDoor
