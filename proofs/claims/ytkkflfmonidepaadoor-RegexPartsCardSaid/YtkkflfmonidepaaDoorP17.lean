/-
  A PATTERN OF A TEXT WITHOUT ^ AND $ HAS NO ENDS IN IT; what such a piece takes is a matter of that part of the list alone.
-/
import Derived.Test.YtkkflfmonidepaaDoorP16
namespace Go.Proofs.YtkkflfmonidepaaDoor
open Sp
set_option maxRecDepth 100000
set_option maxHeartbeats 4000000

mutual
def na : T_regex_piece → Bool
  | ⟨k, ps, _, _⟩ => decide (¬ k = 5 ∧ ¬ k = 6) && nas ps
def nas : List T_regex_piece → Bool
  | [] => true
  | p :: ps => na p && nas ps
end
theorem nas_app : ∀ a b, nas (a ++ b) = (nas a && nas b)
  | [], b => by simp [nas]
  | x :: a, b => by simp only [List.cons_append, nas, nas_app a b, Bool.and_assoc]
theorem nas_mem : ∀ {l : List T_regex_piece}, nas l = true → ∀ x ∈ l, na x = true
  | [], _, _, h => by cases h
  | y :: l, h, x, hx => by
    simp only [nas, Bool.and_eq_true] at h
    rcases List.mem_cons.1 hx with rfl | hx
    · exact h.1
    · exact nas_mem h.2 x hx
theorem na_kind {p : T_regex_piece} (h : na p = true) : ¬ p.kind = 5 ∧ ¬ p.kind = 6 := by
  obtain ⟨k, ps, _, _⟩ := p
  simp only [na, Bool.and_eq_true, decide_eq_true_eq] at h
  exact h.1
theorem na_parts {p : T_regex_piece} (h : na p = true) : nas p.parts = true := by
  obtain ⟨k, ps, _, _⟩ := p
  simp only [na, Bool.and_eq_true] at h
  exact h.2

/-- Signs without ends. -/
def nt (l : List T_regex_sign) : Prop := ∀ x ∈ l, ¬ x.c = 94 ∧ ¬ x.c = 36
theorem nt_dsp : ∀ {l}, nt l → nt (dsp l)
  | [], h => h
  | x :: l, h => by
    unfold dsp; split
    · exact nt_dsp fun y hy => h y (List.mem_cons_of_mem _ hy)
    · exact h
theorem nt_tail {l} (h : nt l) : nt (dsp l).tail := fun x hx => nt_dsp h x (List.mem_of_mem_tail hx)
theorem nt_hd {l} (h : nt l) : ¬ (hd (dsp l)).c = 94 ∧ ¬ (hd (dsp l)).c = 36 := by
  have h1 := nt_dsp h
  cases hd' : dsp l with
  | nil => exact ⟨by decide, by decide⟩
  | cons x t => rw [hd'] at h1; exact h1 x (List.mem_cons_self ..)

theorem peek_l0_inv : ∀ (k : Nat) (l r : List T_regex_sign), regex_reader_peek.l0 k l = some r → r = dsp l
  | 0, _, _, h => by rw [regex_reader_peek.l0] at h; cases h
  | k + 1, [], r, h => by rw [regex_reader_peek.l0] at h; rw [if_neg (by decide)] at h; exact (Option.some.inj h).symm
  | k + 1, x :: l, r, h => by
    rw [regex_reader_peek.l0, if_pos (by simp), show lat (x :: l) 0 = some x from rfl, Option.bind_some] at h
    unfold dsp
    split at h
    · rename_i hc
      rw [if_pos hc]
      have h2 : cutL (x :: l) 1 = some l := by simp [cutL]; omega
      rw [h2, Option.bind_some] at h
      exact peek_l0_inv k l r h
    · rename_i hc
      rw [if_neg hc]
      exact (Option.some.inj h).symm
theorem peek_inv {k : Nat} {x : T_regex_reader} {y : T_regex_sign × T_regex_reader} (h : regex_reader_peek.f k x = some y) : y.1 = hd (dsp x.rest) ∧ y.2.rest = dsp x.rest := by
  rw [regex_reader_peek.f] at h
  obtain ⟨l, h1, h⟩ := obx h
  obtain rfl := peek_l0_inv _ _ _ h1
  cases hd' : dsp x.rest with
  | nil =>
    rw [hd', if_pos (by rfl)] at h
    obtain rfl := Option.some.inj h
    exact ⟨rfl, rfl⟩
  | cons z t =>
    rw [hd', if_neg (by simp; omega), show lat (z :: t) 0 = some z from rfl, Option.bind_some] at h
    obtain rfl := Option.some.inj h
    exact ⟨rfl, rfl⟩
theorem next_inv {k : Nat} {x : T_regex_reader} {y : T_regex_sign × T_regex_reader} (h : regex_reader_next.f k x = some y) : y.1 = hd (dsp x.rest) ∧ y.2.rest = (dsp x.rest).tail := by
  rw [regex_reader_next.f] at h
  obtain ⟨u, h1, h⟩ := obx h
  obtain ⟨e1, e2⟩ := peek_inv h1
  rw [e2] at h
  cases hd' : dsp x.rest with
  | nil =>
    rw [hd'] at h e1 e2
    rw [if_neg (by decide)] at h
    obtain rfl := Option.some.inj h
    exact ⟨e1, by show u.2.rest = _; rw [e2]; rfl⟩
  | cons z t =>
    rw [hd'] at h e1 e2
    rw [if_pos (by simp), show cutL (z :: t) 1 = some t by simp [cutL]; omega, Option.bind_some] at h
    obtain rfl := Option.some.inj h
    exact ⟨e1, rfl⟩

theorem na_rep : ∀ (k : Nat) (q p : T_regex_piece) (l : List T_regex_sign) (b : Bool) (r : T_regex_reader), na q = true → nt l → regex_reader_repeats.l0 k q.kind q.parts q.spans q.not l b = some (.inl (p, r)) → na p = true ∧ nt r.rest
  | 0, _, _, _, _, _, _, _, h => by rw [regex_reader_repeats.l0] at h; cases h
  | k + 1, q, p, l, b, r, hq, hl, h => by
    rw [regex_reader_repeats.l0] at h
    obtain ⟨y, h1, h⟩ := obx h
    obtain ⟨e1, e2⟩ := peek_inv h1
    simp only at e1 e2
    have more : ∀ c : Int, (¬ c = 5 ∧ ¬ c = 6) → ∀ z : T_regex_sign × T_regex_reader, regex_reader_next.f k y.2 = some z → regex_reader_repeats.l0 k c [(T_regex_piece.mk q.kind q.parts q.spans q.not)] [] false z.2.rest z.2.bad = some (.inl (p, r)) → na p = true ∧ nt r.rest := by
      intro c hc z hz hh
      obtain ⟨_, e3⟩ := next_inv hz
      refine na_rep k ⟨c, [⟨q.kind, q.parts, q.spans, q.not⟩], [], false⟩ p z.2.rest z.2.bad r ?_ (by rw [e3, e2]; exact nt_tail (nt_dsp hl)) hh
      obtain ⟨_, _, _, _⟩ := q
      simp only [na, nas, Bool.and_true, Bool.and_eq_true, decide_eq_true_eq] at hq ⊢
      exact ⟨hc, hq⟩
    split at h
    · obtain ⟨z, h2, h⟩ := obx h
      exact more 7 (by decide) z h2 h
    · split at h
      · obtain ⟨z, h2, h⟩ := obx h
        exact more 8 (by decide) z h2 h
      · split at h
        · obtain ⟨z, h2, h⟩ := obx h
          exact more 9 (by decide) z h2 h
        · simp only [Option.some.injEq, Sum.inl.injEq, Prod.mk.injEq] at h
          obtain ⟨rfl, rfl⟩ := h
          exact ⟨by obtain ⟨_, _, _, _⟩ := q; exact hq, by rw [e2]; exact nt_dsp hl⟩

theorem nt_set1 : ∀ (k : Nat) (l l1 : List T_regex_sign) (b b1 : Bool), nt l → regex_reader_set.l1 k l b = some (l1, b1) → nt l1
  | 0, _, _, _, _, _, h => by rw [regex_reader_set.l1] at h; cases h
  | k + 1, l, l1, b, b1, hl, h => by
    rw [regex_reader_set.l1] at h
    obtain ⟨y, h1, h⟩ := obx h
    obtain ⟨e1, e2⟩ := peek_inv h1
    simp only at e1 e2
    split at h
    · obtain ⟨z, h2, h⟩ := obx h
      obtain ⟨_, e3⟩ := next_inv h2
      exact nt_set1 k _ l1 _ b1 (by rw [e3, e2]; exact nt_tail (nt_dsp hl)) h
    · simp only [Option.some.injEq, Prod.mk.injEq] at h
      rw [← h.1, e2]
      exact nt_dsp hl

theorem na_set0 : ∀ (k : Nat) (nt' : Bool) (l : List T_regex_sign) (b : Bool) (ss : List T_regex_span) (p : T_regex_piece) (r : T_regex_reader), nt l → regex_reader_set.l0 k nt' l b ss = some (.inl (p, r)) → na p = true ∧ nt r.rest
  | 0, _, _, _, _, _, _, _, h => by rw [regex_reader_set.l0] at h; cases h
  | k + 1, nt', l, b, ss, p, r, hl, h => by
    rw [regex_reader_set.l0] at h
    obtain ⟨⟨l1, b1⟩, h1, h⟩ := obx h
    have hl1 := nt_set1 _ _ _ _ _ hl h1
    simp only at h
    obtain ⟨z, h2, h⟩ := obx h
    obtain ⟨_, e3⟩ := next_inv h2
    simp only at e3
    have hz : nt z.2.rest := by rw [e3]; exact nt_tail hl1
    have stop : ∀ (u : List T_regex_sign) (bb : Bool), nt u → (some (.inl ((T_regex_piece.mk 4 [] ss nt'), (T_regex_reader.mk u bb))) : Option (Sum (T_regex_piece × T_regex_reader) Unit)) = some (.inl (p, r)) → na p = true ∧ nt r.rest := by
      intro u bb hu hh
      simp only [Option.some.injEq, Sum.inl.injEq, Prod.mk.injEq] at hh
      obtain ⟨rfl, rfl⟩ := hh
      exact ⟨rfl, hu⟩
    have go : ∀ (u : List T_regex_sign) (bb : Bool) (s : T_regex_span), nt u → ((Sp.app 8 ss [s]).bind fun l110 => regex_reader_set.l0 k nt' u bb l110) = some (.inl (p, r)) → na p = true ∧ nt r.rest := by
      intro u bb s hu hh
      obtain ⟨l2, h3, hh⟩ := obx hh
      exact na_set0 k nt' u bb l2 p r hu hh
    split at h
    · split at h
      · obtain ⟨y, h3, h⟩ := obx h
        obtain ⟨o, h4, h⟩ := obx h
        have ho : match o with | .inl x => na x.1 = true ∧ nt x.2.rest | .inr x => nt x.2.2.2.1 := by
          split at h4
          · obtain ⟨w, h5, h4⟩ := obx h4
            obtain ⟨_, e5⟩ := next_inv h5
            have hw : nt w.2.rest := by rw [e5]; exact nt_tail hz
            split at h4
            · obtain rfl := Option.some.inj h4
              exact ⟨rfl, hw⟩
            · obtain ⟨v, h6, h4⟩ := obx h4
              split at h4
              · obtain ⟨w2, h7, h4⟩ := obx h4
                obtain ⟨_, e7⟩ := next_inv h7
                obtain rfl := Option.some.inj h4
                show nt w2.2.rest
                rw [e7]
                exact nt_tail hw
              · obtain rfl := Option.some.inj h4
                exact ⟨rfl, hw⟩
          · obtain rfl := Option.some.inj h4
            exact hz
        cases o with
        | inl x =>
          simp only [Option.some.injEq, Sum.inl.injEq] at h
          subst h
          exact ho
        | inr x =>
          obtain ⟨n77, n78, b79, l80, b83⟩ := x
          simp only at h ho
          split at h
          · exact go _ _ _ ho h
          · exact go _ _ _ ho h
      · split at h
        · exact go _ _ _ hz h
        · exact go _ _ _ hz h
    · split at h
      · exact stop _ _ hz h
      · split at h
        · exact stop _ _ hz h
        · exact stop _ _ hz h
theorem na_set {k : Nat} {x : T_regex_reader} {p : T_regex_piece} {r : T_regex_reader} (hl : nt x.rest) (h : regex_reader_set.f k x = some (p, r)) : na p = true ∧ nt r.rest := by
  rw [regex_reader_set.f] at h
  obtain ⟨y, h1, h⟩ := obx h
  obtain ⟨_, e1⟩ := peek_inv h1
  have hy : nt y.2.rest := by rw [e1]; exact nt_dsp hl
  obtain ⟨⟨l8, b11, b12⟩, h2, h⟩ := obx h
  have h8 : nt l8 := by
    split at h2
    · obtain ⟨z, h3, h2⟩ := obx h2
      obtain ⟨_, e3⟩ := next_inv h3
      simp only [Option.some.injEq, Prod.mk.injEq] at h2
      rw [← h2.1, e3]
      exact nt_tail hy
    · simp only [Option.some.injEq, Prod.mk.injEq] at h2
      rw [← h2.1]
      exact hy
  simp only at h
  obtain ⟨o, h3, h⟩ := obx h
  cases o with
  | inr _ => cases h
  | inl o =>
    obtain rfl := Option.some.inj h
    exact na_set0 _ _ _ _ _ _ _ h8 h3

def NaK (k : Nat) : Prop :=
  (∀ ps l b ps' l' b', nas ps = true → nt l → regex_reader_row.l0 k ps l b = some (ps', l', b') → nas ps' = true ∧ nt l') ∧
  (∀ x p r, nt x.rest → regex_reader_row.f k x = some (p, r) → na p = true ∧ nt r.rest) ∧
  (∀ ps l b ps' l' b', nas ps = true → nt l → regex_reader_choices.l0 k ps l b = some (ps', l', b') → nas ps' = true ∧ nt l') ∧
  (∀ x p r, nt x.rest → regex_reader_choices.f k x = some (p, r) → na p = true ∧ nt r.rest) ∧
  (∀ x s p r, nt x.rest → ¬ s.c = 94 ∧ ¬ s.c = 36 → regex_reader_atom.f k x s = some (p, r) → na p = true ∧ nt r.rest)

theorem na_all : ∀ k, NaK k
  | 0 => by
    refine ⟨?_, ?_, ?_, ?_, ?_⟩
    · intro ps l b ps' l' b' _ _ h; rw [regex_reader_row.l0] at h; cases h
    · intro x p r _ h; rw [regex_reader_row.f] at h; cases h
    · intro ps l b ps' l' b' _ _ h; rw [regex_reader_choices.l0] at h; cases h
    · intro x p r _ h; rw [regex_reader_choices.f] at h; cases h
    · intro x s p r _ _ h; rw [regex_reader_atom.f] at h; cases h
  | k + 1 => by
    obtain ⟨i1, i2, i3, i4, i5⟩ := na_all k
    have c1 : ∀ ps p, nas ps = true → na p = true → nas (ps ++ [p]) = true := fun ps p h1 h2 => by rw [nas_app, h1]; simp [nas, h2]
    refine ⟨?_, ?_, ?_, ?_, ?_⟩
    · intro ps l b ps' l' b' hps hl h
      rw [regex_reader_row.l0] at h
      split at h
      · simp only [Option.some.injEq, Prod.mk.injEq] at h
        rw [← h.1, ← h.2.1]
        exact ⟨hps, hl⟩
      · obtain ⟨y, h1, h⟩ := obx h
        obtain ⟨e1, e2⟩ := peek_inv h1
        simp only at e1 e2
        have hy : nt y.2.rest := by rw [e2]; exact nt_dsp hl
        have stay : some (ps, y.2.rest, y.2.bad) = some (ps', l', b') → nas ps' = true ∧ nt l' := fun h => by
          simp only [Option.some.injEq, Prod.mk.injEq] at h
          rw [← h.1, ← h.2.1]
          exact ⟨hps, hy⟩
        have go : ((regex_reader_next.f k y.2).bind fun y34 => ((regex_reader_atom.f k y34.2 y34.1).bind fun y38 => ((regex_reader_repeats.f k y38.2 y38.1).bind fun y42 => ((Sp.app 64 ps [y42.1]).bind fun l50 => (regex_reader_row.l0 k l50 y42.2.rest y42.2.bad))))) = some (ps', l', b') → nas ps' = true ∧ nt l' := by
          intro h
          obtain ⟨z, h2, h⟩ := obx h
          obtain ⟨e3, e4⟩ := next_inv h2
          obtain ⟨⟨p, r⟩, h3, h⟩ := obx h
          obtain ⟨f1, f2⟩ := i5 z.2 z.1 p r (by rw [e4]; exact nt_tail hy) (by rw [e3]; exact nt_hd hy) h3
          obtain ⟨⟨q, r2⟩, h4, h⟩ := obx h
          rw [regex_reader_repeats.f] at h4
          obtain ⟨o, h5, h4⟩ := obx h4
          cases o with
          | inr _ => cases h4
          | inl o =>
            obtain rfl := Option.some.inj h4
            obtain ⟨g1, g2⟩ := na_rep _ _ _ _ _ _ f1 f2 h5
            obtain ⟨l50, h6, h⟩ := obx h
            obtain ⟨_, _, rfl⟩ := app_ok h6
            exact i1 _ _ _ _ _ _ (c1 _ _ hps g1) g2 h
        split at h
        · exact go h
        · split at h
          · exact stay h
          · split at h
            · exact stay h
            · split at h
              · exact stay h
              · exact go h
    · intro x p r hl h
      rw [regex_reader_row.f] at h
      obtain ⟨⟨ps', l', b'⟩, h1, h⟩ := obx h
      obtain ⟨f1, f2⟩ := i1 _ _ _ _ _ _ rfl hl h1
      simp only [Option.some.injEq, Prod.mk.injEq] at h
      obtain ⟨rfl, rfl⟩ := h
      exact ⟨by simp [na, f1], f2⟩
    · intro ps l b ps' l' b' hps hl h
      rw [regex_reader_choices.l0] at h
      split at h
      · simp only [Option.some.injEq, Prod.mk.injEq] at h
        rw [← h.1, ← h.2.1]
        exact ⟨hps, hl⟩
      · obtain ⟨y, h1, h⟩ := obx h
        obtain ⟨e1, e2⟩ := peek_inv h1
        simp only at e1 e2
        have hy : nt y.2.rest := by rw [e2]; exact nt_dsp hl
        split at h
        · obtain ⟨z, h2, h⟩ := obx h
          obtain ⟨e3, e4⟩ := next_inv h2
          obtain ⟨⟨p, r⟩, h3, h⟩ := obx h
          obtain ⟨f1, f2⟩ := i2 z.2 p r (by rw [e4]; exact nt_tail hy) h3
          obtain ⟨l50, h6, h⟩ := obx h
          obtain ⟨_, _, rfl⟩ := app_ok h6
          exact i3 _ _ _ _ _ _ (c1 _ _ hps f1) f2 h
        · simp only [Option.some.injEq, Prod.mk.injEq] at h
          rw [← h.1, ← h.2.1]
          exact ⟨hps, hy⟩
    · intro x p r hl h
      rw [regex_reader_choices.f] at h
      obtain ⟨⟨p1, r1⟩, h1, h⟩ := obx h
      obtain ⟨f1, f2⟩ := i2 _ _ _ hl h1
      obtain ⟨⟨ps', l', b'⟩, h2, h⟩ := obx h
      obtain ⟨g1, g2⟩ := i3 _ _ _ _ _ _ (by simp [nas, f1]) f2 h2
      simp only [Option.some.injEq, Prod.mk.injEq] at h
      obtain ⟨rfl, rfl⟩ := h
      exact ⟨by simp [na, g1], g2⟩
    · intro x s p r hl hs h
      rw [regex_reader_atom.f] at h
      split at h
      · simp only [Option.some.injEq, Prod.mk.injEq] at h
        obtain ⟨rfl, rfl⟩ := h
        exact ⟨rfl, hl⟩
      · split at h
        · simp only [Option.some.injEq, Prod.mk.injEq] at h
          obtain ⟨rfl, rfl⟩ := h
          exact ⟨rfl, hl⟩
        · rw [if_neg hs.1, if_neg hs.2] at h
          split at h
          · obtain ⟨⟨q, u⟩, h1, h⟩ := obx h
            simp only [Option.some.injEq, Prod.mk.injEq] at h
            obtain ⟨rfl, rfl⟩ := h
            exact na_set hl h1
          · split at h
            · obtain ⟨⟨q, u⟩, h1, h⟩ := obx h
              obtain ⟨f1, f2⟩ := i4 _ _ _ hl h1
              simp only at h
              split at h
              · simp only [Option.some.injEq, Prod.mk.injEq] at h
                obtain ⟨rfl, rfl⟩ := h
                exact ⟨f1, f2⟩
              · obtain ⟨z, h2, h⟩ := obx h
                obtain ⟨e3, e4⟩ := next_inv h2
                simp only [Option.some.injEq, Prod.mk.injEq] at h
                obtain ⟨rfl, rfl⟩ := h
                exact ⟨f1, by show nt z.2.rest; rw [e4]; exact nt_tail f2⟩
            · simp only [Option.some.injEq, Prod.mk.injEq] at h
              obtain ⟨rfl, rfl⟩ := h
              exact ⟨rfl, hl⟩

/-! ### Signs of a text without ends -/

def noEnds (l : List UInt8) : Prop := ∀ c ∈ l, ¬ c.toNat = 94 ∧ ¬ c.toNat = 36
theorem nt_flush {pend : List UInt8} {acc r : List T_regex_sign} (h : flushS pend acc = some r) (ha : nt acc) : nt r := by
  unfold flushS at h
  split at h
  · obtain rfl := Option.some.inj h; exact ha
  · obtain ⟨m, _, rfl⟩ := Option.map_eq_some_iff.1 h
    intro x hx
    rcases List.mem_append.1 hx with hx | hx
    · exact ha x hx
    · rw [List.mem_singleton] at hx; subst hx; exact ⟨by show ¬ (0 : Int) = 94; decide, by show ¬ (0 : Int) = 36; decide⟩
theorem nt_lex : ∀ (l pend : List UInt8) (acc r : List T_regex_sign), noEnds l → nt acc → lexS l pend acc = some r → nt r
  | [], pend, acc, r, _, ha, h => by rw [lexS] at h; exact nt_flush h ha
  | c :: l, pend, acc, r, hl, ha, h => by
    have hc := hl c (List.mem_cons_self ..)
    have hl' : noEnds l := fun x hx => hl x (List.mem_cons_of_mem _ hx)
    rw [lexS] at h
    split at h
    · exact nt_lex l _ _ _ hl' ha h
    · obtain ⟨a, h1, h⟩ := obx h
      have ha' := nt_flush h1 ha
      have add : ∀ x : T_regex_sign, ¬ x.c = 94 ∧ ¬ x.c = 36 → nt (a ++ [x]) := fun x hx y hy => by
        rcases List.mem_append.1 hy with hy | hy
        · exact ha' y hy
        · rw [List.mem_singleton] at hy; subst hy; exact hx
      split at h
      · exact nt_lex l _ _ _ hl' (add _ ⟨by show ¬ (32 : Int) = 94; decide, by show ¬ (32 : Int) = 36; decide⟩) h
      · split at h
        · exact nt_lex l _ _ _ hl' (add _ ⟨by show ¬ ((c.toNat : Nat) : Int) = 94; omega, by show ¬ ((c.toNat : Nat) : Int) = 36; omega⟩) h
        · cases h
end Go.Proofs.YtkkflfmonidepaaDoor
