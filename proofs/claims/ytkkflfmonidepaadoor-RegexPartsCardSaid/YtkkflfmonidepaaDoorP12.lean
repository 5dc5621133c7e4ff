/-
  WHAT MATCH SAYS: whether the last place of the program is reached at some place of the list.
-/
import Derived.Test.YtkkflfmonidepaaDoorP8
namespace Go.Proofs.YtkkflfmonidepaaDoor
open Sp
set_option maxRecDepth 100000
set_option maxHeartbeats 4000000

/-- Does a step take a number? -/
def tk (s : T_regex_step) (x : Int) : Bool := s.all || (if s.spans.any (fun y => decide (x ≥ y.from_) && decide (x ≤ y.to_)) then !s.not else s.not)

theorem takes_l0_eq (s : T_regex_step) (n : Int) (hb : s.spans.length ≤ 1000000000) : ∀ (k j : Nat), j ≤ s.spans.length → s.spans.length < k + j →
    regex_step_takes.l0 k s n (j : Int) = some (if (s.spans.drop j).any (fun y => decide (n ≥ y.from_) && decide (n ≤ y.to_)) then .inl (!s.not) else .inr ())
  | 0, _, _, h => by omega
  | k + 1, j, hj, hk => by
    rw [regex_step_takes.l0]
    by_cases hlt : j < s.spans.length
    · rw [if_pos (by omega), lat_nat, List.getElem?_eq_getElem hlt, Option.bind_some]
      rw [i64_id (by omega) (by omega), show ((j : Int) + 1) = ((j + 1 : Nat) : Int) by omega, takes_l0_eq s n hb k (j + 1) (by omega) (by omega)]
      rw [List.drop_eq_getElem_cons hlt, List.any_cons]
      by_cases h1 : n ≥ s.spans[j].from_
      · by_cases h2 : n ≤ s.spans[j].to_
        · simp [h1, h2]
        · simp [h1, h2]
      · simp [h1]
    · rw [if_neg (by omega)]
      have : s.spans.drop j = [] := List.drop_eq_nil_of_le (by omega)
      rw [this]; rfl
theorem takes_eq {k : Nat} {s : T_regex_step} {n : Int} (hb : s.spans.length ≤ 1000000000) (hk : s.spans.length < k) : regex_step_takes.f k s n = some (tk s n) := by
  rw [regex_step_takes.f]
  unfold tk
  cases ha : s.all with
  | true => simp
  | false =>
    rw [if_neg (by decide)]
    have e := takes_l0_eq s n hb k 0 (Nat.zero_le _) (by omega)
    rw [show ((0 : Nat) : Int) = 0 from rfl, List.drop_zero] at e
    rw [e]
    simp only [Option.bind_some, Bool.false_or]
    by_cases h : s.spans.any (fun y => decide (n ≥ y.from_) && decide (n ≤ y.to_)) = true
    · rw [if_pos h, if_pos h]
    · rw [if_neg h, if_neg h]

/-! ### Steps that take nothing -/

/-- From a place to the next, at a place of the list. -/
def eps (p : List T_regex_step) (i n : Int) (a b : Nat) : Prop := ∃ s, p[a]? = some s ∧ ((s.op = 1 ∧ (s.to_.1 = (b : Int) ∨ s.to_.2 = (b : Int))) ∨ (s.op = 2 ∧ i = 0 ∧ b = a + 1) ∨ (s.op = 3 ∧ i = n ∧ b = a + 1))
inductive Rch (p : List T_regex_step) (i n : Int) : Nat → Nat → Prop
  | refl (a : Nat) : Rch p i n a a
  | step {a b c : Nat} : eps p i n a b → Rch p i n b c → Rch p i n a c
def mem (s : List Bool) (a : Nat) : Prop := s[a]? = some true

theorem mem_set {s : List Bool} {a q : Nat} (h : mem (s.set a true) q) : mem s q ∨ q = a := by
  unfold mem at h ⊢
  rw [List.getElem?_set] at h
  split at h
  · right; omega
  · left; exact h
theorem set_mem {s : List Bool} {a q : Nat} (h : mem s q) : mem (s.set a true) q := by
  unfold mem at h ⊢
  rw [List.getElem?_set]
  split
  · have := (List.getElem?_eq_some_iff.1 h).1
    rename_i e; subst e
    rw [if_pos this]
  · exact h
theorem set_self {s : List Bool} {a : Nat} (h : a < s.length) : mem (s.set a true) a := by
  unfold mem
  rw [List.getElem?_set, if_pos rfl, if_pos h]

/-- What 'add' adds: what is reached from a place. -/
def Added (p : List T_regex_step) (i n : Int) (s : List Bool) (a : Nat) (s' : List Bool) : Prop :=
  (∀ q, mem s q → mem s' q) ∧ mem s' a ∧ ∀ q, mem s' q → mem s q ∨ (Rch p i n a q ∧ ∀ b, eps p i n q b → mem s' b)

theorem add_spec (e : T_regex_Expr) (hV : Val e.prog) (i n : Int) : ∀ (k : Nat) (s : List Bool) (a : Nat) (s' : List Bool), s.length = e.prog.length → a < e.prog.length → regex_Expr_add.f k (some e) s (a : Int) i n = some s' → Added e.prog i n s a s' ∧ s'.length = s.length
  | 0, _, _, _, _, _, h => by rw [regex_Expr_add.f] at h; cases h
  | k + 1, s, a, s', hl, ha, h => by
    have hlen : e.prog.length ≤ 1000000 := hV.2
    rw [regex_Expr_add.f, lat_nat, List.getElem?_eq_getElem (by omega), Option.bind_some] at h
    by_cases hb : s[a] = true
    · rw [if_pos hb] at h
      obtain rfl := Option.some.inj h
      refine ⟨⟨fun q hq => hq, ?_, fun q hq => .inl hq⟩, rfl⟩
      unfold mem; rw [List.getElem?_eq_getElem (by omega), hb]
    · rw [if_neg hb, Option.bind_some, Option.bind_some, lat_nat, List.getElem?_eq_getElem ha, Option.bind_some, Int.toNat_natCast] at h
      have hst : e.prog[a]? = some e.prog[a] := List.getElem?_eq_getElem ha
      obtain ⟨st, hst1, hst2, hst3⟩ := hV.at (i := (a : Int)) (by omega) (by omega)
      rw [lat_nat, hst] at hst1
      obtain rfl := Option.some.inj hst1
      generalize hg : e.prog[a] = st at *
      have hl1 : (s.set a true).length = e.prog.length := by rw [List.length_set]; exact hl
      -- nothing more
      have self : (∀ b, ¬ eps e.prog i n a b) → some (s.set a true) = some s' → Added e.prog i n s a s' ∧ s'.length = s.length := by
        intro hno hs
        obtain rfl := Option.some.inj hs
        refine ⟨⟨fun q hq => set_mem hq, set_self (by omega), fun q hq => ?_⟩, List.length_set ..⟩
        rcases mem_set hq with hq | rfl
        · exact .inl hq
        · exact .inr ⟨.refl _, fun b hb => absurd hb (hno b)⟩
      -- one more
      have one : (∀ b, eps e.prog i n a b ↔ b = a + 1) → a + 1 < e.prog.length → ((regex_Expr_add.f k (some e) (s.set a true) (i64 ((a : Int) + 1)) i n).bind fun y => some y) = some s' → Added e.prog i n s a s' ∧ s'.length = s.length := by
        intro hone ha1 hs
        rw [i64_id (by omega) (by omega), show (a : Int) + 1 = ((a + 1 : Nat) : Int) by omega] at hs
        obtain ⟨s1, e1, hs⟩ := obx hs
        obtain rfl := Option.some.inj hs
        obtain ⟨⟨k1, k2, k3⟩, k4⟩ := add_spec e hV i n k (s.set a true) (a + 1) s1 hl1 ha1 e1
        refine ⟨⟨fun q hq => k1 q (set_mem hq), k1 a (set_self (by omega)), fun q hq => ?_⟩, by rw [k4, List.length_set]⟩
        rcases k3 q hq with hq | ⟨hq, hq2⟩
        · rcases mem_set hq with hq | rfl
          · exact .inl hq
          · exact .inr ⟨.refl _, fun b hb => by rw [(hone b).1 hb]; exact k2⟩
        · exact .inr ⟨.step ((hone _).2 rfl) hq, hq2⟩
      have epsA : ∀ b, eps e.prog i n a b ↔ ((st.op = 1 ∧ (st.to_.1 = (b : Int) ∨ st.to_.2 = (b : Int))) ∨ (st.op = 2 ∧ i = 0 ∧ b = a + 1) ∨ (st.op = 3 ∧ i = n ∧ b = a + 1)) := fun b => by
        constructor
        · rintro ⟨s2, h2, h3⟩
          rw [hst] at h2
          obtain rfl := Option.some.inj h2
          exact h3
        · intro h3; exact ⟨st, hst, h3⟩
      split at h
      · rename_i ho
        obtain ⟨⟨t1, t2⟩, t3, t4⟩ := hst2 ho
        obtain ⟨s1, e1, h⟩ := obx h
        obtain ⟨s2, e2, h⟩ := obx h
        obtain rfl := Option.some.inj h
        obtain ⟨b1, hb1⟩ := Int.eq_ofNat_of_zero_le t1
        obtain ⟨b2, hb2⟩ := Int.eq_ofNat_of_zero_le t3
        rw [hb1] at e1
        rw [hb2] at e2
        obtain ⟨⟨k1, k2, k3⟩, k4⟩ := add_spec e hV i n k (s.set a true) b1 s1 hl1 (by omega) e1
        obtain ⟨⟨j1, j2, j3⟩, j4⟩ := add_spec e hV i n k s1 b2 s2 (by rw [k4, hl1]) (by omega) e2
        refine ⟨⟨fun q hq => j1 q (k1 q (set_mem hq)), j1 a (k1 a (set_self (by omega))), fun q hq => ?_⟩, by rw [j4, k4, List.length_set]⟩
        rcases j3 q hq with hq | ⟨hq, hq2⟩
        · rcases k3 q hq with hq | ⟨hq, hq2⟩
          · rcases mem_set hq with hq | rfl
            · exact .inl hq
            · refine .inr ⟨.refl _, fun b hb => ?_⟩
              rcases (epsA b).1 hb with ⟨_, h | h⟩ | ⟨h, _⟩ | ⟨h, _⟩
              · rw [hb1] at h
                obtain rfl : b1 = b := by exact_mod_cast h
                exact j1 _ k2
              · rw [hb2] at h
                obtain rfl : b2 = b := by exact_mod_cast h
                exact j2
              · rw [ho] at h; exact absurd h (by decide)
              · rw [ho] at h; exact absurd h (by decide)
          · exact .inr ⟨.step ((epsA b1).2 (.inl ⟨ho, .inl hb1⟩)) hq, fun b hb => j1 b (hq2 b hb)⟩
        · exact .inr ⟨.step ((epsA b2).2 (.inl ⟨ho, .inr hb2⟩)) hq, hq2⟩
      · rename_i h1
        split at h
        · rename_i ho
          split at h
          · rename_i hi
            refine one (fun b => ?_) ?_ h
            · rw [epsA]
              constructor
              · rintro (⟨h, _⟩ | ⟨_, _, h⟩ | ⟨h, _⟩)
                · exact absurd h h1
                · exact h
                · rw [ho] at h; exact absurd h (by decide)
              · intro h; exact .inr (.inl ⟨ho, hi, h⟩)
            · have := hst3 (.inr (.inl ho)); omega
          · rename_i hi
            refine self (fun b hb => ?_) h
            rcases (epsA b).1 hb with ⟨h, _⟩ | ⟨_, h, _⟩ | ⟨h, _⟩
            · exact h1 h
            · exact hi h
            · rw [ho] at h; exact absurd h (by decide)
        · rename_i h2
          split at h
          · rename_i ho
            split at h
            · rename_i hi
              refine one (fun b => ?_) ?_ h
              · rw [epsA]
                constructor
                · rintro (⟨h, _⟩ | ⟨h, _⟩ | ⟨_, _, h⟩)
                  · exact absurd h h1
                  · exact absurd h h2
                  · exact h
                · intro h; exact .inr (.inr ⟨ho, hi, h⟩)
              · have := hst3 (.inr (.inr ho)); omega
            · rename_i hi
              refine self (fun b hb => ?_) h
              rcases (epsA b).1 hb with ⟨h, _⟩ | ⟨h, _⟩ | ⟨_, h, _⟩
              · exact h1 h
              · exact h2 h
              · exact hi h
          · rename_i h3
            refine self (fun b hb => ?_) h
            rcases (epsA b).1 hb with ⟨h, _⟩ | ⟨h, _⟩ | ⟨h, _⟩
            · exact h1 h
            · exact h2 h
            · exact h3 h

/-! ### Where one is -/

/-- The places of the program that are reached at each place of the list; one may begin at each. -/
inductive Cfg (p : List T_regex_step) (l : List Int) : Nat → Nat → Prop
  | start {i : Nat} : i ≤ l.length → Cfg p l i 0
  | eps {i a b : Nat} : Cfg p l i a → eps p (i : Int) (l.length : Int) a b → Cfg p l i b
  | take {i a : Nat} {s : T_regex_step} {x : Int} : Cfg p l i a → p[a]? = some s → s.op = 0 → l[i]? = some x → tk s x = true → Cfg p l (i + 1) (a + 1)

theorem Cfg.rch {p : List T_regex_step} {l : List Int} {i a b : Nat} (h : Cfg p l i a) (hr : Rch p (i : Int) (l.length : Int) a b) : Cfg p l i b := by
  induction hr with
  | refl => exact h
  | step he _ ih => exact ih (h.eps he)

/-- A set on its way: within, closed, and it has what was taken. -/
def SetOk (p : List T_regex_step) (l : List Int) (i : Nat) (s : List Bool) : Prop :=
  s.length = p.length ∧ (∀ q, mem s q → Cfg p l i q) ∧ ∀ q, mem s q → ∀ b, eps p (i : Int) (l.length : Int) q b → mem s b
theorem SetOk.add {e : T_regex_Expr} (hV : Val e.prog) {l : List Int} {i a k : Nat} {s s' : List Bool} (h : SetOk e.prog l i s) (ha : a < e.prog.length) (hc : Cfg e.prog l i a) (hs : regex_Expr_add.f k (some e) s (a : Int) (i : Int) (l.length : Int) = some s') :
    SetOk e.prog l i s' ∧ mem s' a ∧ ∀ q, mem s q → mem s' q := by
  obtain ⟨h1, h2, h3⟩ := h
  obtain ⟨⟨k1, k2, k3⟩, k4⟩ := add_spec e hV _ _ k s a s' h1 ha hs
  refine ⟨⟨by rw [k4, h1], fun q hq => ?_, fun q hq b hb => ?_⟩, k2, k1⟩
  · rcases k3 q hq with hq | ⟨hq, _⟩
    · exact h2 q hq
    · exact hc.rch hq
  · rcases k3 q hq with hq | ⟨_, hq⟩
    · exact k1 b (h3 q hq b hb)
    · exact hq b hb
/-- All that was taken at the place ahead is there. -/
def Has (p : List T_regex_step) (l : List Int) (i : Nat) (s : List Bool) : Prop := ∀ j a st x, i = j + 1 → Cfg p l j a → p[a]? = some st → st.op = 0 → l[j]? = some x → tk st x = true → mem s (a + 1)
theorem set_all {p : List T_regex_step} {l : List Int} {i : Nat} {s : List Bool} (h : SetOk p l i s) (h0 : mem s 0) (hh : Has p l i s) {q : Nat} (hq : Cfg p l i q) : mem s q := by
  generalize hi : i = i' at hq
  induction hq with
  | start => exact h0
  | eps _ he ih => subst hi; exact h.2.2 _ (ih rfl) _ he
  | take hc h1 h2 h3 h4 _ => exact hh _ _ _ _ hi hc h1 h2 h3 h4

theorem l1_spec (e : T_regex_Expr) (hV : Val e.prog) (l : List Int) (hll : l.length ≤ 1000000) (i : Nat) (hi : i < l.length) (set : List Bool) (hs : SetOk e.prog l i set) :
    ∀ (k j : Nat) (nx r : List Bool), j ≤ set.length → 3000000 ≤ k + j → SetOk e.prog l (i + 1) nx → (∀ a st, a < j → mem set a → e.prog[a]? = some st → st.op = 0 → tk st l[i] = true → mem nx (a + 1)) →
      regex_Expr_Match.l1 k (some e) l e (i : Int) set nx (j : Int) = some r → SetOk e.prog l (i + 1) r ∧ ∀ a st, mem set a → e.prog[a]? = some st → st.op = 0 → tk st l[i] = true → mem r (a + 1)
  | 0, _, _, _, _, _, _, _, h => by rw [regex_Expr_Match.l1] at h; cases h
  | k + 1, j, nx, r, hj, hk, hn, hd, h => by
    have hlen : e.prog.length ≤ 1000000 := hV.2
    have hsl := hs.1
    rw [regex_Expr_Match.l1] at h
    by_cases hlt : j < set.length
    · rw [if_pos (by omega), lat_nat, List.getElem?_eq_getElem hlt, Option.bind_some] at h
      rw [i64_id (n := (j : Int) + 1) (by omega) (by omega), show ((j : Int) + 1) = ((j + 1 : Nat) : Int) by omega, i64_id (n := (i : Int) + 1) (by omega) (by omega), show ((i : Int) + 1) = ((i + 1 : Nat) : Int) by omega] at h
      have hst : e.prog[j]? = some e.prog[j] := List.getElem?_eq_getElem (by omega)
      have skip : (mem set j → ∀ st, e.prog[j]? = some st → st.op = 0 → tk st l[i] = true → False) → ∀ a st, a < j + 1 → mem set a → e.prog[a]? = some st → st.op = 0 → tk st l[i] = true → mem nx (a + 1) := by
        intro hno a st ha hm h1 h2 h3
        by_cases haj : a < j
        · exact hd a st haj hm h1 h2 h3
        · obtain rfl : a = j := by omega
          exact (hno hm st h1 h2 h3).elim
      split at h
      · rename_i hset
        have hmj : mem set j := by unfold mem; rw [List.getElem?_eq_getElem hlt, hset]
        rw [lat_nat, hst, Option.bind_some] at h
        split at h
        · rename_i ho
          rw [Option.bind_some, lat_nat, List.getElem?_eq_getElem hi, Option.bind_some] at h
          have hsp := hV.spans e.prog[j] (List.getElem_mem _)
          by_cases hk2 : k ≤ 1000000
          · omega
          rw [takes_eq (by omega) (by omega), Option.bind_some] at h
          split at h
          · rename_i htk
            obtain ⟨nx', ea, h⟩ := obx h
            have hcfg : Cfg e.prog l (i + 1) (j + 1) := .take (hs.2.1 j hmj) hst ho (List.getElem?_eq_getElem hi) htk
            have hjl : j + 1 < e.prog.length := by
              obtain ⟨st, q1, _, q3⟩ := hV.at (i := (j : Int)) (by omega) (by omega)
              rw [lat_nat, hst] at q1
              obtain rfl := Option.some.inj q1
              have := q3 (.inl ho); omega
            obtain ⟨g1, g2, g3⟩ := hn.add hV hjl hcfg ea
            refine l1_spec e hV l hll i hi set hs k (j + 1) nx' r (by omega) (by omega) g1 (fun a st ha hm h1 h2 h3 => ?_) h
            by_cases haj : a < j
            · exact g3 _ (hd a st haj hm h1 h2 h3)
            · obtain rfl : a = j := by omega
              exact g2
          · rename_i htk
            refine l1_spec e hV l hll i hi set hs k (j + 1) nx r (by omega) (by omega) hn (skip fun _ st h1 _ h3 => ?_) h
            rw [hst] at h1
            obtain rfl := Option.some.inj h1
            exact htk h3
        · rename_i ho
          refine l1_spec e hV l hll i hi set hs k (j + 1) nx r (by omega) (by omega) hn (skip fun _ st h1 h2 _ => ?_) h
          rw [hst] at h1
          obtain rfl := Option.some.inj h1
          exact ho h2
      · rename_i hset
        refine l1_spec e hV l hll i hi set hs k (j + 1) nx r (by omega) (by omega) hn (skip fun hm _ _ _ _ => ?_) h
        unfold mem at hm
        rw [List.getElem?_eq_getElem hlt] at hm
        exact hset (Option.some.inj hm)
    · rw [if_neg (by omega)] at h
      obtain rfl := Option.some.inj h
      refine ⟨hn, fun a st hm h1 h2 h3 => hd a st ?_ hm h1 h2 h3⟩
      have := (List.getElem?_eq_some_iff.1 hm).1
      omega

theorem empty_ok (p : List T_regex_step) (l : List Int) (i : Nat) : SetOk p l i (List.replicate p.length false) := by
  have hno : ∀ q, ¬ mem (List.replicate p.length false) q := fun q h => by
    unfold mem at h
    rw [List.getElem?_replicate] at h
    split at h
    · cases h
    · cases h
  exact ⟨List.length_replicate, fun q h => (hno q h).elim, fun q h => (hno q h).elim⟩

theorem l0_spec (e : T_regex_Expr) (hV : Val e.prog) (l : List Int) (hll : l.length ≤ 1000000) :
    ∀ (k i : Nat) (set : List Bool) (b : Bool), i ≤ l.length → 4500000 ≤ k + i → SetOk e.prog l i set → Has e.prog l i set → (∀ j, j < i → ¬ Cfg e.prog l j (e.prog.length - 1)) →
      regex_Expr_Match.l0 k (some e) l e set (i : Int) = some (.inl b) → (b = true ↔ ∃ j, j ≤ l.length ∧ Cfg e.prog l j (e.prog.length - 1))
  | 0, _, _, _, _, _, _, _, _, h => by rw [regex_Expr_Match.l0] at h; cases h
  | k + 1, i, set, b, hi, hk, hs, hh, hno, h => by
    have hlen : e.prog.length ≤ 1000000 := hV.2
    have hpos := hV.pos
    rw [regex_Expr_Match.l0] at h
    obtain ⟨s1, ea, h⟩ := obx h
    rw [show (0 : Int) = ((0 : Nat) : Int) from rfl] at ea
    obtain ⟨g1, g2, g3⟩ := hs.add hV hpos (.start hi) ea
    rw [i64_id (n := (e.prog.length : Int) - 1) (by omega) (by omega), show (e.prog.length : Int) - 1 = ((e.prog.length - 1 : Nat) : Int) by omega, lat_nat, List.getElem?_eq_getElem (by rw [g1.1]; omega), Option.bind_some] at h
    have hall : ∀ q, Cfg e.prog l i q → mem s1 q := fun q hq => set_all g1 g2 (fun j a st x hj hc h1 h2 h3 h4 => g3 _ (hh j a st x hj hc h1 h2 h3 h4)) hq
    have hm : mem s1 (e.prog.length - 1) ↔ s1[e.prog.length - 1]'(by rw [g1.1]; omega) = true := by
      unfold mem
      rw [List.getElem?_eq_getElem (by rw [g1.1]; omega)]
      exact ⟨fun h => Option.some.inj h, fun h => by rw [h]⟩
    have dbl : ∀ {o : Option (Sum Bool Unit)} {c : Bool}, ((some c).bind fun y : Bool => (some (Sum.inl y) : Option (Sum Bool Unit))) = some (.inl b) → c = b := fun h => by
      simpa using h
    split at h
    · rename_i ht
      rw [Option.bind_some] at h
      obtain rfl : _ = b := by simpa using h
      exact ⟨fun _ => ⟨i, hi, g1.2.1 _ (hm.2 ht)⟩, fun _ => ht⟩
    · rename_i hf
      split at h
      · rename_i hil
        rw [Option.bind_some] at h
        obtain rfl : _ = b := by simpa using h
        refine ⟨fun ht => absurd ht hf, fun ⟨j, hj, hc⟩ => ?_⟩
        by_cases hji : j < i
        · exact absurd hc (hno j hji)
        · obtain rfl : j = i := by omega
          exact hm.1 (hall _ hc)
      · rename_i hil
        rw [made_ok _ hlen, Option.bind_some] at h
        obtain ⟨nx, e1, h⟩ := obx h
        rw [show (0 : Int) = ((0 : Nat) : Int) from rfl] at e1
        have hlt : i < l.length := by omega
        obtain ⟨q1, q2⟩ := l1_spec e hV l hll i hlt s1 g1 k 0 _ nx (Nat.zero_le _) (by omega) (empty_ok _ _ _) (fun a st ha => by omega) e1
        rw [i64_id (by omega) (by omega), show ((i : Int) + 1) = ((i + 1 : Nat) : Int) by omega] at h
        refine l0_spec e hV l hll k (i + 1) nx b (by omega) (by omega) q1 (fun j a st x hj hc h1 h2 h3 h4 => ?_) (fun j hj hc => ?_) h
        · obtain rfl : j = i := by omega
          rw [List.getElem?_eq_getElem hlt] at h3
          obtain rfl := Option.some.inj h3
          exact q2 a st (hall _ hc) h1 h2 h4
        · by_cases hji : j < i
          · exact hno j hji hc
          · obtain rfl : j = i := by omega
            exact hf (hm.1 (hall _ hc))

theorem match_spec {k : Nat} (e : T_regex_Expr) (hV : Val e.prog) (l : List Int) (hll : l.length ≤ 1000000) (hk : 5000000 ≤ k) : ∃ b, regex_Expr_Match.f k (some e) l = some b ∧ (b = true ↔ ∃ j, j ≤ l.length ∧ Cfg e.prog l j (e.prog.length - 1)) := by
  obtain ⟨b, hb⟩ := match_ok (k := k) e hV hV.spans l hll hk
  refine ⟨b, hb, ?_⟩
  have hlen : e.prog.length ≤ 1000000 := hV.2
  have hpos := hV.pos
  rw [regex_Expr_Match.f] at hb
  simp only [Option.isNone_some, Bool.false_eq_true, if_false, Option.bind_some] at hb
  rw [if_neg (by omega), made_ok _ hlen, Option.bind_some] at hb
  obtain ⟨o, ho, hb⟩ := obx hb
  cases o with
  | inr _ => cases hb
  | inl b' =>
    obtain rfl := Option.some.inj hb
    rw [show (0 : Int) = ((0 : Nat) : Int) from rfl] at ho
    exact l0_spec e hV l hll k 0 _ b' (Nat.zero_le _) (by omega) (empty_ok _ _ _) (fun j a st x hj => by omega) (fun j hj => by omega) ho
end Go.Proofs.YtkkflfmonidepaaDoor
