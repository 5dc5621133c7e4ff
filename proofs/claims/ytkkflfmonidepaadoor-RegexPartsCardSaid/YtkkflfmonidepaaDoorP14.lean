/-
  WHAT A PATTERN TAKES, said of its pieces; and that Match says just that.
-/
import Derived.Test.YtkkflfmonidepaaDoorP13
namespace Go.Proofs.YtkkflfmonidepaaDoor
open Sp
set_option maxRecDepth 100000
set_option maxHeartbeats 4000000

inductive Star (R : Nat → Nat → Prop) : Nat → Nat → Prop
  | refl (i : Nat) : Star R i i
  | step {i j k : Nat} : R i j → Star R j k → Star R i k
def schain (S : T_regex_piece → Nat → Nat → Prop) : List T_regex_piece → Nat → Nat → Prop
  | [], i, j => i = j
  | x :: xs, i, j => ∃ m, S x i m ∧ schain S xs m j
def inS (x : T_regex_piece) (v : Int) : Bool := if x.spans.any (fun y => decide (v ≥ y.from_) && decide (v ≤ y.to_)) then !x.not else x.not
/-- A piece takes the list from a place up to another one. -/
def Sem : Nat → List Int → T_regex_piece → Nat → Nat → Prop
  | 0, _, _, _, _ => False
  | n + 1, l, x, i, j =>
    (x.kind = 0 ∧ schain (Sem n l) x.parts i j) ∨
    (x.kind = 1 ∧ ∃ y ∈ x.parts, Sem n l y i j) ∨
    ((x.kind = 2 ∨ x.kind = 4) ∧ j = i + 1 ∧ ∃ v, l[i]? = some v ∧ inS x v = true) ∨
    (x.kind = 3 ∧ j = i + 1 ∧ i < l.length) ∨
    (x.kind = 5 ∧ j = i ∧ i = 0) ∨
    (x.kind = 6 ∧ j = i ∧ i = l.length) ∨
    (x.kind = 8 ∧ ∃ q m, x.parts = [q] ∧ Sem n l q i m ∧ Star (Sem n l q) m j) ∨
    (x.kind = 7 ∧ ∃ q, x.parts = [q] ∧ Star (Sem n l q) i j) ∨
    (x.kind = 9 ∧ ∃ q, x.parts = [q] ∧ (i = j ∨ Sem n l q i j))

/-! ### Paths through a program -/

def St (p : List T_regex_step) (l : List Int) (a i b j : Nat) : Prop :=
  (j = i ∧ eps p (i : Int) (l.length : Int) a b) ∨ (j = i + 1 ∧ b = a + 1 ∧ ∃ s x, p[a]? = some s ∧ s.op = 0 ∧ l[i]? = some x ∧ tk s x = true)
inductive Pa (p : List T_regex_step) (l : List Int) : Nat → Nat → Nat → Nat → Nat → Prop
  | nil (a i : Nat) : Pa p l 0 a i a i
  | cons {N a i b j c k : Nat} : St p l a i b j → Pa p l N b j c k → Pa p l (N + 1) a i c k
theorem Pa.trans {p : List T_regex_step} {l : List Int} {N M a i b j c k : Nat} (h : Pa p l N a i b j) (h2 : Pa p l M b j c k) : Pa p l (N + M) a i c k := by
  induction h with
  | nil => rw [Nat.zero_add]; exact h2
  | cons h1 _ ih =>
    rename_i N' _ _ _ _ _ _ _
    rw [show N' + 1 + M = (N' + M) + 1 by omega]
    exact .cons h1 (ih h2)
theorem Pa.one {p : List T_regex_step} {l : List Int} {a i b j : Nat} (h : St p l a i b j) : Pa p l 1 a i b j := .cons h (.nil _ _)

theorem St.split {p : List T_regex_step} {l : List Int} {a b c : Nat} (h : split p a b c) {i d j : Nat} : St p l a i d j ↔ i = j ∧ (d = b ∨ d = c) := by
  obtain ⟨s, h1, h2, h3⟩ := h
  constructor
  · rintro (⟨rfl, u, e1, e2⟩ | ⟨_, _, u, _, e1, e2, _⟩)
    · rw [h1] at e1
      obtain rfl := Option.some.inj e1
      refine ⟨rfl, ?_⟩
      rcases e2 with ⟨_, e2⟩ | ⟨e2, _⟩ | ⟨e2, _⟩
      · rw [h3] at e2
        rcases e2 with e2 | e2
        · left; simp only at e2; omega
        · right; simp only at e2; omega
      · rw [h2] at e2; exact absurd e2 (by decide)
      · rw [h2] at e2; exact absurd e2 (by decide)
    · rw [h1] at e1
      obtain rfl := Option.some.inj e1
      rw [h2] at e2; exact absurd e2 (by decide)
  · rintro ⟨rfl, hd⟩
    refine .inl ⟨rfl, s, h1, .inl ⟨h2, ?_⟩⟩
    rw [h3]
    rcases hd with rfl | rfl
    · exact .inl rfl
    · exact .inr rfl
theorem St.op0 {p : List T_regex_step} {l : List Int} {a : Nat} {s : T_regex_step} (h1 : p[a]? = some s) (h2 : s.op = 0) {i d j : Nat} : St p l a i d j ↔ j = i + 1 ∧ d = a + 1 ∧ ∃ x, l[i]? = some x ∧ tk s x = true := by
  constructor
  · rintro (⟨_, u, e1, e2⟩ | ⟨e0, e1, u, x, e2, _, e3, e4⟩)
    · rw [h1] at e1
      obtain rfl := Option.some.inj e1
      rcases e2 with ⟨e2, _⟩ | ⟨e2, _⟩ | ⟨e2, _⟩ <;> (rw [h2] at e2; exact absurd e2 (by decide))
    · rw [h1] at e2
      obtain rfl := Option.some.inj e2
      exact ⟨e0, e1, x, e3, e4⟩
  · rintro ⟨e0, e1, x, e3, e4⟩
    exact .inr ⟨e0, e1, s, x, h1, h2, e3, e4⟩
theorem St.op2 {p : List T_regex_step} {l : List Int} {a : Nat} {s : T_regex_step} (h1 : p[a]? = some s) (h2 : s.op = 2) {i d j : Nat} : St p l a i d j ↔ j = i ∧ d = a + 1 ∧ i = 0 := by
  constructor
  · rintro (⟨e0, u, e1, e2⟩ | ⟨_, _, u, x, e2, e3, _⟩)
    · rw [h1] at e1
      obtain rfl := Option.some.inj e1
      rcases e2 with ⟨e2, _⟩ | ⟨_, e2, e3⟩ | ⟨e2, _⟩
      · rw [h2] at e2; exact absurd e2 (by decide)
      · exact ⟨e0, e3, by omega⟩
      · rw [h2] at e2; exact absurd e2 (by decide)
    · rw [h1] at e2
      obtain rfl := Option.some.inj e2
      rw [h2] at e3; exact absurd e3 (by decide)
  · rintro ⟨e0, e1, e2⟩
    exact .inl ⟨e0, s, h1, .inr (.inl ⟨h2, by omega, e1⟩)⟩
theorem St.op3 {p : List T_regex_step} {l : List Int} {a : Nat} {s : T_regex_step} (h1 : p[a]? = some s) (h2 : s.op = 3) {i d j : Nat} : St p l a i d j ↔ j = i ∧ d = a + 1 ∧ i = l.length := by
  constructor
  · rintro (⟨e0, u, e1, e2⟩ | ⟨_, _, u, x, e2, e3, _⟩)
    · rw [h1] at e1
      obtain rfl := Option.some.inj e1
      rcases e2 with ⟨e2, _⟩ | ⟨e2, _⟩ | ⟨_, e2, e3⟩
      · rw [h2] at e2; exact absurd e2 (by decide)
      · rw [h2] at e2; exact absurd e2 (by decide)
      · exact ⟨e0, e3, by omega⟩
    · rw [h1] at e2
      obtain rfl := Option.some.inj e2
      rw [h2] at e3; exact absurd e3 (by decide)
  · rintro ⟨e0, e1, e2⟩
    exact .inl ⟨e0, s, h1, .inr (.inr ⟨h2, by omega, e1⟩)⟩

/-- A path that ends elsewhere begins with a step. -/
theorem Pa.first {p : List T_regex_step} {l : List Int} {N a i d k : Nat} (h : Pa p l N a i d k) (hd : d ≠ a) : ∃ M b j, N = M + 1 ∧ St p l a i b j ∧ Pa p l M b j d k := by
  cases h with
  | nil => exact absurd rfl hd
  | cons h1 h2 => exact ⟨_, _, _, rfl, h1, h2⟩

/-! ### A path through a piece is what it takes -/

/-- Out of a piece one comes at its end alone. -/
def Out (p : List T_regex_step) (l : List Int) (F : T_regex_piece → Nat → Nat → Prop) (S : T_regex_piece → Nat → Nat → Prop) : Prop :=
  ∀ x a e, F x a e → ∀ N i d k, Pa p l N a i d k → (d < a ∨ e ≤ d) → ∃ j M, M ≤ N ∧ S x i j ∧ Pa p l M e j d k

theorem out_chain {p : List T_regex_step} {l : List Int} {F S : T_regex_piece → Nat → Nat → Prop} (hF : ∀ x a e, F x a e → a ≤ e) (h : Out p l F S) : ∀ (xs : List T_regex_piece) (a e : Nat), chain F xs a e → ∀ N i d k, Pa p l N a i d k → (d < a ∨ e ≤ d) → ∃ j M, M ≤ N ∧ schain S xs i j ∧ Pa p l M e j d k
  | [], a, e, hc, N, i, d, k, hp, _ => by
    obtain rfl : a = e := hc
    exact ⟨i, N, Nat.le_refl _, rfl, hp⟩
  | x :: xs, a, e, ⟨m, h1, h2⟩, N, i, d, k, hp, hd => by
    have l1 := hF _ _ _ h1
    have l2 := chain_le hF h2
    obtain ⟨j, M, e1, e2, e3⟩ := h x a m h1 N i d k hp (by omega)
    obtain ⟨j2, M2, f1, f2, f3⟩ := out_chain hF h xs m e h2 M j d k e3 (by omega)
    exact ⟨j2, M2, by omega, ⟨j, e2, f2⟩, f3⟩
theorem out_alts {p : List T_regex_step} {l : List Int} {F S : T_regex_piece → Nat → Nat → Prop} (hF : ∀ x a e, F x a e → a ≤ e) (h : Out p l F S) : ∀ (xs : List T_regex_piece) (a e : Nat), alts p F xs a e → ∀ N i d k, Pa p l N a i d k → (d < a ∨ e ≤ d) → ∃ j M, M ≤ N ∧ (∃ y ∈ xs, S y i j) ∧ Pa p l M e j d k
  | [], _, _, hc, _, _, _, _, _, _ => hc.elim
  | [x], a, e, hc, N, i, d, k, hp, hd => by
    obtain ⟨j, M, e1, e2, e3⟩ := h x a e hc N i d k hp hd
    exact ⟨j, M, e1, ⟨x, List.mem_cons_self .., e2⟩, e3⟩
  | x :: y :: r, a, e, ⟨m, s1, h1, s2, h2⟩, N, i, d, k, hp, hd => by
    have l1 := hF _ _ _ h1
    have l2 := alts_le hF h2
    obtain ⟨M, b, j, rfl, hs, hp2⟩ := hp.first (by omega)
    obtain ⟨rfl, hb⟩ := (St.split s1).1 hs
    rcases hb with rfl | rfl
    · obtain ⟨j, M1, e1, e2, e3⟩ := h x (a + 1) m h1 M i d k hp2 (by omega)
      obtain ⟨M2, b, j', rfl, hs2, hp3⟩ := e3.first (by omega)
      obtain ⟨rfl, hb⟩ := (St.split s2).1 hs2
      obtain rfl : b = e := by omega
      exact ⟨j, M2, by omega, ⟨x, List.mem_cons_self .., e2⟩, hp3⟩
    · obtain ⟨j, M1, e1, ⟨z, hz, e2⟩, e3⟩ := out_alts hF h (y :: r) (m + 1) e h2 M i d k hp2 (by omega)
      exact ⟨j, M1, by omega, ⟨z, List.mem_cons_of_mem _ hz, e2⟩, e3⟩

theorem out_star {p : List T_regex_step} {l : List Int} {F S : T_regex_piece → Nat → Nat → Prop} (hF : ∀ x a e, F x a e → a ≤ e) (h : Out p l F S) {q : T_regex_piece} {a m : Nat} (s1 : split p a (a + 1) (m + 1)) (hq : F q (a + 1) m) (s2 : split p m a a) :
    ∀ (N i d k : Nat), Pa p l N a i d k → (d < a ∨ m + 1 ≤ d) → ∃ j M, M ≤ N ∧ Star (S q) i j ∧ Pa p l M (m + 1) j d k := by
  intro N
  induction N using Nat.strongRecOn with
  | ind N ih =>
    intro i d k hp hd
    have l1 := hF _ _ _ hq
    obtain ⟨M, b, j, rfl, hs, hp2⟩ := hp.first (by omega)
    obtain ⟨rfl, hb⟩ := (St.split s1).1 hs
    rcases hb with rfl | rfl
    · obtain ⟨j, M1, e1, e2, e3⟩ := h q (a + 1) m hq M i d k hp2 (by omega)
      obtain ⟨M2, b, j', rfl, hs2, hp3⟩ := e3.first (by omega)
      obtain ⟨rfl, hb⟩ := (St.split s2).1 hs2
      obtain rfl : b = a := by omega
      obtain ⟨j2, M3, f1, f2, f3⟩ := ih M2 (by omega) j d k hp3 hd
      exact ⟨j2, M3, by omega, .step e2 f2, f3⟩
    · exact ⟨i, M, by omega, .refl _, hp2⟩
theorem out_plus {p : List T_regex_step} {l : List Int} {F S : T_regex_piece → Nat → Nat → Prop} (hF : ∀ x a e, F x a e → a ≤ e) (h : Out p l F S) {q : T_regex_piece} {a m : Nat} (hq : F q a m) (s2 : split p m a (m + 1)) :
    ∀ (N i d k : Nat), Pa p l N a i d k → (d < a ∨ m + 1 ≤ d) → ∃ j0 j M, M ≤ N ∧ S q i j0 ∧ Star (S q) j0 j ∧ Pa p l M (m + 1) j d k := by
  intro N
  induction N using Nat.strongRecOn with
  | ind N ih =>
    intro i d k hp hd
    have l1 := hF _ _ _ hq
    obtain ⟨j, M1, e1, e2, e3⟩ := h q a m hq N i d k hp (by omega)
    obtain ⟨M2, b, j', rfl, hs2, hp3⟩ := e3.first (by omega)
    obtain ⟨rfl, hb⟩ := (St.split s2).1 hs2
    rcases hb with rfl | rfl
    · obtain ⟨j0, j2, M3, f1, f2, f3, f4⟩ := ih M2 (by omega) j d k hp3 hd
      exact ⟨j, j2, M3, by omega, e2, .step f2 f3, f4⟩
    · exact ⟨j, j, M2, by omega, e2, .refl _, hp3⟩

theorem tk_in {s : T_regex_step} {x : T_regex_piece} (h1 : s.spans = x.spans) (h2 : s.all = false) (h3 : s.not = x.not) (v : Int) : tk s v = inS x v := by
  unfold tk inS
  rw [h1, h2, h3, Bool.false_or]

theorem frag_out (p : List T_regex_step) (l : List Int) : ∀ n, Out p l (Frag n p) (Sem n l)
  | 0 => fun _ _ _ h => h.elim
  | n + 1 => by
    intro x a e h N i d k hp hd
    have ih := frag_out p l n
    have one : e = a + 1 → ∃ M b j, N = M + 1 ∧ St p l a i b j ∧ Pa p l M b j d k := fun he => hp.first (by omega)
    rcases h with ⟨hk, h⟩ | ⟨hk, h⟩ | ⟨hk, he, s, h1, h2, h3, h4, h5⟩ | ⟨hk, he, s, h1, h2, h3⟩ | ⟨hk, he, s, h1, h2⟩ | ⟨hk, he, s, h1, h2⟩ | ⟨hk, q, m, hq, h1, s2, rfl⟩ | ⟨hk, q, m, hq, s1, h1, s2, rfl⟩ | ⟨hk, q, hq, s1, h1⟩
    · obtain ⟨j, M, e1, e2, e3⟩ := out_chain (frag_le n) ih x.parts a e h N i d k hp hd
      exact ⟨j, M, e1, .inl ⟨hk, e2⟩, e3⟩
    · obtain ⟨j, M, e1, e2, e3⟩ := out_alts (frag_le n) ih x.parts a e h N i d k hp hd
      exact ⟨j, M, e1, .inr (.inl ⟨hk, e2⟩), e3⟩
    · obtain ⟨M, b, j, rfl, hs, hp2⟩ := one he
      obtain ⟨rfl, rfl, v, e1, e2⟩ := (St.op0 h1 h2).1 hs
      rw [tk_in h3 h4 h5] at e2
      subst he
      exact ⟨i + 1, M, by omega, .inr (.inr (.inl ⟨hk, rfl, v, e1, e2⟩)), hp2⟩
    · obtain ⟨M, b, j, rfl, hs, hp2⟩ := one he
      obtain ⟨rfl, rfl, v, e1, e2⟩ := (St.op0 h1 h2).1 hs
      subst he
      exact ⟨i + 1, M, by omega, .inr (.inr (.inr (.inl ⟨hk, rfl, (List.getElem?_eq_some_iff.1 e1).1⟩))), hp2⟩
    · obtain ⟨M, b, j, rfl, hs, hp2⟩ := one he
      obtain ⟨rfl, rfl, hi⟩ := (St.op2 h1 h2).1 hs
      subst he
      exact ⟨j, M, by omega, .inr (.inr (.inr (.inr (.inl ⟨hk, rfl, hi⟩)))), hp2⟩
    · obtain ⟨M, b, j, rfl, hs, hp2⟩ := one he
      obtain ⟨rfl, rfl, hi⟩ := (St.op3 h1 h2).1 hs
      subst he
      exact ⟨j, M, by omega, .inr (.inr (.inr (.inr (.inr (.inl ⟨hk, rfl, hi⟩))))), hp2⟩
    · obtain ⟨j0, j, M, e1, e2, e3, e4⟩ := out_plus (frag_le n) ih h1 s2 N i d k hp hd
      exact ⟨j, M, e1, .inr (.inr (.inr (.inr (.inr (.inr (.inl ⟨hk, q, j0, hq, e2, e3⟩)))))), e4⟩
    · obtain ⟨j, M, e1, e2, e3⟩ := out_star (frag_le n) ih s1 h1 s2 N i d k hp hd
      exact ⟨j, M, e1, .inr (.inr (.inr (.inr (.inr (.inr (.inr (.inl ⟨hk, q, hq, e2⟩))))))), e3⟩
    · have l1 := frag_le n _ _ _ h1
      obtain ⟨M, b, j, rfl, hs, hp2⟩ := hp.first (by omega)
      obtain ⟨rfl, hb⟩ := (St.split s1).1 hs
      rcases hb with rfl | rfl
      · obtain ⟨j2, M1, e1, e2, e3⟩ := ih q (a + 1) e h1 M i d k hp2 (by omega)
        exact ⟨j2, M1, by omega, .inr (.inr (.inr (.inr (.inr (.inr (.inr (.inr ⟨hk, q, hq, .inr e2⟩))))))), e3⟩
      · exact ⟨i, M, by omega, .inr (.inr (.inr (.inr (.inr (.inr (.inr (.inr ⟨hk, q, hq, .inl rfl⟩))))))), hp2⟩

/-! ### What a piece takes is a path through it -/

def Inn (p : List T_regex_step) (l : List Int) (F : T_regex_piece → Nat → Nat → Prop) (S : T_regex_piece → Nat → Nat → Prop) : Prop :=
  ∀ x a e, F x a e → ∀ i j, S x i j → ∃ N, Pa p l N a i e j
theorem inn_chain {p : List T_regex_step} {l : List Int} {F S : T_regex_piece → Nat → Nat → Prop} (h : Inn p l F S) : ∀ (xs : List T_regex_piece) (a e : Nat), chain F xs a e → ∀ i j, schain S xs i j → ∃ N, Pa p l N a i e j
  | [], a, e, hc, i, j, hs => by
    obtain rfl : a = e := hc
    obtain rfl : i = j := hs
    exact ⟨0, .nil _ _⟩
  | x :: xs, a, e, ⟨m, h1, h2⟩, i, j, ⟨u, s1, s2⟩ => by
    obtain ⟨N, e1⟩ := h x a m h1 i u s1
    obtain ⟨M, e2⟩ := inn_chain h xs m e h2 u j s2
    exact ⟨_, e1.trans e2⟩
theorem inn_alts {p : List T_regex_step} {l : List Int} {F S : T_regex_piece → Nat → Nat → Prop} (h : Inn p l F S) : ∀ (xs : List T_regex_piece) (a e : Nat), alts p F xs a e → ∀ i j, (∃ y ∈ xs, S y i j) → ∃ N, Pa p l N a i e j
  | [], _, _, hc, _, _, _ => hc.elim
  | [x], a, e, hc, i, j, ⟨y, hy, hs⟩ => by
    rw [List.mem_singleton] at hy
    subst hy
    exact h _ _ _ hc i j hs
  | x :: y :: r, a, e, ⟨m, s1, h1, s2, h2⟩, i, j, ⟨z, hz, hs⟩ => by
    rcases List.mem_cons.1 hz with rfl | hz
    · obtain ⟨N, e1⟩ := h _ _ _ h1 i j hs
      exact ⟨_, (Pa.one ((St.split s1).2 ⟨rfl, .inl rfl⟩)).trans (e1.trans (Pa.one ((St.split s2).2 ⟨rfl, .inl rfl⟩)))⟩
    · obtain ⟨N, e1⟩ := inn_alts h (y :: r) (m + 1) e h2 i j ⟨z, hz, hs⟩
      exact ⟨_, (Pa.one ((St.split s1).2 ⟨rfl, .inr rfl⟩)).trans e1⟩
theorem frag_inn (p : List T_regex_step) (l : List Int) : ∀ n, Inn p l (Frag n p) (Sem n l)
  | 0 => fun _ _ _ h => h.elim
  | n + 1 => by
    intro x a e h i j hs
    have ih := frag_inn p l n
    have kd : ∀ {c d : Int}, x.kind = c → x.kind = d → c ≠ d → False := fun h1 h2 h3 => h3 (h1.symm.trans h2)
    rcases h with ⟨hk, h⟩ | ⟨hk, h⟩ | ⟨hk, he, s, h1, h2, h3, h4, h5⟩ | ⟨hk, he, s, h1, h2, h3⟩ | ⟨hk, he, s, h1, h2⟩ | ⟨hk, he, s, h1, h2⟩ | ⟨hk, q, m, hq, h1, s2, rfl⟩ | ⟨hk, q, m, hq, s1, h1, s2, rfl⟩ | ⟨hk, q, hq, s1, h1⟩ <;>
    rcases hs with ⟨gk, g⟩ | ⟨gk, g⟩ | ⟨gk, g⟩ | ⟨gk, g⟩ | ⟨gk, g⟩ | ⟨gk, g⟩ | ⟨gk, g⟩ | ⟨gk, g⟩ | ⟨gk, g⟩ <;>
    first
    | (exfalso; omega)
    | skip
    · exact inn_chain ih x.parts a e h i j g
    · exact inn_alts ih x.parts a e h i j g
    · obtain ⟨rfl, v, e1, e2⟩ := g
      subst he
      exact ⟨1, Pa.one ((St.op0 h1 h2).2 ⟨rfl, rfl, v, e1, by rw [tk_in h3 h4 h5]; exact e2⟩)⟩
    · obtain ⟨rfl, hi⟩ := g
      subst he
      refine ⟨1, Pa.one ((St.op0 h1 h2).2 ⟨rfl, rfl, l[i], List.getElem?_eq_getElem hi, ?_⟩)⟩
      unfold tk; rw [h3]; rfl
    · obtain ⟨rfl, hi⟩ := g
      subst he
      exact ⟨1, Pa.one ((St.op2 h1 h2).2 ⟨rfl, rfl, hi⟩)⟩
    · obtain ⟨rfl, hi⟩ := g
      subst he
      exact ⟨1, Pa.one ((St.op3 h1 h2).2 ⟨rfl, rfl, hi⟩)⟩
    · obtain ⟨q', u, hq', g1, g2⟩ := g
      obtain rfl : q = q' := by rw [hq] at hq'; exact (List.cons.inj hq').1
      have key : ∀ u, Star (Sem n l q) u j → ∀ i, Sem n l q i u → ∃ N, Pa p l N a i (m + 1) j := by
        intro u hst
        induction hst with
        | refl u =>
          intro i hi
          obtain ⟨N, e1⟩ := ih q a m h1 i u hi
          exact ⟨_, e1.trans (Pa.one ((St.split s2).2 ⟨rfl, .inr rfl⟩))⟩
        | step hr _ ih2 =>
          intro i hi
          obtain ⟨N, e1⟩ := ih q a m h1 i _ hi
          obtain ⟨M, e2⟩ := ih2 (by assumption) _ hr
          exact ⟨_, e1.trans ((Pa.one ((St.split s2).2 ⟨rfl, .inl rfl⟩)).trans e2)⟩
      exact key u g2 i g1
    · obtain ⟨q', hq', g1⟩ := g
      obtain rfl : q = q' := by rw [hq] at hq'; exact (List.cons.inj hq').1
      clear hq'
      induction g1 with
      | refl u => exact ⟨1, Pa.one ((St.split s1).2 ⟨rfl, .inr rfl⟩)⟩
      | step hr _ ih2 =>
        obtain ⟨N, e1⟩ := ih q (a + 1) m h1 _ _ hr
        obtain ⟨M, e2⟩ := ih2
        exact ⟨_, (Pa.one ((St.split s1).2 ⟨rfl, .inl rfl⟩)).trans (e1.trans ((Pa.one ((St.split s2).2 ⟨rfl, .inl rfl⟩)).trans e2))⟩
    · obtain ⟨q', hq', g1⟩ := g
      obtain rfl : q = q' := by rw [hq] at hq'; exact (List.cons.inj hq').1
      rcases g1 with rfl | g1
      · exact ⟨1, Pa.one ((St.split s1).2 ⟨rfl, .inr rfl⟩)⟩
      · obtain ⟨N, e1⟩ := ih q (a + 1) e h1 _ _ g1
        exact ⟨_, (Pa.one ((St.split s1).2 ⟨rfl, .inl rfl⟩)).trans e1⟩

/-! ### Match -/

theorem Cfg.path {p : List T_regex_step} {l : List Int} {i a : Nat} (h : Cfg p l i a) {N b j : Nat} (hp : Pa p l N a i b j) : Cfg p l j b := by
  induction hp with
  | nil => exact h
  | cons hs _ ih =>
    refine ih ?_
    rcases hs with ⟨rfl, he⟩ | ⟨rfl, rfl, s, x, h1, h2, h3, h4⟩
    · exact h.eps he
    · exact h.take h1 h2 h3 h4
theorem Cfg.from_ {p : List T_regex_step} {l : List Int} {j b : Nat} (h : Cfg p l j b) : ∃ i N, i ≤ l.length ∧ Pa p l N 0 i b j := by
  induction h with
  | start hi => exact ⟨_, 0, hi, .nil _ _⟩
  | eps _ he ih =>
    obtain ⟨i, N, h1, h2⟩ := ih
    exact ⟨i, _, h1, h2.trans (Pa.one (.inl ⟨rfl, he⟩))⟩
  | take _ h1 h2 h3 h4 ih =>
    obtain ⟨i, N, g1, g2⟩ := ih
    exact ⟨i, _, g1, g2.trans (Pa.one (.inr ⟨rfl, rfl, _, _, h1, h2, h3, h4⟩))⟩
theorem Pa.le {p : List T_regex_step} {l : List Int} {N a i b j : Nat} (h : Pa p l N a i b j) (hi : i ≤ l.length) : i ≤ j ∧ j ≤ l.length := by
  induction h with
  | nil => exact ⟨Nat.le_refl _, hi⟩
  | cons hs _ ih =>
    rcases hs with ⟨rfl, _⟩ | ⟨rfl, _, s, x, _, _, h3, _⟩
    · exact ih hi
    · have := (List.getElem?_eq_some_iff.1 h3).1
      have := ih (by omega)
      omega

/-- Match: whether the pattern takes a part of the list. -/
theorem match_sem {k : Nat} (hk : 5000000 ≤ k) {e : T_regex_Expr} (h : Pat k e) (l : List Int) (hl : l.length ≤ 1000000) : ∃ b, regex_Expr_Match.f k (some e) l = some b ∧ (b = true ↔ ∃ i j, i ≤ l.length ∧ Sem (wt e.top) l e.top i j) := by
  obtain ⟨b, hb, hs⟩ := match_spec (k := k) e h.2.2.1 l hl hk
  refine ⟨b, hb, hs.trans ?_⟩
  obtain ⟨hw, hwt, hV, q, eq, hVq, hq, hprog⟩ := h
  obtain ⟨a1, a2⟩ := laid_all (wt e.top) e.top 2 hw (Nat.le_refl _) k e.top e.top [] q (fun _ h => by cases h) (by simp; omega) (by omega) eq
  have hf : Frag (wt e.top) e.prog e.top 0 q.length := by
    rw [hprog]
    exact frag_alike _ _ _ _ a2 (alike_app q _)
  have hd : e.prog.length - 1 = q.length := by rw [hprog]; simp
  have hlast : e.prog[q.length]? = some lastStep := by rw [hprog, List.getElem?_append_right (Nat.le_refl _), Nat.sub_self]; rfl
  rw [hd]
  constructor
  · rintro ⟨j, hj, hc⟩
    obtain ⟨i, N, hi, hp⟩ := hc.from_
    obtain ⟨j', M, _, e2, e3⟩ := frag_out e.prog l _ e.top 0 q.length hf N i q.length j hp (.inr (Nat.le_refl _))
    exact ⟨i, j', hi, e2⟩
  · rintro ⟨i, j, hi, hsem⟩
    obtain ⟨N, hp⟩ := frag_inn e.prog l _ e.top 0 q.length hf i j hsem
    exact ⟨j, (hp.le hi).2, (Cfg.start hi).path hp⟩
end Go.Proofs.YtkkflfmonidepaaDoor
