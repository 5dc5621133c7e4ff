/-
  PIECES OF A PROGRAM: where a piece's steps lie, and that compiling lays them there.
-/
import Derived.Test.YtkkflfmonidepaaDoorP12
namespace Go.Proofs.YtkkflfmonidepaaDoor
open Sp
set_option maxRecDepth 100000
set_option maxHeartbeats 4000000

def split (p : List T_regex_step) (a b c : Nat) : Prop := ∃ s, p[a]? = some s ∧ s.op = 1 ∧ s.to_ = ((b : Int), (c : Int))
def chain (F : T_regex_piece → Nat → Nat → Prop) : List T_regex_piece → Nat → Nat → Prop
  | [], a, e => a = e
  | x :: xs, a, e => ∃ m, F x a m ∧ chain F xs m e
def alts (p : List T_regex_step) (F : T_regex_piece → Nat → Nat → Prop) : List T_regex_piece → Nat → Nat → Prop
  | [], _, _ => False
  | [x], a, e => F x a e
  | x :: y :: r, a, e => ∃ m, split p a (a + 1) (m + 1) ∧ F x (a + 1) m ∧ split p m e e ∧ alts p F (y :: r) (m + 1) e
/-- A piece's steps stand from a place on, up to another one. -/
def Frag : Nat → List T_regex_step → T_regex_piece → Nat → Nat → Prop
  | 0, _, _, _, _ => False
  | n + 1, p, x, a, e =>
    (x.kind = 0 ∧ chain (Frag n p) x.parts a e) ∨
    (x.kind = 1 ∧ alts p (Frag n p) x.parts a e) ∨
    ((x.kind = 2 ∨ x.kind = 4) ∧ e = a + 1 ∧ ∃ s, p[a]? = some s ∧ s.op = 0 ∧ s.spans = x.spans ∧ s.all = false ∧ s.not = x.not) ∨
    (x.kind = 3 ∧ e = a + 1 ∧ ∃ s, p[a]? = some s ∧ s.op = 0 ∧ s.all = true) ∨
    (x.kind = 5 ∧ e = a + 1 ∧ ∃ s, p[a]? = some s ∧ s.op = 2) ∨
    (x.kind = 6 ∧ e = a + 1 ∧ ∃ s, p[a]? = some s ∧ s.op = 3) ∨
    (x.kind = 8 ∧ ∃ q m, x.parts = [q] ∧ Frag n p q a m ∧ split p m a (m + 1) ∧ e = m + 1) ∨
    (x.kind = 7 ∧ ∃ q m, x.parts = [q] ∧ split p a (a + 1) (m + 1) ∧ Frag n p q (a + 1) m ∧ split p m a a ∧ e = m + 1) ∨
    (x.kind = 9 ∧ ∃ q, x.parts = [q] ∧ split p a (a + 1) e ∧ Frag n p q (a + 1) e)

theorem chain_le {F : T_regex_piece → Nat → Nat → Prop} (hF : ∀ x a e, F x a e → a ≤ e) : ∀ {l a e}, chain F l a e → a ≤ e
  | [], _, _, h => Nat.le_of_eq h
  | _ :: _, _, _, ⟨_, h1, h2⟩ => Nat.le_trans (hF _ _ _ h1) (chain_le hF h2)
theorem alts_le {p : List T_regex_step} {F : T_regex_piece → Nat → Nat → Prop} (hF : ∀ x a e, F x a e → a ≤ e) : ∀ {l a e}, alts p F l a e → a ≤ e
  | [], _, _, h => h.elim
  | [x], _, _, h => hF _ _ _ h
  | x :: y :: r, _, _, ⟨m, _, h1, _, h2⟩ => by
    have := hF _ _ _ h1
    have := alts_le hF h2
    omega
theorem frag_le {p : List T_regex_step} : ∀ (n : Nat) (x : T_regex_piece) (a e : Nat), Frag n p x a e → a ≤ e
  | 0, _, _, _, h => h.elim
  | n + 1, x, a, e, h => by
    rcases h with ⟨_, h⟩ | ⟨_, h⟩ | ⟨_, h, _⟩ | ⟨_, h, _⟩ | ⟨_, h, _⟩ | ⟨_, h, _⟩ | ⟨_, q, m, _, h, _, h2⟩ | ⟨_, q, m, _, _, h, _, h2⟩ | ⟨_, q, _, _, h⟩
    · exact chain_le (frag_le n) h
    · exact alts_le (frag_le n) h
    · omega
    · omega
    · omega
    · omega
    · have := frag_le n _ _ _ h; omega
    · have := frag_le n _ _ _ h; omega
    · have := frag_le n _ _ _ h; omega

/-- Steps alike from a place up to another one. -/
def Alike (p q : List T_regex_step) (a e : Nat) : Prop := ∀ i, a ≤ i → i < e → q[i]? = p[i]?
theorem Alike.sub {p q : List T_regex_step} {a e b f : Nat} (h : Alike p q a e) (h1 : a ≤ b) (h2 : f ≤ e) : Alike p q b f := fun i hi hj => h i (by omega) (by omega)
theorem split.alike {p q : List T_regex_step} {a e x b c : Nat} (h : split p x b c) (hq : Alike p q a e) (h1 : a ≤ x) (h2 : x < e) : split q x b c := by
  obtain ⟨s, e1, e2⟩ := h
  exact ⟨s, by rw [hq x h1 h2]; exact e1, e2⟩
theorem chain_alike {F G : T_regex_piece → Nat → Nat → Prop} {p q : List T_regex_step} (hF : ∀ x a e, F x a e → a ≤ e) (h : ∀ x a e, F x a e → Alike p q a e → G x a e) : ∀ {l a e}, chain F l a e → Alike p q a e → chain G l a e
  | [], _, _, hc, _ => hc
  | _ :: _, _, _, ⟨m, h1, h2⟩, ha => ⟨m, h _ _ _ h1 (ha.sub (Nat.le_refl _) (chain_le hF h2)), chain_alike hF h h2 (ha.sub (hF _ _ _ h1) (Nat.le_refl _))⟩
theorem alts_alike {F G : T_regex_piece → Nat → Nat → Prop} {p q : List T_regex_step} (hF : ∀ x a e, F x a e → a ≤ e) (h : ∀ x a e, F x a e → Alike p q a e → G x a e) : ∀ {l a e}, alts p F l a e → Alike p q a e → alts q G l a e
  | [], _, _, hc, _ => hc
  | [x], _, _, hc, ha => h _ _ _ hc ha
  | x :: y :: r, a, e, ⟨m, s1, h1, s2, h2⟩, ha => by
    have l1 := hF _ _ _ h1
    have l2 := alts_le hF h2
    exact ⟨m, s1.alike ha (Nat.le_refl _) (by omega), h _ _ _ h1 (ha.sub (by omega) (by omega)), s2.alike ha (by omega) (by omega), alts_alike hF h h2 (ha.sub (by omega) (Nat.le_refl _))⟩
theorem frag_alike {p q : List T_regex_step} : ∀ (n : Nat) (x : T_regex_piece) (a e : Nat), Frag n p x a e → Alike p q a e → Frag n q x a e
  | 0, _, _, _, h, _ => h.elim
  | n + 1, x, a, e, h, ha => by
    have one : ∀ {Q : T_regex_step → Prop}, e = a + 1 → (∃ s, p[a]? = some s ∧ Q s) → ∃ s, q[a]? = some s ∧ Q s := fun he ⟨s, h1, h2⟩ => ⟨s, by rw [ha a (Nat.le_refl _) (by omega)]; exact h1, h2⟩
    rcases h with ⟨k, h⟩ | ⟨k, h⟩ | ⟨k, h, h'⟩ | ⟨k, h, h'⟩ | ⟨k, h, h'⟩ | ⟨k, h, h'⟩ | ⟨k, r, m, hp, h, s, h2⟩ | ⟨k, r, m, hp, s1, h, s2, h2⟩ | ⟨k, r, hp, s1, h⟩
    · exact .inl ⟨k, chain_alike (frag_le n) (frag_alike n) h ha⟩
    · exact .inr (.inl ⟨k, alts_alike (frag_le n) (frag_alike n) h ha⟩)
    · exact .inr (.inr (.inl ⟨k, h, one h h'⟩))
    · exact .inr (.inr (.inr (.inl ⟨k, h, one h h'⟩)))
    · exact .inr (.inr (.inr (.inr (.inl ⟨k, h, one h h'⟩))))
    · exact .inr (.inr (.inr (.inr (.inr (.inl ⟨k, h, one h h'⟩)))))
    · have := frag_le n _ _ _ h
      exact .inr (.inr (.inr (.inr (.inr (.inr (.inl ⟨k, r, m, hp, frag_alike n _ _ _ h (ha.sub (Nat.le_refl _) (by omega)), s.alike ha (by omega) (by omega), h2⟩))))))
    · have := frag_le n _ _ _ h
      exact .inr (.inr (.inr (.inr (.inr (.inr (.inr (.inl ⟨k, r, m, hp, s1.alike ha (Nat.le_refl _) (by omega), frag_alike n _ _ _ h (ha.sub (by omega) (by omega)), s2.alike ha (by omega) (by omega), h2⟩)))))))
    · have := frag_le n _ _ _ h
      exact .inr (.inr (.inr (.inr (.inr (.inr (.inr (.inr ⟨k, r, hp, s1.alike ha (Nat.le_refl _) (by omega), frag_alike n _ _ _ h (ha.sub (by omega) (Nat.le_refl _))⟩)))))))
theorem chain_imp {F G : T_regex_piece → Nat → Nat → Prop} : ∀ {l : List T_regex_piece} {a e : Nat}, (∀ x ∈ l, ∀ a e, F x a e → G x a e) → chain F l a e → chain G l a e
  | [], _, _, _, hc => hc
  | _ :: _, _, _, h, ⟨m, h1, h2⟩ => ⟨m, h _ (List.mem_cons_self ..) _ _ h1, chain_imp (fun x hx => h x (List.mem_cons_of_mem _ hx)) h2⟩
theorem alts_imp {p : List T_regex_step} {F G : T_regex_piece → Nat → Nat → Prop} : ∀ {l : List T_regex_piece} {a e : Nat}, (∀ x ∈ l, ∀ a e, F x a e → G x a e) → alts p F l a e → alts p G l a e
  | [], _, _, _, hc => hc
  | [x], _, _, h, hc => h _ (List.mem_cons_self ..) _ _ hc
  | x :: y :: r, _, _, h, ⟨m, s1, h1, s2, h2⟩ => ⟨m, s1, h _ (List.mem_cons_self ..) _ _ h1, s2, alts_imp (fun z hz => h z (List.mem_cons_of_mem _ hz)) h2⟩
theorem frag_mono {p : List T_regex_step} : ∀ (n : Nat) (x : T_regex_piece) (a e : Nat), Frag n p x a e → Frag (n + 1) p x a e
  | 0, _, _, _, h => h.elim
  | n + 1, x, a, e, h => by
    rcases h with ⟨k, h⟩ | ⟨k, h⟩ | h | h | h | h | ⟨k, r, m, hp, h, h2⟩ | ⟨k, r, m, hp, s1, h, h2⟩ | ⟨k, r, hp, s1, h⟩
    · exact .inl ⟨k, chain_imp (fun x _ => frag_mono n x) h⟩
    · exact .inr (.inl ⟨k, alts_imp (fun x _ => frag_mono n x) h⟩)
    · exact .inr (.inr (.inl h))
    · exact .inr (.inr (.inr (.inl h)))
    · exact .inr (.inr (.inr (.inr (.inl h))))
    · exact .inr (.inr (.inr (.inr (.inr (.inl h)))))
    · exact .inr (.inr (.inr (.inr (.inr (.inr (.inl ⟨k, r, m, hp, frag_mono n _ _ _ h, h2⟩))))))
    · exact .inr (.inr (.inr (.inr (.inr (.inr (.inr (.inl ⟨k, r, m, hp, s1, frag_mono n _ _ _ h, h2⟩)))))))
    · exact .inr (.inr (.inr (.inr (.inr (.inr (.inr (.inr ⟨k, r, hp, s1, frag_mono n _ _ _ h⟩)))))))
theorem frag_up {p : List T_regex_step} {n m : Nat} (h : n ≤ m) {x : T_regex_piece} {a e : Nat} (hf : Frag n p x a e) : Frag m p x a e := by
  induction h with
  | refl => exact hf
  | step _ ih => exact frag_mono _ _ _ _ ih

/-! ### Compiling lays the steps -/

/-- What was there stays; the piece's steps stand behind it. -/
def Laid (n : Nat) (p : List T_regex_step) (x : T_regex_piece) (q : List T_regex_step) : Prop := Alike p q 0 p.length ∧ Frag n q x p.length q.length
def LaidAll (n : Nat) : Prop := ∀ (x : T_regex_piece) (j : Nat), WF j x → wt x ≤ n → ∀ (k : Nat) (t t' : T_regex_piece) (p q : List T_regex_step), V p → p.length + 4 * wt x ≤ 1000000 → 4 * wt x ≤ k → regex_Expr_compile.f k ⟨t, p⟩ x = some ⟨t', q⟩ → Laid n p x q

theorem alike_refl (p : List T_regex_step) (a e : Nat) : Alike p p a e := fun _ _ _ => rfl
theorem Alike.trans {p q r : List T_regex_step} {a e : Nat} (h : Alike p q a e) (h2 : Alike q r a e) : Alike p r a e := fun i h3 h4 => (h2 i h3 h4).trans (h i h3 h4)
theorem alike_app (p : List T_regex_step) (s : List T_regex_step) : Alike p (p ++ s) 0 p.length := fun i _ hi => List.getElem?_append_left hi
theorem alike_set (p : List T_regex_step) (j : Nat) (s : T_regex_step) {a e : Nat} (h : j < a ∨ e ≤ j) : Alike p (p.set j s) a e := fun i h1 h2 => by
  rw [List.getElem?_set, if_neg (by omega)]

theorem laid_l0 {n : Nat} (ih : LaidAll n) (x1 : T_regex_piece) {j : Nat} (hw : ∀ y ∈ x1.parts, WF j y) (hn : wts x1.parts ≤ n) (hlen : x1.parts.length ≤ 1000000) :
    ∀ (k i : Nat) (t : T_regex_piece) (p : List T_regex_step), i ≤ x1.parts.length → 4 * wts (x1.parts.drop i) + 1 ≤ k → V p → p.length + 4 * wts (x1.parts.drop i) ≤ 1000000 →
      ∃ q, regex_Expr_compile.l0 k x1 (i : Int) t.kind t.parts t.spans t.not p = some (t.kind, t.parts, t.spans, t.not, q) ∧ Alike p q 0 p.length ∧ chain (Frag n q) (x1.parts.drop i) p.length q.length
  | 0, _, _, _, _, h, _, _ => by omega
  | k + 1, i, t, p, hi, hk, hV, hb => by
    rw [regex_Expr_compile.l0]
    by_cases hlt : i < x1.parts.length
    · rw [if_pos (by omega), lat_nat, List.getElem?_eq_getElem hlt]
      simp only [Option.bind_some]
      have hd := wts_drop (l := x1.parts) (i := i) (x := x1.parts[i]) (by simp [hlt])
      have hmem : x1.parts[i] ∈ x1.parts := List.getElem_mem hlt
      have hle := wt_mem hmem
      have hp1 := wt_pos x1.parts[i]
      obtain ⟨q, e, h1, h2, h3⟩ := comp_ok (hw _ hmem) (k := k) (t := ⟨t.kind, t.parts, t.spans, t.not⟩) (p := p) (by omega) hV (by omega)
      obtain ⟨a1, a2⟩ := ih x1.parts[i] j (hw _ hmem) (by omega) k _ _ p q hV (by omega) (by omega) e
      rw [e]
      simp only [Option.bind_some]
      rw [i64_id (by omega) (by omega), show ((i : Int) + 1) = ((i + 1 : Nat) : Int) by omega]
      obtain ⟨q2, e2, h4, h5⟩ := laid_l0 ih x1 hw hn hlen k (i + 1) t q (by omega) (by omega) h1 (by omega)
      refine ⟨q2, e2, a1.trans (h4.sub (Nat.le_refl _) h2), ?_⟩
      rw [List.drop_eq_getElem_cons hlt]
      exact ⟨q.length, frag_alike n _ _ _ a2 (h4.sub (Nat.zero_le _) (Nat.le_refl _)), h5⟩
    · rw [if_neg (by omega)]
      refine ⟨p, rfl, alike_refl _ _ _, ?_⟩
      rw [List.drop_eq_nil_of_le (by omega)]
      rfl

def altsJ (p : List T_regex_step) (F : T_regex_piece → Nat → Nat → Prop) : List T_regex_piece → Nat → Nat → List Nat → Prop
  | [], _, _, _ => False
  | [x], a, e, js => js = [] ∧ F x a e
  | x :: y :: r, a, e, js => ∃ m js', js = m :: js' ∧ split p a (a + 1) (m + 1) ∧ F x (a + 1) m ∧ (∃ s, p[m]? = some s ∧ s.op = 1) ∧ altsJ p F (y :: r) (m + 1) e js'
theorem altsJ_js {p : List T_regex_step} {F : T_regex_piece → Nat → Nat → Prop} (hF : ∀ x a e, F x a e → a ≤ e) : ∀ {l a e js}, altsJ p F l a e js → a ≤ e ∧ ∀ j ∈ js, a < j ∧ j < e
  | [], _, _, _, h => h.elim
  | [x], _, _, _, ⟨h1, h2⟩ => by subst h1; exact ⟨hF _ _ _ h2, fun _ h => by cases h⟩
  | x :: y :: r, a, e, js, ⟨m, js', h1, _, h2, _, h3⟩ => by
    subst h1
    have l1 := hF _ _ _ h2
    obtain ⟨l2, l3⟩ := altsJ_js hF h3
    refine ⟨by omega, fun j hj => ?_⟩
    rcases List.mem_cons.1 hj with rfl | hj
    · omega
    · have := l3 j hj; omega

/-- The jumps of a program set to a place. -/
def Patched (q q' : List T_regex_step) (js : List Nat) (E : Nat) : Prop := q'.length = q.length ∧ (∀ i, i ∉ js → q'[i]? = q[i]?) ∧ ∀ m ∈ js, ∀ s, q[m]? = some s → ∃ s', q'[m]? = some s' ∧ s'.op = s.op ∧ s'.to_ = ((E : Int), (E : Int))
theorem altsJ_patch {q q' : List T_regex_step} {E : Nat} {F G : T_regex_piece → Nat → Nat → Prop} (hF : ∀ x a e, F x a e → a ≤ e) (hG : ∀ x a e, F x a e → Alike q q' a e → G x a e) :
    ∀ {l a js js0}, altsJ q F l a E js → Patched q q' js0 E → (∀ j ∈ js, j ∈ js0) → (∀ j ∈ js0, j ∈ js ∨ j < a) → alts q' G l a E
  | [], _, _, _, h, _, _, _ => h.elim
  | [x], a, js, js0, ⟨h1, h2⟩, hp, _, h4 => by
    subst h1
    refine hG _ _ _ h2 fun i hi _ => hp.2.1 i fun hj => ?_
    rcases h4 i hj with h | h
    · cases h
    · omega
  | x :: y :: r, a, js, js0, ⟨m, js', h1, ⟨s, s1, s2⟩, h2, ⟨u, u1, u2⟩, h3⟩, hp, h4, h5 => by
    subst h1
    have l1 := hF _ _ _ h2
    obtain ⟨l2, l3⟩ := altsJ_js hF h3
    have out : ∀ i, a ≤ i → i < m → i ∉ js0 := fun i hi him hj => by
      rcases h5 i hj with h | h
      · rcases List.mem_cons.1 h with rfl | h
        · omega
        · have := l3 i h; omega
      · omega
    refine ⟨m, ⟨s, by rw [hp.2.1 a (out a (Nat.le_refl _) (by omega))]; exact s1, s2⟩, hG _ _ _ h2 (fun i hi him => hp.2.1 i (out i (by omega) him)), ?_, altsJ_patch hF hG h3 hp (fun j hj => h4 j (List.mem_cons_of_mem _ hj)) (fun j hj => ?_)⟩
    · obtain ⟨u', v1, v2, v3⟩ := hp.2.2 m (h4 m (List.mem_cons_self ..)) u u1
      exact ⟨u', v1, by rw [v2, u2], v3⟩
    · rcases h5 j hj with h | h
      · rcases List.mem_cons.1 h with rfl | h
        · exact .inr (by omega)
        · exact .inl h
      · exact .inr (by omega)

theorem patch_l1 (js : List Nat) (hnd : js.Nodup) : ∀ (k i : Nat) (p q0 : List T_regex_step), i ≤ js.length → js.length < k + i → (∀ j ∈ js, j < p.length) → p.length ≤ 1000000 → js.length ≤ 1000000 → Patched q0 p (js.take i) p.length →
    ∃ q, regex_Expr_choices.l1 k (js.map fun (j : Nat) => (j : Int)) (i : Int) p = some q ∧ Patched q0 q js p.length
  | 0, _, _, _, _, h, _, _, _, _ => by omega
  | k + 1, i, p, q0, hi, hk, hj, hb, hb2, hp => by
    rw [regex_Expr_choices.l1, List.length_map]
    by_cases hlt : i < js.length
    · rw [if_pos (by omega), lat_nat, List.getElem?_eq_getElem (by rw [List.length_map]; exact hlt), Option.bind_some, List.getElem_map]
      have h1 := hj js[i] (List.getElem_mem hlt)
      rw [lat_nat, List.getElem?_eq_getElem h1, Option.bind_some, Int.toNat_natCast]
      rw [i64_id (by omega) (by omega), show ((i : Int) + 1) = ((i + 1 : Nat) : Int) by omega]
      have htk : js.take (i + 1) = js.take i ++ [js[i]] := by rw [List.take_succ_eq_append_getElem hlt]
      have hni : js[i] ∉ js.take i := by
        intro hm
        obtain ⟨m, hm1, hm2⟩ := List.getElem_of_mem hm
        rw [List.length_take] at hm1
        rw [List.getElem_take] at hm2
        exact List.pairwise_iff_getElem.1 hnd m i (by omega) hlt (by omega) hm2
      obtain ⟨q, e2, h2⟩ := patch_l1 js hnd k (i + 1) (p.set js[i] ⟨p[js[i]].op, p[js[i]].spans, p[js[i]].all, p[js[i]].not, ((p.length : Int), (p.length : Int))⟩) q0 (by omega) (by omega) (fun j hjm => by rw [List.length_set]; exact hj j hjm) (by rw [List.length_set]; exact hb) hb2 (by
        rw [List.length_set]
        refine ⟨by rw [List.length_set]; exact hp.1, fun x hx => ?_, fun m hm s hs => ?_⟩
        · rw [htk, List.mem_append, List.mem_singleton] at hx
          rw [List.getElem?_set, if_neg (fun h => hx (.inr h.symm))]
          exact hp.2.1 x fun h => hx (.inl h)
        · rw [htk, List.mem_append, List.mem_singleton] at hm
          by_cases hmi : m = js[i]
          · subst hmi
            have hpe : p[js[i]]? = q0[js[i]]? := hp.2.1 _ hni
            rw [hs, List.getElem?_eq_getElem h1] at hpe
            refine ⟨_, by rw [List.getElem?_set, if_pos rfl, if_pos h1], ?_, rfl⟩
            rw [Option.some.inj hpe]
          · rw [List.getElem?_set, if_neg (fun h => hmi h.symm)]
            exact hp.2.2 m (hm.resolve_right hmi) s hs)
      rw [List.length_set] at h2
      exact ⟨q, e2, h2⟩
    · rw [if_neg (by omega)]
      rw [List.take_of_length_le (by omega)] at hp
      exact ⟨p, rfl, hp⟩

theorem laid_ch0 {n : Nat} (ih : LaidAll n) (x1 : List T_regex_piece) (hw : ∀ y ∈ x1, WF 1 y) (hn : wts x1 ≤ n) (hlen : x1.length ≤ 1000000) :
    ∀ (k i : Nat) (js : List Nat) (t : T_regex_piece) (p : List T_regex_step), i < x1.length → 4 * wts (x1.drop i) + 1 ≤ k → V p → p.length + 4 * wts (x1.drop i) ≤ 1000000 → js.length ≤ i →
      ∃ js' q, regex_Expr_choices.l0 k x1 (js.map fun (j : Nat) => (j : Int)) (i : Int) t.kind t.parts t.spans t.not p = some ((js ++ js').map (fun (j : Nat) => (j : Int)), t.kind, t.parts, t.spans, t.not, q) ∧ V q ∧ q.length ≤ p.length + 4 * wts (x1.drop i) ∧ Alike p q 0 p.length ∧ altsJ q (Frag n q) (x1.drop i) p.length q.length js' ∧ js'.length ≤ x1.length
  | 0, _, _, _, _, _, h, _, _, _ => by omega
  | k + 1, i, js, t, p, hi, hk, hV, hb, hjl => by
    rw [regex_Expr_choices.l0, if_pos (by omega), lat_nat, List.getElem?_eq_getElem hi]
    simp only [Option.bind_some]
    have hd := wts_drop (l := x1) (i := i) (x := x1[i]) (by simp [hi])
    have hmem : x1[i] ∈ x1 := List.getElem_mem hi
    have hle := wt_mem hmem
    have hp1 := wt_pos x1[i]
    have hxl := wts_len (x1.drop i)
    rw [List.length_drop] at hxl
    have hxl2 := wts_len (x1.drop (i + 1))
    rw [List.length_drop] at hxl2
    rw [i64_id (by omega) (by omega)]
    have hdr : x1.drop i = x1[i] :: x1.drop (i + 1) := List.drop_eq_getElem_cons hi
    by_cases hlast : (i : Int) = (x1.length : Int) - 1
    · rw [if_pos hlast]
      obtain ⟨q, e, h1, h2, h3⟩ := comp_ok (hw _ hmem) (k := k) (t := ⟨t.kind, t.parts, t.spans, t.not⟩) (p := p) (by omega) hV (by omega)
      obtain ⟨a1, a2⟩ := ih x1[i] 1 (hw _ hmem) (by omega) k _ _ p q hV (by omega) (by omega) e
      rw [e]
      have hnil : x1.drop (i + 1) = [] := List.drop_eq_nil_of_le (by omega)
      exact ⟨[], q, by rw [List.append_nil]; rfl, h1, by omega, a1, by rw [hdr, hnil]; exact ⟨rfl, a2⟩, Nat.zero_le _⟩
    · rw [if_neg hlast, put_ok _ (by omega)]
      simp only [Option.bind_some]
      have hV1 : V (p ++ [⟨1, [], false, false, (0, 0)⟩]) := hV.app ⟨⟨.inr (.inl rfl), Nat.zero_le _⟩, ⟨Int.le_refl _, Int.natCast_nonneg _⟩, ⟨Int.le_refl _, Int.natCast_nonneg _⟩⟩
      have e1 : lat (p ++ [(⟨1, [], false, false, (0, 0)⟩ : T_regex_step)]) (p.length : Int) = some ⟨1, [], false, false, (0, 0)⟩ := by
        rw [lat_nat, List.getElem?_append_right (Nat.le_refl _), Nat.sub_self]; rfl
      rw [e1]
      simp only [Option.bind_some, Int.toNat_natCast]
      have hset : (p ++ [(⟨1, [], false, false, (0, 0)⟩ : T_regex_step)]).set p.length ⟨1, [], false, false, (((p ++ [(⟨1, [], false, false, (0, 0)⟩ : T_regex_step)]).length : Int), 0)⟩ = p ++ [⟨1, [], false, false, ((p.length + 1 : Nat), 0)⟩] := by
        rw [List.set_append_right _ _ (Nat.le_refl _), Nat.sub_self]
        simp
      rw [hset]
      have hV2 : V (p ++ [(⟨1, [], false, false, ((p.length + 1 : Nat), 0)⟩ : T_regex_step)]) := hV.app ⟨⟨.inr (.inl rfl), Nat.zero_le _⟩, ⟨Int.natCast_nonneg _, Int.le_refl _⟩, ⟨Int.le_refl _, Int.natCast_nonneg _⟩⟩
      obtain ⟨q, e2, h1, h2, h3⟩ := comp_ok (hw _ hmem) (k := k) (t := ⟨t.kind, t.parts, t.spans, t.not⟩) (p := p ++ [⟨1, [], false, false, ((p.length + 1 : Nat), 0)⟩]) (by omega) hV2 (by simp; omega)
      obtain ⟨a1, a2⟩ := ih x1[i] 1 (hw _ hmem) (by omega) k _ _ _ q hV2 (by simp; omega) (by omega) e2
      rw [List.length_append, List.length_singleton] at h2 h3 a1 a2
      rw [e2]
      simp only [Option.bind_some]
      rw [put_ok _ (by omega)]
      simp only [Option.bind_some]
      have hja : Sp.app 8 (js.map fun (j : Nat) => (j : Int)) [(q.length : Int)] = some ((js ++ [q.length]).map fun (j : Nat) => (j : Int)) := by
        rw [app_small (by simp; omega) (by decide)]
        simp
      rw [hja]
      simp only [Option.bind_some]
      have hV3 : V (q ++ [⟨1, [], false, false, (0, 0)⟩]) := h1.app ⟨⟨.inr (.inl rfl), Nat.zero_le _⟩, ⟨Int.le_refl _, Int.natCast_nonneg _⟩, ⟨Int.le_refl _, Int.natCast_nonneg _⟩⟩
      have hq0 : q[p.length]? = some ⟨1, [], false, false, ((p.length + 1 : Nat), 0)⟩ := by
        rw [a1 p.length (Nat.zero_le _) (by omega), List.getElem?_append_right (Nat.le_refl _), Nat.sub_self]; rfl
      have e4 : lat (q ++ [(⟨1, [], false, false, (0, 0)⟩ : T_regex_step)]) (p.length : Int) = some ⟨1, [], false, false, ((p.length + 1 : Nat), 0)⟩ := by
        rw [lat_nat, List.getElem?_append_left (by omega)]; exact hq0
      rw [e4]
      simp only [Option.bind_some]
      rw [i64_id (by omega) (by omega), show ((i : Int) + 1) = ((i + 1 : Nat) : Int) by omega]
      generalize hp4 : (q ++ [(⟨1, [], false, false, (0, 0)⟩ : T_regex_step)]).set p.length ⟨1, [], false, false, (((p.length + 1 : Nat) : Int), ((q ++ [(⟨1, [], false, false, (0, 0)⟩ : T_regex_step)]).length : Int))⟩ = p4
      have hl4 : p4.length = q.length + 1 := by rw [← hp4, List.length_set, List.length_append, List.length_singleton]
      have hV4 : V p4 := by
        rw [← hp4]
        exact hV3.set _ ⟨⟨.inr (.inl rfl), Nat.zero_le _⟩, ⟨Int.natCast_nonneg _, by show (((p.length + 1 : Nat)) : Int) ≤ _; rw [List.length_append, List.length_singleton]; omega⟩, ⟨Int.natCast_nonneg _, Int.le_refl _⟩⟩
      obtain ⟨js', q2, e3, h4, h5, h6, h7, h8⟩ := laid_ch0 ih x1 hw hn hlen k (i + 1) (js ++ [q.length]) ⟨t.kind, t.parts, t.spans, t.not⟩ p4 (by omega) (by omega) hV4 (by omega) (by simp; omega)
      have al1 : Alike q p4 (p.length + 1) q.length := by
        rw [← hp4]
        exact ((alike_app q _).sub (Nat.zero_le _) (Nat.le_refl _)).trans (alike_set _ _ _ (.inl (by omega)))
      have al0 : Alike p q2 0 p.length := by
        refine Alike.trans (alike_app p [⟨1, [], false, false, ((p.length + 1 : Nat), 0)⟩]) ((a1.sub (Nat.le_refl _) (by omega)).trans ?_)
        refine Alike.trans ((alike_app q [(⟨1, [], false, false, (0, 0)⟩ : T_regex_step)]).sub (Nat.le_refl _) (by omega)) ?_
        refine Alike.trans (alike_set _ p.length ⟨1, [], false, false, (((p.length + 1 : Nat) : Int), ((q ++ [(⟨1, [], false, false, (0, 0)⟩ : T_regex_step)]).length : Int))⟩ (.inr (Nat.le_refl _))) ?_
        rw [hp4]
        exact h6.sub (Nat.le_refl _) (by omega)
      have hget1 : q2[p.length]? = some ⟨1, [], false, false, (((p.length + 1 : Nat) : Int), ((q.length + 1 : Nat) : Int))⟩ := by
        rw [h6 p.length (Nat.zero_le _) (by omega), ← hp4, List.getElem?_set, if_pos rfl, if_pos (by simp; omega)]
        simp
      have hget2 : q2[q.length]? = some ⟨1, [], false, false, (0, 0)⟩ := by
        rw [h6 q.length (Nat.zero_le _) (by omega), ← hp4, List.getElem?_set, if_neg (by omega), List.getElem?_append_right (Nat.le_refl _), Nat.sub_self]
        rfl
      refine ⟨q.length :: js', q2, ?_, h4, by omega, al0, ?_, ?_⟩
      · rw [e3]
        simp
      · rw [hdr]
        cases hcs : x1.drop (i + 1) with
        | nil =>
          have := congrArg List.length hcs
          rw [List.length_drop] at this
          simp at this
          omega
        | cons y r =>
          rw [hcs, hl4] at h7
          exact ⟨q.length, js', rfl, ⟨_, hget1, rfl, rfl⟩, frag_alike n _ _ _ a2 (al1.trans (h6.sub (Nat.zero_le _) (by omega))), ⟨_, hget2, rfl⟩, h7⟩
      · have : js'.length ≤ x1.length - (i + 1) := by
          have key : ∀ (l : List T_regex_piece) (a e : Nat) (js : List Nat), altsJ q2 (Frag n q2) l a e js → js.length + 1 ≤ l.length := by
            intro l
            induction l with
            | nil => intro a e js h; exact h.elim
            | cons x l ihl =>
              intro a e js h
              cases l with
              | nil => obtain ⟨rfl, _⟩ := h; simp
              | cons y r =>
                obtain ⟨m, js', rfl, _, _, _, h3⟩ := h
                have := ihl _ _ _ h3
                simp at this ⊢; omega
          have := key _ _ _ _ h7
          rw [List.length_drop] at this
          omega
        simp; omega

theorem altsJ_nodup {p : List T_regex_step} {F : T_regex_piece → Nat → Nat → Prop} (hF : ∀ x a e, F x a e → a ≤ e) : ∀ {l a e js}, altsJ p F l a e js → js.Nodup
  | [], _, _, _, h => h.elim
  | [x], _, _, _, ⟨h1, _⟩ => by subst h1; exact List.nodup_nil
  | x :: y :: r, a, e, js, ⟨m, js', h1, _, h2, _, h3⟩ => by
    subst h1
    refine List.nodup_cons.2 ⟨fun hm => ?_, altsJ_nodup hF h3⟩
    have := (altsJ_js hF h3).2 m hm
    omega

theorem laid_ch {n : Nat} (ih : LaidAll n) {x1 : List T_regex_piece} (hne : x1 ≠ []) (hw : ∀ y ∈ x1, WF 1 y) (hn : wts x1 ≤ n) {k : Nat} {t : T_regex_piece} {p : List T_regex_step} (hk : 4 * wts x1 + 2 ≤ k) (hV : V p) (hb : p.length + 4 * wts x1 ≤ 1000000) :
    ∃ q, regex_Expr_choices.f k ⟨t, p⟩ x1 = some ⟨t, q⟩ ∧ Alike p q 0 p.length ∧ alts q (Frag n q) x1 p.length q.length := by
  cases k with
  | zero => omega
  | succ k =>
    rw [regex_Expr_choices.f]
    have hl : 0 < x1.length := List.length_pos_iff.2 hne
    have hxl := wts_len x1
    obtain ⟨js, q, e, h1, h2, h3, h4, h5⟩ := laid_ch0 ih x1 hw hn (by omega) k 0 [] t p hl (by simp; omega) hV (by simpa using hb) (Nat.le_refl _)
    rw [List.drop_zero] at h2 h4
    rw [show ((0 : Nat) : Int) = 0 from rfl, List.map_nil, List.nil_append] at e
    rw [e]
    simp only [Option.bind_some]
    have hjs := altsJ_js (frag_le n) h4
    obtain ⟨q2, e2, h6⟩ := patch_l1 js (altsJ_nodup (frag_le n) h4) k 0 q q (Nat.zero_le _) (by omega) (fun j hj => (hjs.2 j hj).2) (by omega) (by omega) ⟨rfl, fun _ _ => rfl, fun _ h => by cases h⟩
    rw [show ((0 : Nat) : Int) = 0 from rfl] at e2
    rw [e2]
    refine ⟨q2, ?_, ?_, ?_⟩
    · simp only [Option.bind_some, peta]
    · refine h3.trans fun i _ hi => h6.2.1 i fun hj => ?_
      have := (hjs.2 i hj).1
      omega
    · rw [h6.1]
      exact altsJ_patch (frag_le n) (fun x a e hf ha => frag_alike n x a e hf ha) h4 h6 (fun _ h => h) (fun j hj => .inl hj)

theorem laid_n (n : Nat) (ih : LaidAll n) : LaidAll (n + 1) := by
  intro x j hx hn k t t' p q hV hb hk h
  have hp1 := wt_pos x
  cases k with
  | zero => omega
  | succ k =>
    rw [regex_Expr_compile.f] at h
    have put1 : ∀ (s : T_regex_step), ((regex_Expr_put.f k ⟨t, p⟩ s).bind fun y => some y.2) = some ⟨t', q⟩ → Alike p q 0 p.length ∧ q.length = p.length + 1 ∧ q[p.length]? = some s := by
      intro s h
      rw [put_ok s (by omega)] at h
      simp only [Option.bind_some, Option.some.injEq, T_regex_Expr.mk.injEq] at h
      obtain ⟨_, rfl⟩ := h
      exact ⟨alike_app _ _, by simp, by rw [List.getElem?_append_right (Nat.le_refl _), Nat.sub_self]; rfl⟩
    have chs : ∀ ps : List T_regex_piece, ps ≠ [] → (∀ y ∈ ps, WF 1 y) → wts ps ≤ n → 4 * wts ps + 2 ≤ k → p.length + 4 * wts ps ≤ 1000000 → ((regex_Expr_choices.f k ⟨t, p⟩ ps).bind fun y => some y) = some ⟨t', q⟩ → Alike p q 0 p.length ∧ alts q (Frag n q) ps p.length q.length := by
      intro ps hne hw hn' hk' hb' h
      obtain ⟨q', e, h1, h2⟩ := laid_ch ih hne hw hn' hk' hV hb' (t := t)
      rw [e] at h
      simp only [Option.bind_some, Option.some.injEq, T_regex_Expr.mk.injEq] at h
      obtain ⟨_, rfl⟩ := h
      exact ⟨h1, h2⟩
    have n01 : ¬ (1 : Int) = 0 := by decide
    cases hx with
    | num hm =>
      obtain ⟨h1, h2, h3⟩ := put1 _ h
      exact ⟨h1, .inr (.inr (.inl ⟨.inl rfl, h2, _, h3, rfl, rfl, rfl, rfl⟩))⟩
    | any =>
      obtain ⟨h1, h2, h3⟩ := put1 _ h
      exact ⟨h1, .inr (.inr (.inr (.inl ⟨rfl, h2, _, h3, rfl, rfl⟩)))⟩
    | start =>
      obtain ⟨h1, h2, h3⟩ := put1 _ h
      exact ⟨h1, .inr (.inr (.inr (.inr (.inl ⟨rfl, h2, _, h3, rfl⟩))))⟩
    | stop =>
      obtain ⟨h1, h2, h3⟩ := put1 _ h
      exact ⟨h1, .inr (.inr (.inr (.inr (.inr (.inl ⟨rfl, h2, _, h3, rfl⟩)))))⟩
    | set hs1 hs2 =>
      obtain ⟨h1, h2, h3⟩ := put1 _ h
      exact ⟨h1, .inr (.inr (.inl ⟨.inr rfl, h2, _, h3, rfl, rfl, rfl, rfl⟩))⟩
    | par hc =>
      cases hc with
      | choice hne hw =>
        rename_i ps
        simp only [wt, List.length_nil] at hn hk hb
        simp only [if_neg n01, if_true] at h
        obtain ⟨h1, h2⟩ := chs ps hne hw (by omega) (by omega) (by omega) h
        exact ⟨h1, .inr (.inl ⟨rfl, h2⟩)⟩
    | choice hne hw =>
      rename_i ps
      simp only [wt, List.length_nil] at hn hk hb
      simp only [if_neg n01, if_true] at h
      obtain ⟨h1, h2⟩ := chs ps hne hw (by omega) (by omega) (by omega) h
      exact ⟨h1, .inr (.inl ⟨rfl, h2⟩)⟩
    | row hw =>
      rename_i ps
      simp only [wt, List.length_nil] at hn hk hb
      obtain ⟨q', e, h1, h2⟩ := laid_l0 ih ⟨0, ps, [], false⟩ hw (by show wts ps ≤ n; omega) (by have := wts_len ps; show ps.length ≤ _; omega) k 0 t p (Nat.zero_le _) (by show 4 * wts (ps.drop 0) + 1 ≤ k; rw [List.drop_zero]; omega) hV (by show p.length + 4 * wts (ps.drop 0) ≤ _; rw [List.drop_zero]; omega)
      rw [show ((0 : Nat) : Int) = 0 from rfl] at e
      simp only [if_true, e, Option.bind_some, Option.some.injEq, T_regex_Expr.mk.injEq] at h
      obtain ⟨_, rfl⟩ := h
      rw [List.drop_zero] at h2
      exact ⟨h1, .inl ⟨rfl, h2⟩⟩
    | rep hkk hq =>
      rename_i c r
      simp only [wt, wts, List.length_nil] at hn hk hb
      have hr1 := wt_pos r
      have hl0 : lat [r] 0 = some r := rfl
      have e0 : ∀ q : List T_regex_step, ∀ s : T_regex_step, lat (q ++ [s]) (q.length : Int) = some s := fun q s => by
        rw [lat_nat, List.getElem?_append_right (Nat.le_refl _), Nat.sub_self]; rfl
      have eset : ∀ (q : List T_regex_step) (u s : T_regex_step), (q ++ [u]).set q.length s = q ++ [s] := fun q u s => by
        rw [List.set_append_right _ _ (Nat.le_refl _), Nat.sub_self]; rfl
      by_cases h8 : c = 8
      · subst h8
        obtain ⟨q1, e, h1, h2, h3⟩ := comp_ok hq (k := k) (t := t) (p := p) (by omega) hV (by omega)
        obtain ⟨a1, a2⟩ := ih r 0 hq (by omega) k _ _ p q1 hV (by omega) (by omega) e
        have f0 : ¬ (8 : Int) = 0 := by decide
        have f1 : ¬ (8 : Int) = 1 := by decide
        have f2 : ¬ (8 : Int) = 2 := by decide
        have f3 : ¬ (8 : Int) = 3 := by decide
        have f5 : ¬ (8 : Int) = 5 := by decide
        have f6 : ¬ (8 : Int) = 6 := by decide
        have f4 : ((8 : Int) == 4) = false := by decide
        simp only [if_neg f0, if_neg f1, if_neg f2, if_neg f3, if_neg f5, if_neg f6, f4, Option.bind_some, Bool.false_eq_true, if_false, if_true, hl0, e] at h
        rw [put_ok _ (by omega)] at h
        simp only [Option.bind_some, e0, Int.toNat_natCast, eset, Option.some.injEq, T_regex_Expr.mk.injEq] at h
        obtain ⟨_, rfl⟩ := h
        refine ⟨a1.trans ((alike_app q1 _).sub (Nat.le_refl _) h2), .inr (.inr (.inr (.inr (.inr (.inr (.inl ⟨rfl, r, q1.length, rfl, frag_alike n _ _ _ a2 ((alike_app q1 _).sub (Nat.zero_le _) (Nat.le_refl _)), ⟨_, by rw [List.getElem?_append_right (Nat.le_refl _), Nat.sub_self]; rfl, rfl, ?_⟩, by simp⟩))))))⟩
        simp
      · have hc79 : c = 7 ∨ c = 9 := by omega
        have f0 : ¬ c = 0 := by omega
        have f1 : ¬ c = 1 := by omega
        have f2 : ¬ c = 2 := by omega
        have f3 : ¬ c = 3 := by omega
        have f5 : ¬ c = 5 := by omega
        have f6 : ¬ c = 6 := by omega
        have f4 : (c == 4) = false := by simp; omega
        simp only [if_neg f0, if_neg f1, if_neg f2, if_neg f3, if_neg f5, if_neg f6, if_neg h8, f4, Option.bind_some, Bool.false_eq_true, if_false] at h
        rw [put_ok _ (by omega)] at h
        simp only [Option.bind_some, e0, Int.toNat_natCast, eset, hl0] at h
        have hlen1 : ((p ++ [(⟨1, [], false, false, (0, 0)⟩ : T_regex_step)]).length : Int) = ((p.length + 1 : Nat) : Int) := by simp
        rw [hlen1] at h
        have hV2 : V (p ++ [(⟨1, [], false, false, ((p.length + 1 : Nat), 0)⟩ : T_regex_step)]) := hV.app ⟨⟨.inr (.inl rfl), Nat.zero_le _⟩, ⟨Int.natCast_nonneg _, Int.le_refl _⟩, ⟨Int.le_refl _, Int.natCast_nonneg _⟩⟩
        obtain ⟨q1, e, h1, h2, h3⟩ := comp_ok hq (k := k) (t := t) (p := p ++ [⟨1, [], false, false, ((p.length + 1 : Nat), 0)⟩]) (by omega) hV2 (by simp; omega)
        obtain ⟨a1, a2⟩ := ih r 0 hq (by omega) k _ _ _ q1 hV2 (by simp; omega) (by omega) e
        rw [List.length_append, List.length_singleton] at h2 h3 a1 a2
        rw [e, Option.bind_some] at h
        have hq1 : q1[p.length]? = some ⟨1, [], false, false, ((p.length + 1 : Nat), 0)⟩ := by
          rw [a1 p.length (Nat.zero_le _) (by omega), List.getElem?_append_right (Nat.le_refl _), Nat.sub_self]; rfl
        have al0 : Alike p q1 0 p.length := (alike_app p _).trans (a1.sub (Nat.le_refl _) (by omega))
        by_cases h7 : c = 7
        · subst h7
          rw [if_pos rfl, put_ok _ (by omega)] at h
          simp only [Option.bind_some, e0, Int.toNat_natCast, eset] at h
          have e5 : lat (q1 ++ [(⟨1, [], false, false, ((p.length : Int), (p.length : Int))⟩ : T_regex_step)]) (p.length : Int) = some ⟨1, [], false, false, ((p.length + 1 : Nat), 0)⟩ := by
            rw [lat_nat, List.getElem?_append_left (by omega)]; exact hq1
          rw [e5] at h
          simp only [Option.bind_some, Option.some.injEq, T_regex_Expr.mk.injEq] at h
          obtain ⟨_, rfl⟩ := h
          generalize hs0 : (⟨1, [], false, false, (((p.length + 1 : Nat) : Int), ((q1 ++ [(⟨1, [], false, false, ((p.length : Int), (p.length : Int))⟩ : T_regex_step)]).length : Int))⟩ : T_regex_step) = s0
          have g1 : ((q1 ++ [(⟨1, [], false, false, ((p.length : Int), (p.length : Int))⟩ : T_regex_step)]).set p.length s0)[p.length]? = some s0 := by
            rw [List.getElem?_set, if_pos rfl, if_pos (by simp; omega)]
          have g2 : ((q1 ++ [(⟨1, [], false, false, ((p.length : Int), (p.length : Int))⟩ : T_regex_step)]).set p.length s0)[q1.length]? = some ⟨1, [], false, false, ((p.length : Int), (p.length : Int))⟩ := by
            rw [List.getElem?_set, if_neg (by omega), List.getElem?_append_right (Nat.le_refl _), Nat.sub_self]; rfl
          refine ⟨al0.trans (((alike_app q1 _).sub (Nat.le_refl _) (by omega)).trans (alike_set _ _ _ (.inr (Nat.le_refl _)))), .inr (.inr (.inr (.inr (.inr (.inr (.inr (.inl ⟨rfl, r, q1.length, rfl, ⟨s0, g1, by rw [← hs0], by rw [← hs0]; simp⟩, frag_alike n _ _ _ a2 (((alike_app q1 _).sub (Nat.zero_le _) (Nat.le_refl _)).trans (alike_set _ _ _ (.inl (by omega)))), ⟨_, g2, rfl, rfl⟩, by simp⟩)))))))⟩
        · obtain rfl : c = 9 := by omega
          rw [if_neg h7] at h
          simp only [Option.bind_some] at h
          have e5 : lat q1 (p.length : Int) = some ⟨1, [], false, false, ((p.length + 1 : Nat), 0)⟩ := by rw [lat_nat]; exact hq1
          rw [e5] at h
          simp only [Option.bind_some, Int.toNat_natCast, Option.some.injEq, T_regex_Expr.mk.injEq] at h
          obtain ⟨_, rfl⟩ := h
          generalize hs0 : (⟨1, [], false, false, (((p.length + 1 : Nat) : Int), (q1.length : Int))⟩ : T_regex_step) = s0
          have g1 : (q1.set p.length s0)[p.length]? = some s0 := by
            rw [List.getElem?_set, if_pos rfl, if_pos (by omega)]
          refine ⟨al0.trans (alike_set _ _ _ (.inr (Nat.le_refl _))), .inr (.inr (.inr (.inr (.inr (.inr (.inr (.inr ⟨rfl, r, rfl, ⟨s0, g1, by rw [← hs0], by rw [← hs0, List.length_set]⟩, ?_⟩)))))))⟩
          rw [List.length_set]
          exact frag_alike n _ _ _ a2 (alike_set _ _ _ (.inl (by omega)))

theorem laid_all : ∀ n, LaidAll n
  | 0 => fun x _ _ h => by have := wt_pos x; omega
  | n + 1 => laid_n n (laid_all n)
end Go.Proofs.YtkkflfmonidepaaDoor
