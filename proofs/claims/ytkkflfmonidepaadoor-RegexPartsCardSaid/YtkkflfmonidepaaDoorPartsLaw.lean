/-
  WHAT TWO PATTERNS TAKE, one behind the other, and one or the other: said of the plain function that RegexParts computes.
-/
import Derived.Test.YtkkflfmonidepaaDoorP19
import Derived.KernelRfl
namespace Go.Proofs.YtkkflfmonidepaaDoor
open Sp
set_option maxRecDepth 100000
set_option maxHeartbeats 4000000

theorem awakeP : speculumlaw11_awake.f 10000000 = some true := by kernel_rfl

theorem ends_l0 (t : List UInt8) (ht : t.length ≤ 1000) : ∀ (k p : Nat), p ≤ t.length → t.length < k + p → ∃ o, speculumlaw11_hasEnds.l0 k (B t) (p : Int) = some o ∧ (o = .inl true ∨ (o = .inr () ∧ noEnds (t.drop p)))
  | 0, p, h1, h2 => by omega
  | k + 1, p, h1, h2 => by
    rw [speculumlaw11_hasEnds.l0, B_size]
    by_cases hp : p < t.length
    · rw [if_pos (by omega), sat_B, List.getElem?_eq_getElem hp, Option.map_some, Option.bind_some]
      by_cases h94 : ((t[p].toNat : Nat) : Int) = 94
      · rw [if_pos h94]
        exact ⟨_, rfl, .inl rfl⟩
      · rw [if_neg h94, Option.bind_some]
        by_cases h36 : ((t[p].toNat : Nat) : Int) = 36
        · rw [if_pos h36]
          exact ⟨_, rfl, .inl rfl⟩
        · rw [if_neg h36, i64_id (by omega) (by omega)]
          obtain ⟨o, e, h⟩ := ends_l0 t ht k (p + 1) (by omega) (by omega)
          refine ⟨o, by rw [← e]; rfl, h.imp id fun ⟨h3, h4⟩ => ⟨h3, ?_⟩⟩
          rw [List.drop_eq_getElem_cons hp]
          intro c hc
          rcases List.mem_cons.1 hc with rfl | hc
          · exact ⟨by omega, by omega⟩
          · exact h4 c hc
    · rw [if_neg (by omega)]
      refine ⟨_, rfl, .inr ⟨rfl, ?_⟩⟩
      rw [List.drop_eq_nil_of_le (by omega)]
      intro c hc
      cases hc
theorem ends_ok (t : List UInt8) (ht : t.length ≤ 1000) : ∃ b, speculumlaw11_hasEnds.f 10000000 (B t) = some b ∧ (b = false → noEnds t) := by
  obtain ⟨o, e, h⟩ := ends_l0 t ht 10000000 0 (Nat.zero_le _) (by omega)
  rw [speculumlaw11_hasEnds.f, show (0 : Int) = ((0 : Nat) : Int) from rfl, e, Option.bind_some]
  rcases h with rfl | ⟨rfl, h⟩
  · exact ⟨true, rfl, fun h => by cases h⟩
  · exact ⟨false, rfl, fun _ => h⟩

theorem sem_took {p : T_regex_piece} (hw : wt p ≤ 1000) (l : List Int) : Sem 1000 l p 0 l.length ↔ Took p l := sem_eq l _ _ p hw (Nat.le_refl _) _ _
theorem src_wt {t : List UInt8} {p : T_regex_piece} (h : Src t p) : wt p ≤ 1000 := by
  obtain ⟨ht, tk, h1, r, hc, _⟩ := h
  obtain ⟨hs, hl⟩ := lex_sgs t [] [] tk h1.lex (fun _ h => by cases h)
  simp only [List.length_nil] at hl
  obtain ⟨_, _, g3⟩ := res_inv (choices_ok (k := 10000000) (b := false) (by omega) hs (by omega)) hc
  omega

/-- A pattern between ^ and $. -/
theorem whole_ok {k : Nat} (hk : 5000000 ≤ k) {t : List UInt8} {p : T_regex_piece} (h : Src t p) (l : List Int) (hl : l.length ≤ 1000000) : ∃ b, speculumlaw11_RegexParts_1.f k (B t) l = some b ∧ (b = true ↔ Took p l) := by
  have ht := h.1
  obtain ⟨e, h1, h2, h3⟩ := parse_one hk h
  obtain ⟨b, h4, h5⟩ := match_top hk h3 h2 l hl
  have hw := src_wt h
  refine ⟨b, ?_, h5.trans ?_⟩
  · rw [speculumlaw11_RegexParts_1.f, show (⟨#[94, 40]⟩ : ByteArray) = B [94, 40] from rfl, show (⟨#[41, 36]⟩ : ByteArray) = B [41, 36] from rfl, scat_B (by simp; omega), Option.bind_some, scat_B (by simp; omega), Option.bind_some, h1, Option.bind_some]
    simp only [h4, Option.bind_some]
  · simp only [schain]
    constructor
    · rintro ⟨m, h, rfl⟩; exact (sem_took hw l).1 h
    · intro h; exact ⟨_, (sem_took hw l).2 h, rfl⟩

/-- Some cut. -/
theorem cut_ok {t u : List UInt8} {p q : T_regex_piece} (h : Src t p) (g : Src u q) (l : List Int) (hl : l.length ≤ 1000) : ∀ (k i : Nat) (b : Bool), i ≤ l.length + 1 → 6000000 + (l.length + 2) ≤ k + i →
    ∃ c, speculumlaw11_RegexParts.l0 k (B t) (B u) l b (i : Int) = some c ∧ (c = true ↔ b = true ∨ ∃ j, i ≤ j ∧ j ≤ l.length ∧ Took p (l.take j) ∧ Took q (l.drop j))
  | 0, i, b, h1, h2 => by omega
  | k + 1, i, b, h1, h2 => by
    rw [speculumlaw11_RegexParts.l0]
    by_cases hi : i ≤ l.length
    · have hnx : i64 ((i : Int) + 1) = ((i + 1 : Nat) : Int) := by rw [i64_id (by omega) (by omega)]; rfl
      rw [if_pos (by omega), hnx]
      by_cases hb : b = true
      · subst hb
        rw [if_pos rfl]
        obtain ⟨c, e, hc⟩ := cut_ok h g l hl k (i + 1) true (by omega) (by omega)
        exact ⟨c, e, ⟨fun _ => .inl rfl, fun _ => hc.2 (.inl rfl)⟩⟩
      · have hbf : b = false := by simpa using hb
        subst hbf
        rw [if_neg hb]
        have e1 : cutR l (i : Int) = some (l.take i) := by unfold cutR; rw [if_pos ⟨by omega, by omega⟩]; rfl
        have e2 : cutL l (i : Int) = some (l.drop i) := by unfold cutL; rw [if_pos ⟨by omega, by omega⟩]; rfl
        rw [e1, Option.bind_some]
        obtain ⟨b1, f1, f2⟩ := whole_ok (k := k) (by omega) h (l.take i) (by simp; omega)
        rw [f1, Option.bind_some]
        have split : (∃ j, i ≤ j ∧ j ≤ l.length ∧ Took p (l.take j) ∧ Took q (l.drop j)) ↔ (Took p (l.take i) ∧ Took q (l.drop i)) ∨ ∃ j, i + 1 ≤ j ∧ j ≤ l.length ∧ Took p (l.take j) ∧ Took q (l.drop j) := by
          constructor
          · rintro ⟨j, a1, a2, a3⟩
            rcases Nat.lt_or_eq_of_le a1 with a1 | rfl
            · exact .inr ⟨j, a1, a2, a3⟩
            · exact .inl a3
          · rintro (a | ⟨j, a1, a2, a3⟩)
            · exact ⟨i, Nat.le_refl _, hi, a⟩
            · exact ⟨j, by omega, a2, a3⟩
        rw [split]
        by_cases hb1 : b1 = true
        · rw [if_pos hb1, e2, Option.bind_some]
          obtain ⟨b2, f3, f4⟩ := whole_ok (k := k) (by omega) g (l.drop i) (by simp; omega)
          rw [f3, Option.bind_some]
          obtain ⟨c, e, hc⟩ := cut_ok h g l hl k (i + 1) b2 (by omega) (by omega)
          refine ⟨c, e, hc.trans ?_⟩
          rw [f4]
          have := f2.1 hb1
          simp [this]
        · rw [if_neg hb1]
          obtain ⟨c, e, hc⟩ := cut_ok h g l hl k (i + 1) false (by omega) (by omega)
          refine ⟨c, e, hc.trans ?_⟩
          have : ¬ Took p (l.take i) := fun hh => hb1 (f2.2 hh)
          simp [this]
    · rw [if_neg (by omega)]
      refine ⟨b, rfl, ⟨.inl, fun hh => ?_⟩⟩
      rcases hh with hh | ⟨j, a1, a2, _⟩
      · exact hh
      · omega

theorem data_B (x : ByteArray) : x = B x.data.toList := (B_data x).symm

theorem parts_law (x0 x1 : ByteArray) (x2 : List Int) (_ : x0.size ≤ Go.maxLen) (_ : x1.size ≤ Go.maxLen) (_ : x2.length ≤ Go.maxLen ∧ ∀ x ∈ x2, (Go.Lit.int .u32 x).wf = true) : ∃ k, speculumlaw11_RegexParts.f k x0 x1 x2 = some true := by
  refine ⟨10000000, ?_⟩
  rw [speculumlaw11_RegexParts.f]
  simp only [awakeP, Option.bind_some]
  split
  · rfl
  · rename_i s0
    split
    · rfl
    · rename_i s1
      split
      · rfl
      · rename_i s2
        rw [data_B x0, data_B x1]
        have l0 : x0.data.toList.length ≤ 20 := by rw [size_data]; omega
        have l1 : x1.data.toList.length ≤ 20 := by rw [size_data]; omega
        have l2 : x2.length ≤ 12 := by omega
        generalize x0.data.toList = t at *
        generalize x1.data.toList = u at *
        obtain ⟨⟨ra, fa⟩, ea, _⟩ := parse_ok (k := 10000000) (by omega) (B t) (by rw [B_size]; omega)
        obtain ⟨⟨rb, fb⟩, eb, _⟩ := parse_ok (k := 10000000) (by omega) (B u) (by rw [B_size]; omega)
        rw [ea, eb]
        simp only [Option.bind_some]
        split
        · rename_i ha
          subst ha
          split
          · rename_i hb
            subst hb
            obtain ⟨p, sp, np⟩ := parse_inv (by omega) ea
            obtain ⟨q, sq, nq⟩ := parse_inv (by omega) eb
            obtain ⟨ba, ga, na'⟩ := ends_ok t (by omega)
            obtain ⟨bb, gb, nb'⟩ := ends_ok u (by omega)
            rw [ga, gb]
            simp only [Option.bind_some]
            split
            · rfl
            · rename_i hba
              split
              · rfl
              · rename_i hbb
                have hnp := np (na' (by simpa using hba))
                have hnq := nq (nb' (by simpa using hbb))
                obtain ⟨c, ec, hc⟩ := cut_ok sp sq x2 (by omega) 10000000 0 false (by omega) (by omega)
                rw [show ((0 : Nat) : Int) = 0 from rfl] at ec
                rw [ec, Option.bind_some]
                obtain ⟨e, h1, h2, h3⟩ := parse_two (k := 10000000) (by omega) sp sq (by omega)
                obtain ⟨b, h4, h5⟩ := match_top (k := 10000000) (by omega) h3 h2 x2 (by omega)
                have hcb : b = c := by
                  rw [Bool.eq_iff_iff, h5, hc]
                  simp only [schain, Bool.false_eq_true, false_or]
                  have wp := src_wt sp
                  have wq := src_wt sq
                  have tp : ∀ j, j ≤ x2.length → (Took p (x2.take j) ↔ Sem 1000 x2 p 0 j) := fun j hj => by
                    have := took_part hnp [] (x2.take j) (x2.drop j)
                    rw [List.nil_append, List.take_append_drop, List.length_take, Nat.min_eq_left hj, List.length_nil, Nat.zero_add] at this
                    exact this.trans (sem_eq x2 _ _ p (Nat.le_refl _) wp _ _)
                  have tq : ∀ j, j ≤ x2.length → (Took q (x2.drop j) ↔ Sem 1000 x2 q j x2.length) := fun j hj => by
                    have := took_part hnq (x2.take j) (x2.drop j) []
                    rw [List.append_nil, List.take_append_drop, List.length_take, Nat.min_eq_left hj, List.length_drop, show j + (x2.length - j) = x2.length by omega] at this
                    exact this.trans (sem_eq x2 _ _ q (Nat.le_refl _) wq _ _)
                  constructor
                  · rintro ⟨m, a1, m2, a2, rfl⟩
                    have hm := sem_le _ _ _ _ _ a2
                    exact ⟨m, Nat.zero_le _, hm, (tp m hm).2 a1, (tq m hm).2 a2⟩
                  · rintro ⟨m, _, hm, a1, a2⟩
                    exact ⟨m, (tp m hm).1 a1, _, (tq m hm).1 a2, rfl⟩
                rw [show (⟨#[94, 40]⟩ : ByteArray) = B [94, 40] from rfl, show (⟨#[41, 32, 40]⟩ : ByteArray) = B [41, 32, 40] from rfl, show (⟨#[41, 36]⟩ : ByteArray) = B [41, 36] from rfl, show (⟨#[40]⟩ : ByteArray) = B [40] from rfl, show (⟨#[41, 124, 40]⟩ : ByteArray) = B [41, 124, 40] from rfl, show (⟨#[41]⟩ : ByteArray) = B [41] from rfl]
                rw [scat_B (by simp; omega), Option.bind_some, scat_B (by simp; omega), Option.bind_some, scat_B (by simp; omega), Option.bind_some, scat_B (by simp; omega), Option.bind_some, h1, Option.bind_some]
                simp only
                rw [h4, Option.bind_some, if_pos hcb]
                rw [scat_B (by simp; omega), Option.bind_some, scat_B (by simp; omega), Option.bind_some, scat_B (by simp; omega), Option.bind_some, scat_B (by simp; omega), Option.bind_some]
                have so := src_or sp sq (by omega)
                obtain ⟨w0, k0, j0⟩ := whole_ok (k := 10000000) (by omega) so x2 (by omega)
                obtain ⟨w1, k1, j1⟩ := whole_ok (k := 10000000) (by omega) sp x2 (by omega)
                obtain ⟨w2, k2, j2⟩ := whole_ok (k := 10000000) (by omega) sq x2 (by omega)
                have hor : Took ⟨1, [⟨0, [p], [], false⟩, ⟨0, [q], [], false⟩], [], false⟩ x2 ↔ Took p x2 ∨ Took q x2 := by
                  have wp := src_wt sp
                  have wq := src_wt sq
                  have wo := src_wt so
                  rw [← sem_took wo, ← sem_took wp, ← sem_took wq]
                  have e1 := sem_eq x2 1000 1002 _ wo (by omega) 0 x2.length
                  rw [e1, sem_k1 (n := 1001) rfl]
                  have r : ∀ y : T_regex_piece, Sem 1001 x2 ⟨0, [y], [], false⟩ 0 x2.length ↔ Sem 1000 x2 y 0 x2.length := fun y => by
                    rw [sem_k0 (n := 1000) rfl]
                    simp [schain]
                  simp [r]
                have hw : w0 = true ↔ w1 = true ∨ w2 = true := by rw [j0, j1, j2]; exact hor
                rw [k0, k1, k2]
                simp only [Option.bind_some]
                cases w0 <;> cases w1 <;> cases w2 <;> simp at hw ⊢
          · rfl
        · rfl
end Go.Proofs.YtkkflfmonidepaaDoor
