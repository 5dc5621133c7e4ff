/-
  HOW A WELL FORMED PATTERN IS WRITTEN, and that what is written reads as it (parts: texts, signs).
-/
import Derived.Test.YtkkflfmonidepaaDoorP8
namespace Go.Proofs.YtkkflfmonidepaaDoor
open Sp
set_option maxRecDepth 100000
set_option maxHeartbeats 4000000

abbrev sgn (c : Int) : T_regex_sign := ⟨c, 0, false⟩
def NDH (r : List UInt8) : Prop := ∀ c t, r = c :: t → ¬ dig c
def LexEq (t : List UInt8) (tk : List T_regex_sign) : Prop := ∀ rest acc, NDH rest → lexS (t ++ rest) [] acc = lexS rest [] (acc ++ tk)
/-- A sign of one byte. -/
def LexC (c : UInt8) (x : T_regex_sign) : Prop := ¬ dig c ∧ ∀ rest acc, lexS (c :: rest) [] acc = lexS rest [] (acc ++ [x])

theorem NDH.nil : NDH [] := fun _ _ h => by cases h
theorem NDH.cons {c : UInt8} {r : List UInt8} (h : ¬ dig c) : NDH (c :: r) := fun _ _ e => by obtain ⟨rfl, _⟩ := List.cons.inj e; exact h

theorem lexS_dig {c : UInt8} {r pend : List UInt8} {acc : List T_regex_sign} (h : dig c) : lexS (c :: r) pend acc = lexS r (pend ++ [c]) acc := by
  rw [lexS]; exact if_pos h
theorem lexS_non {c : UInt8} {r pend : List UInt8} {acc : List T_regex_sign} (h : ¬ dig c) : lexS (c :: r) pend acc = (flushS pend acc).bind fun acc' =>
      if c.toNat = 32 ∨ c.toNat = 95 then lexS r [] (acc' ++ [⟨32, 0, false⟩])
      else if punctI c.toNat then lexS r [] (acc' ++ [⟨(c.toNat : Int), 0, false⟩])
      else none := by
  rw [lexS]; exact if_neg h
theorem flush_nil (acc : List T_regex_sign) : flushS [] acc = some acc := by simp [flushS]
theorem lexC_punct {c : UInt8} (h1 : ¬ dig c) (h2 : ¬ (c.toNat = 32 ∨ c.toNat = 95)) (h3 : punctI c.toNat = true) : LexC c (sgn c.toNat) := by
  refine ⟨h1, fun rest acc => ?_⟩
  rw [lexS_non h1, flush_nil, Option.bind_some, if_neg h2, if_pos h3]
theorem lexC_blank : LexC 32 (sgn 32) := by
  have h : ¬ dig 32 := show ¬ (48 ≤ (32 : UInt8).toNat ∧ (32 : UInt8).toNat ≤ 57) by decide
  refine ⟨h, fun rest acc => ?_⟩
  rw [lexS_non h, flush_nil, Option.bind_some, if_pos (by decide)]
theorem LexC.one {c : UInt8} {x : T_regex_sign} (h : LexC c x) : LexEq [c] [x] := fun rest acc _ => h.2 rest acc
theorem LexC.pre {c : UInt8} {x : T_regex_sign} {t : List UInt8} {tk : List T_regex_sign} (h : LexC c x) (h2 : LexEq t tk) : LexEq (c :: t) (x :: tk) := fun rest acc hr => by
  rw [List.cons_append, h.2, h2 _ _ hr, List.append_assoc]; rfl
/-- Behind a text comes a sign of one byte. -/
theorem LexEq.then {c : UInt8} {x : T_regex_sign} {t t2 : List UInt8} {tk tk2 : List T_regex_sign} (h1 : LexEq t tk) (h : LexC c x) (h2 : LexEq t2 tk2) : LexEq (t ++ c :: t2) (tk ++ x :: tk2) := fun rest acc hr => by
  rw [List.append_assoc, List.cons_append, h1 _ _ (NDH.cons h.1), h.2, h2 _ _ hr, List.append_assoc, List.append_assoc]; rfl
theorem LexEq.nil : LexEq [] [] := fun rest acc _ => by simp
theorem lex_digs : ∀ (d : List UInt8) (pend rest : List UInt8) (acc : List T_regex_sign), (∀ c ∈ d, dig c) → lexS (d ++ rest) pend acc = lexS rest (pend ++ d) acc
  | [], pend, rest, acc, _ => by simp
  | c :: d, pend, rest, acc, h => by
    rw [List.cons_append, lexS_dig (h c (List.mem_cons_self ..)), lex_digs d _ _ _ (fun x hx => h x (List.mem_cons_of_mem _ hx)), List.append_assoc]; rfl
theorem lex_num {m : Nat} (hm : m ≤ 4294967295) : LexEq (dec m) [⟨0, (m : Int), true⟩] := fun rest acc hr => by
  rw [lex_digs _ _ _ _ (dec_dig m), List.nil_append]
  have hne : dec m ≠ [] := fun e => by have := dec_pos m; rw [e] at this; exact absurd this (by decide)
  have hf : flushS (dec m) acc = some (acc ++ [⟨0, (m : Int), true⟩]) := by
    simp only [flushS, if_neg hne, numOf, nv_dec]
    simp [hm]
  cases rest with
  | nil => rw [lexS, lexS, hf]; simp [flushS]
  | cons c r =>
    have hc := hr c r rfl
    rw [lexS_non hc, lexS_non hc, hf, flush_nil]

theorem nd (c : UInt8) (h : ¬ (48 ≤ c.toNat ∧ c.toNat ≤ 57)) : ¬ dig c := h
theorem lexC_45 : LexC 45 (sgn 45) := lexC_punct (nd 45 (by decide)) (by decide) (by decide)
theorem lexC_46 : LexC 46 (sgn 46) := lexC_punct (nd 46 (by decide)) (by decide) (by decide)
theorem lexC_94 : LexC 94 (sgn 94) := lexC_punct (nd 94 (by decide)) (by decide) (by decide)
theorem lexC_36 : LexC 36 (sgn 36) := lexC_punct (nd 36 (by decide)) (by decide) (by decide)
theorem lexC_40 : LexC 40 (sgn 40) := lexC_punct (nd 40 (by decide)) (by decide) (by decide)
theorem lexC_41 : LexC 41 (sgn 41) := lexC_punct (nd 41 (by decide)) (by decide) (by decide)
theorem lexC_91 : LexC 91 (sgn 91) := lexC_punct (nd 91 (by decide)) (by decide) (by decide)
theorem lexC_93 : LexC 93 (sgn 93) := lexC_punct (nd 93 (by decide)) (by decide) (by decide)
theorem lexC_42 : LexC 42 (sgn 42) := lexC_punct (nd 42 (by decide)) (by decide) (by decide)
theorem lexC_43 : LexC 43 (sgn 43) := lexC_punct (nd 43 (by decide)) (by decide) (by decide)
theorem lexC_63 : LexC 63 (sgn 63) := lexC_punct (nd 63 (by decide)) (by decide) (by decide)
theorem lexC_124 : LexC 124 (sgn 124) := lexC_punct (nd 124 (by decide)) (by decide) (by decide)

/-- Lists with something between. -/
def jn {α : Type} (s : α) : List (List α) → List α
  | [] => []
  | [x] => x
  | x :: y :: r => x ++ s :: jn s (y :: r)
theorem jn_join (s : UInt8) : ∀ ls : List (List UInt8), Go.Lib.join ls [s] = jn s ls
  | [] => rfl
  | [x] => Go.Lib.join_one x [s]
  | x :: y :: r => by
    have h := jn_join s (y :: r)
    rw [Go.Lib.join_cons] at h
    rw [Go.Lib.join_cons, jn, ← h]
    simp [Go.Lib.joinTail]
theorem jn_len {α : Type} (s : α) (B : Nat) : ∀ ls : List (List α), (∀ x ∈ ls, x.length ≤ B) → (jn s ls).length ≤ ls.length * (B + 1)
  | [], _ => by simp [jn]
  | [x], h => by have := h x (by simp); simp only [jn, List.length_singleton]; omega
  | x :: y :: r, h => by
    have h1 := jn_len s B (y :: r) (fun z hz => h z (List.mem_cons_of_mem _ hz))
    have h2 := h x (by simp)
    simp only [jn, List.length_append, List.length_cons] at h1 ⊢
    rw [Nat.add_mul, Nat.one_mul]
    omega

theorem join_ok {k : Nat} (s : UInt8) (ls : List (List UInt8)) (h1 : ls.length ≤ 1000000) (h2 : (jn s ls).length ≤ 1000000000) : strings_Join.f k (ls.map B) (B [s]) = some (B (jn s ls)) := by
  have e1 : (ls.map B).map (·.data.toList) = ls := by
    rw [List.map_map]
    conv => rhs; rw [← List.map_id ls]
    congr 1
  have e2 : (B [s]).data.toList = [s] := rfl
  unfold strings_Join.f
  rw [e1, e2, jn_join, if_pos ⟨by rw [List.length_map]; omega, by omega⟩]

/-- Pieces with their texts and signs. -/
abbrev Z := T_regex_piece × List UInt8 × List T_regex_sign
theorem pick {Q : T_regex_piece → List UInt8 → List T_regex_sign → Prop} : ∀ (l : List T_regex_piece), (∀ x ∈ l, ∃ t tk, Q x t tk) → ∃ zs : List Z, zs.map (·.1) = l ∧ ∀ z ∈ zs, Q z.1 z.2.1 z.2.2
  | [], _ => ⟨[], rfl, fun _ h => by cases h⟩
  | x :: l, h => by
    obtain ⟨zs, e, hz⟩ := pick l fun y hy => h y (List.mem_cons_of_mem _ hy)
    obtain ⟨t, tk, hq⟩ := h x (List.mem_cons_self ..)
    refine ⟨(x, t, tk) :: zs, by simp [e], fun z hz' => ?_⟩
    rcases List.mem_cons.1 hz' with rfl | hz'
    · exact hq
    · exact hz z hz'

theorem lex_jn {c : UInt8} {x : T_regex_sign} (hc : LexC c x) : ∀ (zs : List Z), (∀ z ∈ zs, LexEq z.2.1 z.2.2) → LexEq (jn c (zs.map (·.2.1))) (jn x (zs.map (·.2.2)))
  | [], _ => LexEq.nil
  | [z], h => h z (by simp)
  | z :: y :: r, h => by
    have h1 := lex_jn hc (y :: r) (fun w hw => h w (List.mem_cons_of_mem _ hw))
    exact (h z (by simp)).then hc h1

/-! ### Texts -/

def TextI (p : T_regex_piece) (t : List UInt8) : Prop := ∀ k, 4 * wt p + 40 ≤ k → regex_text.f k p = some (B t)

theorem texts_l0 (zs : List Z) (h : ∀ z ∈ zs, TextI z.1 z.2.1) (hw : wts (zs.map (·.1)) ≤ 100000) : ∀ (k i : Nat) (done : List (List UInt8)), i ≤ zs.length → 4 * wts ((zs.map (·.1)).drop i) + 42 ≤ k → done.length = i →
    regex_texts.l0 k (zs.map (·.1)) (done.map B) (i : Int) = some ((done ++ (zs.map (·.2.1)).drop i).map B)
  | 0, _, _, _, h, _ => by omega
  | k + 1, i, done, hi, hk, hd => by
    have hzl := wts_len (zs.map (·.1))
    rw [List.length_map] at hzl
    rw [regex_texts.l0, List.length_map]
    by_cases hlt : i < zs.length
    · rw [if_pos (by omega), lat_nat, List.getElem?_eq_getElem (by rw [List.length_map]; exact hlt)]
      rw [Option.bind_some, List.getElem_map]
      have hw1 := wts_drop (l := zs.map (·.1)) (i := i) (x := zs[i].1) (by simp [hlt])
      have hp := wt_pos zs[i].1
      rw [h zs[i] (List.getElem_mem hlt) k (by omega), Option.bind_some]
      have ha : Sp.app 16 (done.map B) [B zs[i].2.1] = some (done.map B ++ [B zs[i].2.1]) := app_small (by simp; omega) (by decide)
      rw [ha, Option.bind_some, i64_id (by omega) (by omega), show (i : Int) + 1 = ((i + 1 : Nat) : Int) by omega]
      have e : done.map B ++ [B zs[i].2.1] = (done ++ [zs[i].2.1]).map B := by simp
      rw [e, texts_l0 zs h hw k (i + 1) (done ++ [zs[i].2.1]) (by omega) (by omega) (by simp; omega)]
      congr 2
      rw [List.drop_eq_getElem_cons (l := zs.map (·.2.1)) (i := i) (by rw [List.length_map]; exact hlt), List.getElem_map, List.append_assoc]
      rfl
    · rw [if_neg (by omega)]
      have : (zs.map (·.2.1)).drop i = [] := List.drop_eq_nil_of_le (by rw [List.length_map]; omega)
      rw [this, List.append_nil]

theorem texts_ok (s : UInt8) (zs : List Z) (h : ∀ z ∈ zs, TextI z.1 z.2.1) (hw : wts (zs.map (·.1)) ≤ 100000) (hl : (jn s (zs.map (·.2.1))).length ≤ 1000000000) {k : Nat} (hk : 4 * wts (zs.map (·.1)) + 43 ≤ k) :
    regex_texts.f k (zs.map (·.1)) (B [s]) = some (B (jn s (zs.map (·.2.1)))) := by
  cases k with
  | zero => omega
  | succ k =>
    have hzl := wts_len (zs.map (·.1))
    rw [List.length_map] at hzl
    rw [regex_texts.f]
    have e := texts_l0 zs h hw k 0 [] (Nat.zero_le _) (by rw [List.drop_zero]; omega) rfl
    rw [show ((0 : Nat) : Int) = 0 from rfl, List.map_nil, List.nil_append, List.drop_zero] at e
    rw [e, Option.bind_some, join_ok s _ (by rw [List.length_map]; omega) hl]
    rfl

/-! ### The members of a set -/

def memT (s : T_regex_span) : List UInt8 := if s.to_ = s.from_ then dec s.from_.toNat else dec s.from_.toNat ++ 45 :: dec s.to_.toNat
def memK (s : T_regex_span) : List T_regex_sign := if s.to_ = s.from_ then [⟨0, s.from_, true⟩] else [⟨0, s.from_, true⟩, sgn 45, ⟨0, s.to_, true⟩]
theorem memT_len {s : T_regex_span} (h : spanOk s) : (memT s).length ≤ 21 := by
  obtain ⟨⟨h1, h2⟩, ⟨h3, h4⟩, _⟩ := h
  have d1 := dec_len 9 s.from_.toNat (by omega)
  have d2 := dec_len 9 s.to_.toNat (by omega)
  unfold memT
  split
  · omega
  · simp; omega
theorem memT_lex {s : T_regex_span} (h : spanOk s) : LexEq (memT s) (memK s) := by
  obtain ⟨⟨h1, h2⟩, ⟨h3, h4⟩, _⟩ := h
  have n1 := lex_num (m := s.from_.toNat) (by omega)
  have n2 := lex_num (m := s.to_.toNat) (by omega)
  rw [Int.toNat_of_nonneg h1] at n1
  rw [Int.toNat_of_nonneg h3] at n2
  unfold memT memK
  split
  · exact n1
  · exact n1.then lexC_45 n2

theorem members_l0 (ss : List T_regex_span) (h : ∀ s ∈ ss, spanOk s) (hl : ss.length ≤ 100000) : ∀ (k i : Nat) (done : List (List UInt8)), i ≤ ss.length → ss.length + 25 ≤ k + i → done.length = i →
    regex_members.l0 k ss (done.map B) (i : Int) = some ((done ++ (ss.map memT).drop i).map B)
  | 0, _, _, _, h, _ => by omega
  | k + 1, i, done, hi, hk, hd => by
    rw [regex_members.l0]
    by_cases hlt : i < ss.length
    · rw [if_pos (by omega), lat_nat, List.getElem?_eq_getElem hlt, Option.bind_some]
      obtain ⟨⟨h1, h2⟩, ⟨h3, h4⟩, _⟩ := h ss[i] (List.getElem_mem hlt)
      have t1 : octet_Text.f k (i64 ss[i].from_) = some (B (dec ss[i].from_.toNat)) := by
        rw [i64_id (by omega) (by omega)]
        have := text_ok (k := k) (n := ss[i].from_.toNat) (by omega) (by omega)
        rwa [Int.toNat_of_nonneg h1] at this
      have t2 : octet_Text.f k (i64 ss[i].to_) = some (B (dec ss[i].to_.toNat)) := by
        rw [i64_id (by omega) (by omega)]
        have := text_ok (k := k) (n := ss[i].to_.toNat) (by omega) (by omega)
        rwa [Int.toNat_of_nonneg h3] at this
      have d1 := dec_len 9 ss[i].from_.toNat (by omega)
      have d2 := dec_len 9 ss[i].to_.toNat (by omega)
      have fin : (Sp.app 16 (done.map B) [B (memT ss[i])]).bind (fun l => regex_members.l0 k ss l ((i + 1 : Nat) : Int)) = some ((done ++ (ss.map memT).drop i).map B) := by
        have ha : Sp.app 16 (done.map B) [B (memT ss[i])] = some (done.map B ++ [B (memT ss[i])]) := app_small (by simp; omega) (by decide)
        rw [ha, Option.bind_some]
        have e : done.map B ++ [B (memT ss[i])] = (done ++ [memT ss[i]]).map B := by simp
        rw [e, members_l0 ss h hl k (i + 1) (done ++ [memT ss[i]]) (by omega) (by omega) (by simp; omega)]
        congr 2
        rw [List.drop_eq_getElem_cons (l := ss.map memT) (i := i) (by rw [List.length_map]; exact hlt), List.getElem_map, List.append_assoc]
        rfl
      have hi1 : i64 ((i : Int) + 1) = ((i + 1 : Nat) : Int) := by rw [i64_id (by omega) (by omega)]; omega
      rw [t1, Option.bind_some, hi1]
      by_cases he : ss[i].to_ = ss[i].from_
      · rw [if_pos he]
        have hm : memT ss[i] = dec ss[i].from_.toNat := by unfold memT; rw [if_pos he]
        rw [hm] at fin
        exact fin
      · rw [if_neg he, t2, Option.bind_some]
        have hm : memT ss[i] = dec ss[i].from_.toNat ++ 45 :: dec ss[i].to_.toNat := by unfold memT; rw [if_neg he]
        have c1' : scat (⟨#[45]⟩) (B (dec ss[i].to_.toNat)) = some (B (45 :: dec ss[i].to_.toNat)) := by
          unfold scat
          have hs := B_size (dec ss[i].to_.toNat)
          rw [if_pos (by show 1 + (B (dec ss[i].to_.toNat)).size ≤ _; omega)]
          congr 1
        rw [c1', Option.bind_some]
        have c2 : scat (B (dec ss[i].from_.toNat)) (B (45 :: dec ss[i].to_.toNat)) = some (B (memT ss[i])) := by
          unfold scat
          rw [if_pos (by rw [B_size, B_size]; simp; omega), hm]
          congr 1
        rw [c2, Option.bind_some]
        exact fin
    · rw [if_neg (by omega)]
      have : (ss.map memT).drop i = [] := List.drop_eq_nil_of_le (by rw [List.length_map]; omega)
      rw [this, List.append_nil]
theorem members_ok {k : Nat} (ss : List T_regex_span) (h : ∀ s ∈ ss, spanOk s) (hl : ss.length ≤ 100000) (hk : ss.length + 30 ≤ k) : regex_members.f k ss = some (B (jn 32 (ss.map memT))) := by
  rw [regex_members.f]
  have e := members_l0 ss h hl k 0 [] (Nat.zero_le _) (by omega) rfl
  rw [show ((0 : Nat) : Int) = 0 from rfl, List.map_nil, List.nil_append, List.drop_zero] at e
  have hj := jn_len (32 : UInt8) 21 (ss.map memT) (fun x hx => by
    obtain ⟨s, hs, rfl⟩ := List.mem_map.1 hx
    exact memT_len (h s hs))
  rw [List.length_map] at hj
  rw [e, Option.bind_some]
  have := join_ok (k := k) 32 (ss.map memT) (by rw [List.length_map]; omega) (by omega)
  rw [show (⟨#[32]⟩ : ByteArray) = B [32] from rfl, this]
  rfl
end Go.Proofs.YtkkflfmonidepaaDoor
