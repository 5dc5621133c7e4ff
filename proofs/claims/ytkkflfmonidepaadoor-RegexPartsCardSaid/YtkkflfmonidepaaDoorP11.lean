/-
  EVERY WELL FORMED PATTERN IS WRITTEN, AND READ AS IT WAS WRITTEN.
-/
import Derived.Test.YtkkflfmonidepaaDoorP10
namespace Go.Proofs.YtkkflfmonidepaaDoor
open Sp
set_option maxRecDepth 100000
set_option maxHeartbeats 4000000

def ItemAll (p : T_regex_piece) : Prop := ∃ t tk, TextI p t ∧ LexEq t tk ∧ ItemP p tk ∧ t.length + 2 ≤ 24 * wt p
def RowAll (p : T_regex_piece) : Prop := ∃ t tk, TextI p t ∧ LexEq t tk ∧ RowP p tk ∧ t.length + 2 ≤ 24 * wt p
def ChAll (p : T_regex_piece) : Prop := ∃ t tk, (∀ k, 4 * wts p.parts + 43 ≤ k → regex_texts.f k p.parts (B [124]) = some (B t)) ∧ LexEq t tk ∧ ChP p tk ∧ t.length ≤ 24 * wts p.parts

theorem jn_len2 {s : UInt8} : ∀ (zs : List Z), (∀ z ∈ zs, z.2.1.length + 2 ≤ 24 * wt z.1) → (jn s (zs.map (·.2.1))).length ≤ 24 * wts (zs.map (·.1))
  | [], _ => by simp [jn]
  | [z], h => by
    have := h z (by simp)
    simp only [List.map_cons, List.map_nil, jn, wts]
    omega
  | z :: y :: r, h => by
    have h1 := jn_len2 (s := s) (y :: r) fun w hw => h w (List.mem_cons_of_mem _ hw)
    have h2 := h z (by simp)
    simp only [List.map_cons, jn, List.length_append, List.length_cons, wts] at h1 ⊢
    omega

theorem lex_mem (ss : List T_regex_span) (h : ∀ s ∈ ss, spanOk s) : LexEq (jn 32 (ss.map memT)) (jn (sgn 32) (ss.map memK)) := by
  have h1 := lex_jn lexC_blank (ss.map fun s => ((⟨0, [], [], false⟩, memT s, memK s) : Z)) (fun z hz => by
    obtain ⟨s, hs, rfl⟩ := List.mem_map.1 hz
    exact memT_lex (h s hs))
  rw [List.map_map, List.map_map] at h1
  exact h1

theorem scat_B {a b : List UInt8} (h : a.length + b.length ≤ 1000000000) : scat (B a) (B b) = some (B (a ++ b)) := by
  unfold scat
  rw [if_pos (by rw [B_size, B_size]; omega)]
  congr 1

/-- An item of one sign. -/
theorem item_one {p : T_regex_piece} {x : T_regex_sign} (hx : firstOk x) (h : ∀ l k, 1 ≤ k → regex_reader_atom.f k ⟨l, false⟩ x = some (p, ⟨l, false⟩)) : ItemP p [x] :=
  ⟨x, [], rfl, hx, fun rest k hk _ => ⟨p, rest, 0, by rw [List.nil_append]; exact h rest k (by omega), Nat.le_refl _, fun K _ => rfl⟩⟩

theorem item_num {n : Int} (h : num32 n) : ItemAll ⟨2, [], [⟨n, n⟩], false⟩ := by
  obtain ⟨h0, h1⟩ := h
  have hs : ∀ s ∈ [(⟨n, n⟩ : T_regex_span)], spanOk s := fun s hs => by
    rw [List.mem_singleton] at hs; subst hs
    exact ⟨⟨h0, h1⟩, ⟨h0, h1⟩, Int.le_refl _⟩
  have hm : jn 32 ([(⟨n, n⟩ : T_regex_span)].map memT) = dec n.toNat := by simp [jn, memT]
  have hl := lex_num (m := n.toNat) (by omega)
  rw [Int.toNat_of_nonneg h0] at hl
  refine ⟨dec n.toNat, [⟨0, n, true⟩], fun k hk => ?_, hl, item_one ⟨⟨(by show ¬ (0 : Int) = 32; decide), (by show ¬ (0 : Int) = 42; decide), (by show ¬ (0 : Int) = 43; decide), (by show ¬ (0 : Int) = 63; decide)⟩, .inl rfl⟩ (fun l k hk => ?_), ?_⟩
  · simp only [wt, wts] at hk
    cases k with
    | zero => omega
    | succ k =>
      have e := members_ok (k := k) [⟨n, n⟩] hs (by simp) (by simp at hk ⊢; omega)
      rw [hm] at e
      rw [regex_text.f, if_neg (by show ¬ (2 : Int) = 0; decide), if_neg (by show ¬ (2 : Int) = 1; decide), if_pos rfl, e]
      rfl
  · cases k with
    | zero => omega
    | succ k => rw [regex_reader_atom.f, if_pos rfl]
  · have := dec_len 9 n.toNat (by omega)
    simp only [wt, wts, List.length_singleton]
    omega

theorem item_sign {c : UInt8} {kd : Int} (hc : LexC c (sgn c.toNat)) (hf : firstOk (sgn c.toNat)) (ht : ∀ k, regex_text.f (k + 1) ⟨kd, [], [], false⟩ = some (B [c])) (ha : ∀ l k, regex_reader_atom.f (k + 1) ⟨l, false⟩ (sgn c.toNat) = some (⟨kd, [], [], false⟩, ⟨l, false⟩)) : ItemAll ⟨kd, [], [], false⟩ := by
  refine ⟨[c], [sgn c.toNat], fun k hk => ?_, hc.one, item_one hf (fun l k hk => ?_), ?_⟩
  · cases k with
    | zero => omega
    | succ k => exact ht k
  · cases k with
    | zero => omega
    | succ k => exact ha l k
  · simp [wt, wts]

theorem item_set {ss : List T_regex_span} {b : Bool} (hne : ss ≠ []) (hs : ∀ s ∈ ss, spanOk s) (hb : ss.length ≤ 100000) : ItemAll ⟨4, [], ss, b⟩ := by
  have hj := jn_len (32 : UInt8) 21 (ss.map memT) (fun x hx => by
    obtain ⟨s, hs', rfl⟩ := List.mem_map.1 hx
    exact memT_len (hs s hs'))
  rw [List.length_map] at hj
  have hl := lex_mem ss hs
  have hl2 : LexEq ((if b then [94] else []) ++ (jn 32 (ss.map memT) ++ 93 :: [])) ((if b then [sgn 94] else []) ++ (jn (sgn 32) (ss.map memK) ++ sgn 93 :: [])) := by
    cases b with
    | true => exact lexC_94.pre (hl.then lexC_93 LexEq.nil)
    | false => exact hl.then lexC_93 LexEq.nil
  refine ⟨91 :: ((if b then [94] else []) ++ (jn 32 (ss.map memT) ++ 93 :: [])), sgn 91 :: ((if b then [sgn 94] else []) ++ (jn (sgn 32) (ss.map memK) ++ sgn 93 :: [])), fun k hk => ?_, lexC_91.pre hl2, ?_, ?_⟩
  · simp only [wt, wts] at hk
    cases k with
    | zero => omega
    | succ k =>
      have e := members_ok (k := k) ss hs hb (by omega)
      have f (n : Int) (hn : (4 : Int) ≠ n) : ¬ (4 : Int) = n := hn
      rw [regex_text.f, if_neg (f 0 (by decide)), if_neg (f 1 (by decide)), if_neg (f 2 (by decide)), if_neg (f 3 (by decide)), if_neg (f 5 (by decide)), if_neg (f 6 (by decide)), if_neg (f 7 (by decide)), if_neg (f 8 (by decide)), if_neg (f 9 (by decide))]
      cases b with
      | true =>
        rw [if_pos rfl]
        simp only [e, Option.bind_some]
        rw [show (⟨#[91, 94]⟩ : ByteArray) = B [91, 94] from rfl, show (⟨#[93]⟩ : ByteArray) = B [93] from rfl, scat_B (by simp; omega), Option.bind_some, scat_B (by simp; omega)]
        simp
      | false =>
        rw [if_neg (by show ¬ false = true; decide)]
        simp only [e, Option.bind_some]
        rw [show (⟨#[91]⟩ : ByteArray) = B [91] from rfl, show (⟨#[93]⟩ : ByteArray) = B [93] from rfl, scat_B (by simp; omega), Option.bind_some, scat_B (by simp; omega)]
        simp
  · refine ⟨sgn 91, _, rfl, ⟨⟨by decide, by decide, by decide, by decide⟩, .inr ⟨by decide, by decide, by decide⟩⟩, fun rest k hk hlen => ?_⟩
    have e0 : ((if b then [sgn 94] else []) ++ (jn (sgn 32) (ss.map memK) ++ sgn 93 :: [])) ++ rest = (if b then [sgn 94] else []) ++ jn (sgn 32) (ss.map memK) ++ sgn 93 :: rest := by simp
    rw [e0] at hk ⊢
    cases k with
    | zero => omega
    | succ k =>
      refine ⟨⟨4, [], ss, b⟩, rest, 0, ?_, Nat.zero_le _, fun K _ => rfl⟩
      rw [regex_reader_atom.f, if_neg (by show ¬ false = true; decide), if_neg (by show ¬ (91 : Int) = 46; decide), if_neg (by show ¬ (91 : Int) = 94; decide), if_neg (by show ¬ (91 : Int) = 36; decide), if_pos rfl]
      rw [setk_ok hne hs hb (by omega)]
      rfl
  · have hp := List.length_pos_iff.2 hne
    simp only [List.length_cons, List.length_append, wt, wts, List.length_nil]
    cases b <;> simp <;> omega

theorem item_par {p : T_regex_piece} (hw : WF 2 p) (hb : wt p ≤ 100000) (h : ChAll p) : ItemAll p := by
  obtain ⟨t, tk, h1, h2, h3, h4⟩ := h
  cases hw with
  | choice hne hw =>
    rename_i ps
    simp only [wt, List.length_nil] at hb ⊢
    refine ⟨40 :: (t ++ 41 :: []), sgn 40 :: (tk ++ sgn 41 :: []), fun k hk => ?_, lexC_40.pre (h2.then lexC_41 LexEq.nil), ?_, ?_⟩
    · simp only [wt, List.length_nil] at hk
      cases k with
      | zero => omega
      | succ k =>
        have e := h1 k (by show 4 * wts ps + 43 ≤ k; omega)
        have e' : regex_texts.f k ps (B [124]) = some (B t) := e
        have h4' : t.length ≤ 24 * wts ps := h4
        rw [regex_text.f, if_neg (by show ¬ (1 : Int) = 0; decide), if_pos rfl]
        simp only [show (⟨#[124]⟩ : ByteArray) = B [124] from rfl, e', Option.bind_some]
        rw [show (⟨#[40]⟩ : ByteArray) = B [40] from rfl, show (⟨#[41]⟩ : ByteArray) = B [41] from rfl, scat_B (by simp; omega), Option.bind_some, scat_B (by simp; omega)]
        simp
    · refine ⟨sgn 40, _, rfl, ⟨⟨by decide, by decide, by decide, by decide⟩, .inr ⟨by decide, by decide, by decide⟩⟩, fun rest k hk hlen => ?_⟩
      have e0 : (tk ++ sgn 41 :: []) ++ rest = tk ++ sgn 41 :: rest := by simp
      have hlen' : (tk ++ sgn 41 :: rest).length ≤ 100000 := by simp at hlen ⊢; omega
      rw [e0] at hk ⊢
      cases k with
      | zero => omega
      | succ k =>
        refine ⟨⟨1, ps, [], false⟩, rest, 0, ?_, Nat.zero_le _, fun K _ => rfl⟩
        have d41 : dsp (sgn 41 :: rest) = sgn 41 :: rest := by simp [dsp]
        have e := h3 (sgn 41 :: rest) k ⟨by rw [d41]; rfl, .inr (by rw [d41]; rfl)⟩ (by omega) hlen'
        rw [regex_reader_atom.f, if_neg (by show ¬ false = true; decide), if_neg (by show ¬ (40 : Int) = 46; decide), if_neg (by show ¬ (40 : Int) = 94; decide), if_neg (by show ¬ (40 : Int) = 36; decide), if_neg (by show ¬ (40 : Int) = 91; decide), if_pos rfl]
        rw [e, Option.bind_some, d41]
        simp only [Bool.false_eq_true, if_false]
        rw [next_cons d41 (by rw [List.length_append] at hk; omega), Option.bind_some]
        rfl
    · have h4' : t.length ≤ 24 * wts ps := h4
      simp only [wt, List.length_cons, List.length_append, List.length_nil]
      omega

theorem item_rep {k0 : Int} {c : UInt8} {p : T_regex_piece} (hkc : (k0 = 7 ∧ c = 42) ∨ (k0 = 8 ∧ c = 43) ∨ (k0 = 9 ∧ c = 63)) (hb : wt p ≤ 100000) (h : ItemAll p) : ItemAll ⟨k0, [p], [], false⟩ := by
  obtain ⟨t, tk, h1, h2, ⟨x, tk', rfl, hx, h3⟩, h4⟩ := h
  have hlc : LexC c (sgn c.toNat) := by
    rcases hkc with ⟨_, rfl⟩ | ⟨_, rfl⟩ | ⟨_, rfl⟩
    · exact lexC_42
    · exact lexC_43
    · exact lexC_63
  refine ⟨t ++ c :: [], (x :: tk') ++ sgn c.toNat :: [], fun k hk => ?_, h2.then hlc LexEq.nil, ⟨x, tk' ++ sgn c.toNat :: [], rfl, hx, fun rest k hk hlen => ?_⟩, ?_⟩
  · simp only [wt, wts, List.length_nil] at hk
    cases k with
    | zero => omega
    | succ k =>
      have e := h1 k (by omega)
      have l0 : lat [p] 0 = some p := rfl
      rw [regex_text.f]
      rcases hkc with ⟨rfl, rfl⟩ | ⟨rfl, rfl⟩ | ⟨rfl, rfl⟩
      · have f (n : Int) (hn : (7 : Int) ≠ n) : ¬ (7 : Int) = n := hn
        rw [if_neg (f 0 (by decide)), if_neg (f 1 (by decide)), if_neg (f 2 (by decide)), if_neg (f 3 (by decide)), if_neg (f 5 (by decide)), if_neg (f 6 (by decide)), if_pos rfl]
        simp only [l0, Option.bind_some, e]
        rw [show (⟨#[42]⟩ : ByteArray) = B [42] from rfl, scat_B (by simp; omega)]
        rfl
      · have f (n : Int) (hn : (8 : Int) ≠ n) : ¬ (8 : Int) = n := hn
        rw [if_neg (f 0 (by decide)), if_neg (f 1 (by decide)), if_neg (f 2 (by decide)), if_neg (f 3 (by decide)), if_neg (f 5 (by decide)), if_neg (f 6 (by decide)), if_neg (f 7 (by decide)), if_pos rfl]
        simp only [l0, Option.bind_some, e]
        rw [show (⟨#[43]⟩ : ByteArray) = B [43] from rfl, scat_B (by simp; omega)]
        rfl
      · have f (n : Int) (hn : (9 : Int) ≠ n) : ¬ (9 : Int) = n := hn
        rw [if_neg (f 0 (by decide)), if_neg (f 1 (by decide)), if_neg (f 2 (by decide)), if_neg (f 3 (by decide)), if_neg (f 5 (by decide)), if_neg (f 6 (by decide)), if_neg (f 7 (by decide)), if_neg (f 8 (by decide)), if_pos rfl]
        simp only [l0, Option.bind_some, e]
        rw [show (⟨#[63]⟩ : ByteArray) = B [63] from rfl, scat_B (by simp; omega)]
        rfl
  · have e0 : (tk' ++ sgn c.toNat :: []) ++ rest = tk' ++ sgn c.toNat :: rest := by simp
    have e1 : (x :: tk' ++ sgn c.toNat :: []) ++ rest = x :: tk' ++ sgn c.toNat :: rest := by simp
    rw [e0] at hk ⊢
    rw [e1] at hlen
    obtain ⟨q, l2, m, ha, hm, hr⟩ := h3 (sgn c.toNat :: rest) k hk hlen
    refine ⟨q, l2, m + 1, ha, by simp; omega, fun K hK => ?_⟩
    rw [e1] at hK
    rw [show K + (m + 1) = (K + 1) + m by omega, hr (K + 1) (by omega), regex_reader_repeats.l0]
    have hlc2 : (x :: tk' ++ sgn c.toNat :: rest).length = tk'.length + rest.length + 2 := by simp; omega
    have hp := peta p
    rcases hkc with ⟨rfl, rfl⟩ | ⟨rfl, rfl⟩ | ⟨rfl, rfl⟩
    · have d : dsp (sgn ((42 : UInt8).toNat : Int) :: rest) = sgn ((42 : UInt8).toNat : Int) :: rest := by rw [dsp, if_neg (by decide)]
      rw [peek_cons d (by simp; omega), Option.bind_some]
      simp only
      rw [if_pos (by rfl), next_cons d (by simp; omega), Option.bind_some, hp]
    · have d : dsp (sgn ((43 : UInt8).toNat : Int) :: rest) = sgn ((43 : UInt8).toNat : Int) :: rest := by rw [dsp, if_neg (by decide)]
      rw [peek_cons d (by simp; omega), Option.bind_some]
      simp only
      rw [if_neg (by decide), if_pos (by rfl), next_cons d (by simp; omega), Option.bind_some, hp]
    · have d : dsp (sgn ((63 : UInt8).toNat : Int) :: rest) = sgn ((63 : UInt8).toNat : Int) :: rest := by rw [dsp, if_neg (by decide)]
      rw [peek_cons d (by simp; omega), Option.bind_some]
      simp only
      rw [if_neg (by decide), if_neg (by decide), if_pos (by rfl), next_cons d (by simp; omega), Option.bind_some, hp]
  · simp only [wt, wts, List.length_append, List.length_cons, List.length_nil]
    omega

def WrN (n : Nat) : Prop := ∀ p, wt p ≤ n → wt p ≤ 100000 → (WF 0 p → ItemAll p) ∧ (WF 1 p → RowAll p) ∧ (WF 2 p → ChAll p)
theorem wr_n (n : Nat) (ih : WrN n) : WrN (n + 1) := by
  intro p hn hb
  have hch : WF 2 p → ChAll p := by
    intro hw
    cases hw with
    | choice hne hw =>
      rename_i ps
      simp only [wt, List.length_nil] at hn hb
      obtain ⟨zs, rfl, hz⟩ := pick (Q := fun x t tk => TextI x t ∧ LexEq t tk ∧ RowP x tk ∧ t.length + 2 ≤ 24 * wt x) ps (fun x hx => by
        have := wt_mem hx
        exact (ih x (by omega) (by omega)).2.1 (hw x hx))
      have hlen := jn_len2 (s := 124) zs (fun z hz' => (hz z hz').2.2.2)
      have hzl := wts_len (zs.map (·.1))
      rw [List.length_map] at hzl
      refine ⟨jn 124 (zs.map (·.2.1)), jn (sgn 124) (zs.map (·.2.2)), fun k hk => ?_, lex_jn lexC_124 zs (fun z hz' => (hz z hz').2.1), ch_P (fun e => hne (by rw [e]; rfl)) (fun z hz' => (hz z hz').2.2.1) (by omega), hlen⟩
      exact texts_ok 124 zs (fun z hz' => (hz z hz').1) (by omega) (by omega) hk
  refine ⟨fun hw => ?_, fun hw => ?_, hch⟩
  · cases hw with
    | num h => exact item_num h
    | any => exact item_sign (c := 46) lexC_46 ⟨⟨by decide, by decide, by decide, by decide⟩, .inr ⟨by decide, by decide, by decide⟩⟩ (fun k => by rw [regex_text.f]; rfl) (fun l k => by rw [regex_reader_atom.f]; rfl)
    | start => exact item_sign (c := 94) lexC_94 ⟨⟨by decide, by decide, by decide, by decide⟩, .inr ⟨by decide, by decide, by decide⟩⟩ (fun k => by rw [regex_text.f]; rfl) (fun l k => by rw [regex_reader_atom.f]; rfl)
    | stop => exact item_sign (c := 36) lexC_36 ⟨⟨by decide, by decide, by decide, by decide⟩, .inr ⟨by decide, by decide, by decide⟩⟩ (fun k => by rw [regex_text.f]; rfl) (fun l k => by rw [regex_reader_atom.f]; rfl)
    | set h1 h2 => exact item_set h1 h2 (by simp only [wt] at hb; omega)
    | par h => exact item_par h hb (hch h)
    | rep hk h =>
      rename_i k0 q
      simp only [wt, wts, List.length_nil] at hn hb
      have hi := (ih q (by omega) (by omega)).1 h
      rcases hk with rfl | rfl | rfl
      · exact item_rep (.inl ⟨rfl, rfl⟩) (by omega) hi
      · exact item_rep (.inr (.inl ⟨rfl, rfl⟩)) (by omega) hi
      · exact item_rep (.inr (.inr ⟨rfl, rfl⟩)) (by omega) hi
  · cases hw with
    | row hw =>
      rename_i ps
      simp only [wt, List.length_nil] at hn hb
      obtain ⟨zs, rfl, hz⟩ := pick (Q := fun x t tk => TextI x t ∧ LexEq t tk ∧ ItemP x tk ∧ t.length + 2 ≤ 24 * wt x) ps (fun x hx => by
        have := wt_mem hx
        exact (ih x (by omega) (by omega)).1 (hw x hx))
      have hlen := jn_len2 (s := 32) zs (fun z hz' => (hz z hz').2.2.2)
      have hzl := wts_len (zs.map (·.1))
      rw [List.length_map] at hzl
      refine ⟨jn 32 (zs.map (·.2.1)), jn (sgn 32) (zs.map (·.2.2)), fun k hk => ?_, lex_jn lexC_blank zs (fun z hz' => (hz z hz').2.1), row_P (fun z hz' => (hz z hz').2.2.1) (by omega), by simp only [wt, List.length_nil]; omega⟩
      simp only [wt, List.length_nil] at hk
      cases k with
      | zero => omega
      | succ k =>
        rw [regex_text.f, if_pos rfl]
        have e := texts_ok 32 zs (fun z hz' => (hz z hz').1) (by omega) (by omega) (k := k) (by omega)
        simp only [show (⟨#[32]⟩ : ByteArray) = B [32] from rfl, e]
        rfl
theorem wr_all : ∀ n, WrN n
  | 0 => fun p h => by have := wt_pos p; omega
  | n + 1 => wr_n n (wr_all n)

/-! ### The law -/

theorem text_pat {k : Nat} (hk : 10000000 ≤ k) {e : T_regex_Expr} (h : Pat k e) :
    ∃ t, regex_Expr_Text.f k (some e) = some (B t) ∧ (t.length ≤ 100 → regex_Parse.f k (B t) = some (some e, 0)) := by
  obtain ⟨hw, hwt, hV, q, eq, hVq, hq, hprog⟩ := h
  obtain ⟨top, prog⟩ := e
  simp only at hw hwt hV eq hprog
  obtain ⟨t, tk, h1, h2, h3, h4⟩ := ((wr_all (wt top)) top (Nat.le_refl _) (by omega)).2.2 hw
  have hwp : wts top.parts ≤ wt top := by obtain ⟨_, _, _, _⟩ := top; simp only [wt]; omega
  refine ⟨t, ?_, fun ht => ?_⟩
  · rw [regex_Expr_Text.f]
    simp only [Option.isNone_some, Bool.false_eq_true, if_false, Option.bind_some]
    rw [show (⟨#[124]⟩ : ByteArray) = B [124] from rfl, h1 k (by omega)]
    rfl
  · rw [regex_Parse.f, B_size, if_neg (by omega)]
    obtain ⟨sg, ok, es, f1, f2⟩ := signs_ok (k := k) (l := t) (by omega) (by omega)
    have hlex : lexS t [] [] = some tk := by
      have := h2 [] [] NDH.nil
      rw [List.append_nil, List.nil_append] at this
      rw [this, lexS, flush_nil]
    have hok : ok = true := by
      cases ok with
      | true => rfl
      | false => rw [f2 rfl] at hlex; cases hlex
    subst hok
    have hsg : sg = tk := by have := f1 rfl; rw [hlex] at this; exact (Option.some.inj this).symm
    subst hsg
    have hlen := (lex_sgs t [] [] sg hlex (fun _ h => by cases h)).2
    simp only [List.length_nil] at hlen
    rw [es, Option.bind_some, if_pos rfl]
    have hc := h3 [] k ⟨rfl, .inl rfl⟩ (by rw [List.append_nil]; omega) (by rw [List.append_nil]; omega)
    rw [List.append_nil] at hc
    rw [hc, Option.bind_some]
    simp only [dsp]
    rw [peek_eq (by simp; omega), Option.bind_some]
    simp only [dsp, hd, Bool.false_eq_true, if_false, if_true]
    rw [eq, Option.bind_some]
    have ha : Sp.app 56 q [(T_regex_step.mk 4 [] false false (0, 0))] = some (q ++ [lastStep]) := app_small (by simp; omega) (by decide)
    simp only
    rw [ha, Option.bind_some, hprog]
end Go.Proofs.YtkkflfmonidepaaDoor
