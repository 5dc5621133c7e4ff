/-
  PARSE ENDS, on any text of no more than 200 bytes: an error, or a well formed pattern with its program.
-/
import Derived.Test.YtkkflfmonidepaaDoorP5
import Derived.Test.YtkkflfmonidepaaDoorP7
namespace Go.Proofs.YtkkflfmonidepaaDoor
open Sp
set_option maxRecDepth 100000
set_option maxHeartbeats 4000000

theorem B_data (x : ByteArray) : B x.data.toList = x := by
  obtain ⟨d⟩ := x
  show (⟨d.toList.toArray⟩ : ByteArray) = ⟨d⟩
  rw [Array.toArray_toList]
theorem size_data (x : ByteArray) : x.data.toList.length = x.size := by
  show x.data.toList.length = x.data.size
  exact Array.length_toList

/-- What a pattern is: its tree, and the program that it compiles to. -/
def Pat (k : Nat) (e : T_regex_Expr) : Prop :=
  WF 2 e.top ∧ wt e.top ≤ 1000 ∧ Val e.prog ∧ ∃ q, regex_Expr_compile.f k ⟨e.top, []⟩ e.top = some ⟨e.top, q⟩ ∧ V q ∧ q.length ≤ 4000 ∧ e.prog = q ++ [lastStep]

theorem parse_tail {k : Nat} (hk : 1000000 ≤ k) {sg : List T_regex_sign} (hs : sgs sg) (hl : sg.length ≤ 200) :
    ∃ r : Option T_regex_Expr × Int, ((regex_reader_choices.f k (T_regex_reader.mk sg false)).bind fun y8 => ((regex_reader_peek.f k y8.2).bind fun y13 => (if y13.2.bad = true then (some (none, 14)) else (if y13.1.digits = true then (some (none, 14)) else (if y13.1.c = 0 then ((regex_Expr_compile.f k (T_regex_Expr.mk y8.1 []) y8.1).bind fun y23 => ((Sp.app 56 y23.prog ([(T_regex_step.mk 4 [] false false (0, 0))])).bind fun l31 => (some ((some (T_regex_Expr.mk y23.top l31)), 0)))) else (some (none, 14))))))) = some r ∧ (r = (none, 14) ∨ ∃ e, r = (some e, 0) ∧ Pat k e) := by
  obtain ⟨p, r, e1, h1, h2, h3, h4⟩ := choices_ok (k := k) (l := sg) (b := false) (by omega) hs (by omega)
  rw [e1, Option.bind_some]
  have hp := peek_eq (k := k) (l := r.rest) (b := r.bad) (by omega)
  rw [show (⟨r.rest, r.bad⟩ : T_regex_reader) = r from rfl] at hp
  rw [hp, Option.bind_some]
  split
  · exact ⟨_, rfl, .inl rfl⟩
  · rename_i hb
    split
    · exact ⟨_, rfl, .inl rfl⟩
    · split
      · obtain ⟨_, hw⟩ := h4 (by simpa using hb)
        have hwt : wt p ≤ 1000 := by omega
        obtain ⟨q, eq, hV, hq1, hq2⟩ := comp_ok hw (k := k) (t := p) (p := []) (by omega) (fun _ h => by cases h) (by simp; omega)
        rw [eq, Option.bind_some]
        have hql : q.length ≤ 4000 := by simp at hq2; omega
        have ha : Sp.app 56 q [(T_regex_step.mk 4 [] false false (0, 0))] = some (q ++ [lastStep]) := app_small (by simp; omega) (by decide)
        rw [ha]
        exact ⟨_, rfl, .inr ⟨⟨p, q ++ [lastStep]⟩, rfl, hw, hwt, ⟨⟨q, hV, rfl⟩, by simp; omega⟩, q, eq, hV, hql, rfl⟩⟩
      · exact ⟨_, rfl, .inl rfl⟩

theorem parse_ok {k : Nat} (hk : 1000000 ≤ k) (x : ByteArray) (hx : x.size ≤ 200) :
    ∃ r, regex_Parse.f k x = some r ∧ (r = (none, 4) ∨ r = (none, 14) ∨ ∃ e, r = (some e, 0) ∧ Pat k e) := by
  have hd := B_data x
  have hsz := size_data x
  generalize hxl : x.data.toList = l at *
  subst hd
  rw [regex_Parse.f, B_size] at *
  split
  · exact ⟨_, rfl, .inl rfl⟩
  · obtain ⟨sg, ok, es, h1, _⟩ := signs_ok (k := k) (l := l) (by omega) (by omega)
    rw [es, Option.bind_some]
    split
    · rename_i hok
      obtain ⟨s1, s2⟩ := lex_sgs l [] [] sg (h1 hok) (fun _ h => by cases h)
      obtain ⟨r, e, h⟩ := parse_tail hk s1 (by simp at s2; omega)
      exact ⟨r, e, .inr h⟩
    · exact ⟨_, rfl, .inr (.inl rfl)⟩

theorem pat_match {k : Nat} (hk : 5000000 ≤ k) {e : T_regex_Expr} (h : Pat k e) (l : List Int) (hl : l.length ≤ 1000000) : ∃ b, regex_Expr_Match.f k (some e) l = some b :=
  match_ok e h.2.2.1 h.2.2.1.spans l hl hk
end Go.Proofs.YtkkflfmonidepaaDoor
