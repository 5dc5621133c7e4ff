/-
  Parts of the proof, merged: Eng19.
-/
import Derived.Laws.StructEq
import Derived.Test.YtafnenafbognkaaGreatDoorW6
namespace Sp
open Go Go.RowKit
def tE2 (P : Program) (t : TypeId) : Bool :=
  match P.underlying t with
  | some (.struct fs) => match fs.toList with
    | [f, h] => !(f.name == "_") && !(h.name == "_") && Nat.beq f.offset 0 && Nat.beq h.offset 1 && (tInt P f.type).isSome && (tInt P h.type).isSome && !P.stoodInHeld t && !P.eqGuardType P.depth t
    | _ => false
  | _ => false
section
variable {P : Program} {σ : Env} {w : World} {d : Option Nat} {ty : TypeId} {pos : String} {af : Array Edge} {g : Option (Nat × Bool)}
theorem tE2_run {t : TypeId} (h : tE2 P t = true) (k l : IntKind) (a b a' b' : Int) : (Op.equal t (.agg #[.int k a, .int l b]) (.agg #[.int k a', .int l b'])).run P w = .ok (a == a' && b == b') w ∧ P.eqGuardType P.depth t = false := by
  unfold tE2 at h
  split at h
  · rename_i fs hu
    split at h
    case h_2 => cases h
    rename_i f q hfs
    simp only [Bool.and_eq_true, Bool.not_eq_true', Option.isSome_iff_exists] at h
    obtain ⟨⟨⟨⟨⟨⟨⟨h1, h2⟩, h3⟩, h4⟩, ⟨k1, h5⟩⟩, ⟨k2, h6⟩⟩, h7⟩, h8⟩ := h
    refine ⟨?_, h8⟩
    have n1 : f.name ≠ "_" := by simpa using h1
    have n2 : q.name ≠ "_" := by simpa using h2
    have o1 := Nat.eq_of_beq_eq_true h3
    have o2 := Nat.eq_of_beq_eq_true h4
    have u1 := tInt_spec h5
    have u2 := tInt_spec h6
    have hf : P.fieldsOf t = fs := by simp [Program.fieldsOf, hu]
    have a1 : (isAgg f.type).run P w = .ok false w := by simp [isAgg, und_run u1]
    have a2 : (isAgg q.type).run P w = .ok false w := by simp [isAgg, und_run u2]
    unfold Op.equal
    rw [show Op.maxDepth = 9999 + 1 from rfl, run_equalIn_agg w 9999 t _ _ (by rw [hf]; exact hu) h7, hf, hfs]
    have e1 := run_equalIn_int (P := P) w 9998 f.type k k1 a a' u1
    have e2 := run_equalIn_int (P := P) w 9998 q.type l k2 b b' u2
    simp only [Op.eqFields, n1, n2, ne_eq, not_false_eq_true, if_true, part, Sem.run_bind, a1, a2, Result.andThen_ok, Bool.false_eq_true, if_false, o1, o2, e1, e2, List.getElem?_toArray, List.getElem?_cons_zero, List.getElem?_cons_succ, Sem.run_pure, Sem.run_ite]
    cases hab : a == a' <;> cases hbb : b == b' <;> simp
  · cases h
theorem x_e2 {t yt : Nat} (ht : tE2 P t = true) {x y : Operand} {k l : IntKind} {a b a' b' : Int} (hx : ev σ x = .agg #[.int k a, .int l b]) (hy : ev σ y = .agg #[.int k a', .int l b']) :
    (execOp (ev σ) ⟨d, .binOp .eql t x y yt, ty, pos, af, g⟩).run P w = .ok (.value (.bool (a == a' && b == b'))) w := by
  obtain ⟨h1, h2⟩ := tE2_run (w := w) ht k l a b a' b'
  exact (x_eq hx hy (fun op => run_eqGuard_agg w op t x y _ _ h2) (fun op h => by rcases h with rfl | rfl <;> rfl) h1).1
end
end Sp
