/-
  SHORT NAMES, LOOPS, CUTS; and what the printed functions are made of.
-/
import Derived.Test.YtkkflfmonidepaaDoorEng4
namespace Sp
open Go Go.RowKit

/-! ### What the printed functions are made of -/

@[reducible] def i64 (x : Int) : Int := IntKind.i64.wrap x
@[reducible] def u32 (x : Int) : Int := IntKind.u32.wrap x
@[reducible] def u8 (x : Int) : Int := IntKind.u8.wrap x
@[reducible] def i32 (x : Int) : Int := IntKind.i32.wrap x
@[reducible] def u16 (x : Int) : Int := IntKind.u16.wrap x
@[reducible] def u64 (x : Int) : Int := IntKind.u64.wrap x

/-- The element at a place; none: there is none. -/
def lat {α : Type} (l : List α) (j : Int) : Option α := if 0 ≤ j then l[j.toNat]? else none
def sat (s : ByteArray) (j : Int) : Option Int := if 0 ≤ j then (s[j.toNat]?).map fun c => (c.toNat : Int) else none
def cutL {α : Type} (l : List α) (j : Int) : Option (List α) := if 0 ≤ j ∧ j ≤ l.length then some (l.drop j.toNat) else none
def cutR {α : Type} (l : List α) (j : Int) : Option (List α) := if 0 ≤ j ∧ j ≤ l.length then some (l.take j.toNat) else none
def cutLR {α : Type} (l : List α) (i j : Int) : Option (List α) := if 0 ≤ i ∧ i ≤ j ∧ j ≤ l.length then some ((l.take j.toNat).drop i.toNat) else none
def scutL (s : ByteArray) (j : Int) : Option ByteArray := if 0 ≤ j ∧ j ≤ s.size then some (s.extract j.toNat s.size) else none
def scutR (s : ByteArray) (j : Int) : Option ByteArray := if 0 ≤ j ∧ j ≤ s.size then some (s.extract 0 j.toNat) else none
def scutLR (s : ByteArray) (i j : Int) : Option ByteArray := if 0 ≤ i ∧ i ≤ j ∧ j ≤ s.size then some (s.extract i.toNat j.toNat) else none
/-- One list behind another, as long as there is room for it. -/
def app {α : Type} (by' : Nat) (l m : List α) : Option (List α) := if (l.length + m.length) * by' ≤ 140737488355328 ∧ l.length + m.length ≤ maxLen then some (l ++ m) else none
def scat (a b : ByteArray) : Option ByteArray := if a.size + b.size ≤ 9223372036854775807 then some (a ++ b) else none
def nz (x : Int) : Option Unit := if x ≠ 0 then some () else none
def nn (x : Int) : Option Unit := if 0 ≤ x then some () else none

theorem obx {α β : Type} {o : Option α} {f : α → Option β} {r : β} (h : o.bind f = some r) : ∃ x, o = some x ∧ f x = some r := Option.bind_eq_some_iff.1 h
theorem lat_ok {α : Type} {l : List α} {j : Int} {x : α} (h : lat l j = some x) : 0 ≤ j ∧ j < l.length ∧ l[j.toNat]? = some x := by
  unfold lat at h; split at h
  · rename_i h0
    have := (List.getElem?_eq_some_iff.1 h).1
    exact ⟨h0, by omega, h⟩
  · cases h
theorem sat_ok {s : ByteArray} {j c : Int} (h : sat s j = some c) : 0 ≤ j ∧ ∃ d : UInt8, s[j.toNat]? = some d ∧ c = d.toNat := by
  unfold sat at h; split at h
  · rename_i h0
    obtain ⟨d, h1, h2⟩ := Option.map_eq_some_iff.1 h
    exact ⟨h0, d, h1, h2.symm⟩
  · cases h
theorem nz_ok {x : Int} {u : Unit} (h : nz x = some u) : x ≠ 0 := by unfold nz at h; split at h; assumption; cases h
theorem nn_ok {x : Int} {u : Unit} (h : nn x = some u) : 0 ≤ x := by unfold nn at h; split at h; assumption; cases h
theorem scat_ok {a b c : ByteArray} (h : scat a b = some c) : a.size + b.size ≤ 9223372036854775807 ∧ c = a ++ b := by
  unfold scat at h; split at h
  · exact ⟨by assumption, (Option.some.inj h).symm⟩
  · cases h
theorem app_ok {α : Type} {by' : Nat} {l m r : List α} (h : app by' l m = some r) : (l.length + m.length) * by' ≤ 140737488355328 ∧ l.length + m.length ≤ maxLen ∧ r = l ++ m := by
  unfold app at h; split at h
  · rename_i h1; exact ⟨h1.1, h1.2, (Option.some.inj h).symm⟩
  · cases h

/-! ### Bools that are known -/

theorem eqT {a b : Int} (h : a = b) : (a == b) = true := beq_iff_eq.2 h
theorem eqF {a b : Int} (h : ¬ a = b) : (a == b) = false := beq_eq_false_iff_ne.2 h
theorem neT {a b : Int} (h : ¬ a = b) : (a != b) = true := bne_iff_ne.2 h
theorem neF {a b : Int} (h : a = b) : (a != b) = false := by rw [h]; simp
theorem beT {a b : Bool} (h : a = b) : (a == b) = true := beq_iff_eq.2 h
theorem beF {a b : Bool} (h : ¬ a = b) : (a == b) = false := beq_eq_false_iff_ne.2 h
theorem deT {p : Prop} [Decidable p] (h : p) : decide p = true := decide_eq_true h
theorem deF {p : Prop} [Decidable p] (h : ¬ p) : decide p = false := decide_eq_false h
theorem noT {b : Bool} (h : b = false) : (!b) = true := by rw [h]; rfl
theorem noF {b : Bool} (h : b = true) : (!b) = false := by rw [h]; rfl
theorem vaF {b : Bool} (h : ¬ b = true) : b = false := eq_false_of_ne_true h

/-! ### Slots -/

def Has (σ : Env) : List (Nat × Value) → Prop
  | [] => True
  | (d, v) :: l => σ d = v ∧ Has σ l
def puts (σ : Env) : List (Nat × Value) → Env
  | [] => σ
  | (d, v) :: l => (puts σ l).put (some d) v
theorem Has.eq {σ : Env} : ∀ {l : List (Nat × Value)}, Has σ l → σ = puts σ l
  | [], _ => rfl
  | (d, v) :: l, ⟨h1, h2⟩ => by
    rw [puts, ← Has.eq h2]
    exact (Env.put_id h1).symm

section
variable {P : Program} {n : Nat} {Q : Post} {σ : Env} {w : World} {K : Env → World → Prop}

theorem U {A : Array Oper} {i : Nat} {o : Oper} (ho : at? n A i = some o) (hg : gOK A σ o.guard = true) (h : OW P o K σ w) : OK P n A i K σ w := OK.go ho hg h
theorem V {o : Oper} {x : Value} {w' : World} (hx : (execOp (ev σ) o).run P w = .ok (.value x) w') (h : K (σ.put o.dst x) w') : OW P o K σ w := OW.val hx h

/-- A loop, by what holds at the head of a round (q: what is left of the fuel). -/
theorem FL.ind {c : Code} (Inv : Nat → Env → World → Prop) (zero : ∀ σ w, ¬ Inv 0 σ w) (step : ∀ q σ w, Inv (q + 1) σ w → FW P n c (thenQ (fun σ w => ∃ q', q' ≤ q ∧ Inv q' σ w) Q) σ w) :
    ∀ (k q : Nat) (σ : Env) (w : World), q ≤ k → Inv q σ w → FL P n c Q k σ w
  | 0, 0, σ, w, _, h => (zero σ w h).elim
  | k + 1, 0, σ, w, _, h => (zero σ w h).elim
  | 0, q + 1, _, _, hq, _ => by omega
  | k + 1, q + 1, σ, w, hq, h => FL.succ (FW.mono (step q σ w h) fun e σ w he => by
      cases e with
      | normal => obtain ⟨q', h1, h2⟩ := he; exact FL.ind Inv zero step k q' σ w (by omega) h2
      | _ => exact he)

/-- What is behind code that may be left in more ways than one: X holds wherever it is left (so; by 'return' as ever). -/
def cutN (X : Env → World → Prop) (Q : Post) : Post
  | .normal => X
  | e => Q e
def cutX (id : Nat) (X : Env → World → Prop) (Q : Post) : Post
  | .exit i => bif Nat.beq i id then X else Q (.exit i)
  | e => Q e

theorem FW.cutN {c : Code} (X : Env → World → Prop) (h : FW P n c (Sp.cutN X Q) σ w) (hX : ∀ σ w, X σ w → Q .normal σ w) : FW P n c Q σ w :=
  FW.mono h fun e σ w he => by cases e <;> first | exact hX σ w he | exact he
theorem FW.cutX {c : Code} (id : Nat) (X : Env → World → Prop) (h : FW P n c (Sp.cutX id X Q) σ w) (hX : ∀ σ w, X σ w → Q (.exit id) σ w) : FW P n c Q σ w :=
  FW.mono h fun e σ w he => by
    cases e with
    | exit i =>
      simp only [Sp.cutX] at he
      cases hb : Nat.beq i id with
      | true => rw [hb] at he; rw [Nat.eq_of_beq_eq_true hb]; exact hX σ w he
      | false => rw [hb] at he; exact he
    | _ => exact he

/-- A call of a function by its number. -/
theorem cl {d : Option Nat} {ty : TypeId} {pos : String} {af : Array Edge} {g : Option (Nat × Bool)} {f : FuncId} {xs : Array Operand} {ts : Array TypeId} {args : List Value} {X : Value → World → Prop}
    (hf : fB P f = true) (hc : Calls P f args.toArray w fun e w' => ∃ v, e = .returned v ∧ X v w') (ha : xs.toList.map (ev σ) = args)
    (h : ∀ v w', X v w' → K (σ.put d v) w') : OW P ⟨d, .call ⟨.value (.func f), xs, ts⟩, ty, pos, af, g⟩ K σ w := by
  subst ha
  refine OW.enter (x_call hf) ?_ h
  have e : xs.map (ev σ) = (xs.toList.map (ev σ)).toArray := by
    apply Array.ext'
    simp
  rw [e]
  exact hc
theorem clv {d : Option Nat} {ty : TypeId} {pos : String} {af : Array Edge} {g : Option (Nat × Bool)} {x : Operand} {f : FuncId} {cap : List Value} {xs : Array Operand} {ts : Array TypeId} {args : List Value} {X : Value → World → Prop}
    (hx : ev σ x = .func (.func f) #[] cap.toArray) (hf : fB P f = true) (hc : Calls P f args.toArray w fun e w' => ∃ v, e = .returned v ∧ X v w') (ha : xs.toList.map (ev σ) ++ cap = args)
    (h : ∀ v w', X v w' → K (σ.put d v) w') : OW P ⟨d, .call ⟨.value x, xs, ts⟩, ty, pos, af, g⟩ K σ w := by
  subst ha
  refine OW.enter (x_callv hx hf) ?_ h
  have e : xs.map (ev σ) ++ cap.toArray = (xs.toList.map (ev σ) ++ cap).toArray := by
    apply Array.ext'
    simp
  rw [e]
  exact hc
end
end Sp
