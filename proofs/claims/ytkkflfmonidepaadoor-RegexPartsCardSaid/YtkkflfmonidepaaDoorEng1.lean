/-
  THE CONTROL LAYER: a function's code over an environment of slots, one rule for each form of code and for the begin and the end of a call.
-/
import Derived.Test.YtkkflfmonidepaaDoorEng0
import Derived.Scope
import Derived.LoopN
import Derived.Laws.Entries
import Derived.Laws.Cells
import Derived.Laws.World
import Derived.Laws.Strings
namespace Sp
open Go

abbrev Env := Nat → Value
def Env.put (σ : Env) (d : Option Nat) (v : Value) : Env :=
  match d with
  | some d => fun t => bif Nat.beq t d then v else σ t
  | none => σ
def ofL (l : List Value) : Env := fun t => l.getD t undef

theorem Env.put_id {σ : Env} {d : Nat} {v : Value} (h : σ d = v) : σ.put (some d) v = σ := by
  funext t
  simp only [Env.put]
  cases hb : Nat.beq t d with
  | true => rw [Nat.eq_of_beq_eq_true hb]; exact h.symm
  | false => rfl

def ev (σ : Env) : Operand → Value
  | .tmp t => σ t
  | .const v => v
  | .global g => .pointer (some ⟨g, 0, none⟩)
  | .func f => .func (.func f) #[] #[]

structure Rel (n : Nat) (a : Act) (σ : Env) : Prop where
  size : a.tmps.size = n
  defs : a.defers = []
  get : ∀ t, a.tmps.getD t undef = σ t

def dlt (d : Option Nat) (n : Nat) : Bool :=
  match d with
  | some d => Nat.blt d n
  | none => true

theorem Rel.eval {n : Nat} {a : Act} {σ : Env} (h : Rel n a σ) : a.eval = ev σ := by
  funext x
  cases x with
  | tmp t => exact h.get t
  | _ => rfl

theorem Rel.put {n : Nat} {a : Act} {σ : Env} (h : Rel n a σ) {d : Option Nat} (hd : dlt d n = true) (v : Value) : Rel n (a.put d v) (σ.put d v) := by
  cases d with
  | none => exact h
  | some d =>
    have hd' : d < n := by
      simp only [dlt, Nat.blt] at hd
      exact Nat.le_of_ble_eq_true hd
    refine ⟨by simp [Act.put, h.size], h.defs, fun t => ?_⟩
    simp only [Act.put, Env.put]
    cases hb : Nat.beq t d with
    | true =>
      rw [Nat.eq_of_beq_eq_true hb]
      simp [h.size, hd']
    | false =>
      have hne : d ≠ t := fun e => by rw [e, Nat.beq_refl] at hb; cases hb
      rw [cond_false, ← h.get t]
      simp [Array.getElem?_setIfInBounds_ne hne]

abbrev Post := Exit → Env → World → Prop

def LQ (n : Nat) (Q : Post) : Exit → Act → World → Prop
  | .normal, a, w => ∃ σ, Rel n a σ ∧ Q .normal σ w
  | .exit id, a, w => ∃ σ, Rel n a σ ∧ Q (.exit id) σ w
  | .ret, a, w => ∃ σ, Rel n a σ ∧ Q .ret σ w
  | _, _, _ => False

def thenQ (next : Env → World → Prop) (Q : Post) : Post
  | .normal => next
  | e => Q e

def inBlockQ (id : Nat) (Q : Post) : Post
  | .exit i => bif Nat.beq i id then Q .normal else Q (.exit i)
  | e => Q e

/-- Of any frame that reads as σ. -/
def FW (P : Program) (n : Nat) (c : Code) (Q : Post) (σ : Env) (w : World) : Prop := ∀ a, Rel n a σ → c.wp P (LQ n Q) a w

/-- At most k rounds. -/
def FL (P : Program) (n : Nat) (c : Code) (Q : Post) (k : Nat) (σ : Env) (w : World) : Prop := ∀ a, Rel n a σ → Code.rounds P c (LQ n Q) k a w

section
variable {P : Program} {n : Nat} {Q : Post} {σ : Env} {w : World}

theorem FW.skip (h : Q .normal σ w) : FW P n .skip Q σ w := fun _ ha => wp_skip ⟨σ, ha, h⟩
theorem FW.label {l : Nat} (h : Q .normal σ w) : FW P n (.label l) Q σ w := fun _ ha => wp_label ⟨σ, ha, h⟩
theorem FW.exit {id : Nat} (h : Q (.exit id) σ w) : FW P n (.exit id) Q σ w := fun _ ha => wp_exit ⟨σ, ha, h⟩
theorem FW.ret (h : Q .ret σ w) : FW P n .ret Q σ w := fun _ ha => wp_ret ⟨σ, ha, h⟩

theorem FW.seq {x y : Code} (h : FW P n x (thenQ (FW P n y Q) Q) σ w) : FW P n (.seq x y) Q σ w := fun a ha => by
  refine wp_seq (wp_mono (h a ha) fun e a w hq => ?_)
  cases e with
  | normal => obtain ⟨σ', hr, hq⟩ := hq; exact hq a hr
  | exit id => exact hq
  | ret => exact hq
  | goto l => exact hq
  | panic c => exact hq
  | outgrown => exact hq

theorem FW.cond {c : Operand} {x y : Code} {b : Bool} (hc : ev σ c = .bool b) (h : FW P n (if b then x else y) Q σ w) : FW P n (.cond c x y) Q σ w :=
  fun a ha => wp_cond (by rw [ha.eval]; exact hc) (h a ha)

theorem FW.condT {c : Operand} {x y : Code} {b : Bool} (hc : ev σ c = .bool b) (hb : b = true) (h : FW P n x Q σ w) : FW P n (.cond c x y) Q σ w :=
  FW.cond hc (by rw [hb]; exact h)
theorem FW.condF {c : Operand} {x y : Code} {b : Bool} (hc : ev σ c = .bool b) (hb : b = false) (h : FW P n y Q σ w) : FW P n (.cond c x y) Q σ w :=
  FW.cond hc (by rw [hb]; exact h)

theorem FW.block {id : Nat} {c : Code} (h : FW P n c (inBlockQ id Q) σ w) : FW P n (.block id c) Q σ w := fun a ha => by
  refine wp_block (wp_mono (h a ha) fun e a w hq => ?_)
  cases e with
  | normal => exact hq
  | exit i =>
    obtain ⟨σ', hr, hq⟩ := hq
    simp only [Exit.inBlock]
    by_cases hi : i = id
    · rw [if_pos hi]
      refine ⟨σ', hr, ?_⟩
      simpa [inBlockQ, hi, Nat.beq_refl] using hq
    · rw [if_neg hi]
      refine ⟨σ', hr, ?_⟩
      have hb : Nat.beq i id = false := by
        cases hb : Nat.beq i id with
        | true => exact absurd (Nat.eq_of_beq_eq_true hb) hi
        | false => rfl
      simpa [inBlockQ, hb] using hq
  | ret => exact hq
  | goto l => exact hq
  | panic c => exact hq
  | outgrown => exact hq

theorem FW.scope {c : Code} (h : FW P n c Q σ w) : FW P n (.scope c) Q σ w := fun a ha => by
  refine wp_scope_straight (wp_mono (h a ha) fun e a w hq => ?_)
  cases e with
  | goto l => exact hq.elim
  | _ => exact hq

theorem FW.loop {c : Code} (k : Nat) (h : FL P n c Q k σ w) : FW P n (.loop c) Q σ w := fun a ha => wp_loop_rounds k (h a ha)

theorem FL.succ {c : Code} {k : Nat} (h : FW P n c (thenQ (FL P n c Q k) Q) σ w) : FL P n c Q (k + 1) σ w := fun a ha => by
  refine wp_mono (h a ha) fun e a w hq => ?_
  cases e with
  | normal => obtain ⟨σ', hr, hq⟩ := hq; exact hq a hr
  | exit id => exact hq
  | ret => exact hq
  | goto l => exact hq
  | panic c => exact hq
  | outgrown => exact hq

theorem FW.mono {c : Code} {Q' : Post} (h : FW P n c Q σ w) (hq : ∀ e σ w, Q e σ w → Q' e σ w) : FW P n c Q' σ w := fun a ha => by
  refine wp_mono (h a ha) fun e a w hq' => ?_
  cases e with
  | normal => obtain ⟨σ', hr, h'⟩ := hq'; exact ⟨σ', hr, hq _ _ _ h'⟩
  | exit id => obtain ⟨σ', hr, h'⟩ := hq'; exact ⟨σ', hr, hq _ _ _ h'⟩
  | ret => obtain ⟨σ', hr, h'⟩ := hq'; exact ⟨σ', hr, hq _ _ _ h'⟩
  | goto l => exact hq'
  | panic c => exact hq'
  | outgrown => exact hq'

/-! ### One operation -/

/-- One operation that is not guarded, of any frame that reads as σ. -/
def OW (P : Program) (o : Oper) (K : Env → World → Prop) (σ : Env) (w : World) : Prop :=
  ∀ (n : Nat) (a : Act) (Q : Exit → Act → World → Prop), Rel n a σ → dlt o.dst n = true → o.wp P a w (fun a w => ∃ σ, Rel n a σ ∧ K σ w) Q

def OK (P : Program) (n : Nat) (A : Array Oper) (i : Nat) (K : Env → World → Prop) (σ : Env) (w : World) : Prop :=
  ∀ (a : Act) (Q : Exit → Act → World → Prop), Rel n a σ → wpOp P A Q i (fun a w => ∃ σ, Rel n a σ ∧ K σ w) a w

def at? (n : Nat) (A : Array Oper) (i : Nat) : Option Oper :=
  match A[i]? with
  | some o => bif dlt o.dst n then some o else none
  | none => none

theorem at?_spec {A : Array Oper} {i : Nat} {o : Oper} (h : at? n A i = some o) : A[i]? = some o ∧ dlt o.dst n = true := by
  unfold at? at h
  split at h
  · rename_i o' ho
    cases hb : dlt o'.dst n with
    | true => rw [hb] at h; simp only [cond_true, Option.some.injEq] at h; subst h; exact ⟨ho, hb⟩
    | false => rw [hb] at h; cases h
  · cases h

/-- Does a guard let its operation be? -/
def gOK (A : Array Oper) (σ : Env) : Option (Nat × Bool) → Bool
  | none => true
  | some (j, b) => match (A[j]?).bind (·.dst) with
    | some t => match σ t with
      | .bool x => x == b
      | _ => false
    | none => false

theorem yielded_of {A : Array Oper} {a : Act} {j t : Nat} {x : Bool} (ha : Rel n a σ) (ht : (A[j]?).bind (·.dst) = some t) (hx : σ t = .bool x) :
    yielded A a.tmps j = some x := by
  have h := ha.get t
  rw [hx] at h
  unfold yielded
  rw [ht]
  simp only [Option.bind_some]
  cases hg : a.tmps[t]? with
  | none => simp [Array.getD_eq_getD_getElem?, hg, undef] at h
  | some v => simp [Array.getD_eq_getD_getElem?, hg] at h; subst h; rfl

theorem wanted_of {A : Array Oper} {a : Act} {o : Oper} (ha : Rel n a σ) (h : gOK A σ o.guard = true) : Region.wanted o (yielded A a.tmps) = true := by
  unfold Region.wanted
  cases hg : o.guard with
  | none => rfl
  | some g =>
    obtain ⟨j, b⟩ := g
    rw [hg] at h
    simp only [gOK] at h
    split at h
    · rename_i t ht
      split at h
      · rename_i x hx
        simp only [yielded_of ha ht hx]
        simpa using h
      · cases h
    · cases h

/-- An operation that is let be. -/
theorem OK.go {A : Array Oper} {i : Nat} {o : Oper} {K : Env → World → Prop} (ho : at? n A i = some o) (hg : gOK A σ o.guard = true) (h : OW P o K σ w) : OK P n A i K σ w := by
  obtain ⟨h1, h2⟩ := at?_spec ho
  intro a Q ha
  unfold wpOp
  simp only [h1, wanted_of ha hg, if_true]
  exact .inl (h n a Q ha h2)

/-- An operation whose guard stands on a slot of which it is known that it lets it be. -/
theorem OK.gt {A : Array Oper} {i j t : Nat} {b x : Bool} {d : Option Nat} {op : Op} {ty : TypeId} {pos : String} {af : Array Edge} {K : Env → World → Prop}
    (ho : at? n A i = some ⟨d, op, ty, pos, af, some (j, b)⟩) (ht : (A[j]?).bind (·.dst) = some t) (hx : σ t = .bool x) (hb : x = b)
    (h : OW P ⟨d, op, ty, pos, af, some (j, b)⟩ K σ w) : OK P n A i K σ w :=
  OK.go ho (by simp only [gOK, ht, hx, hb]; simp) h

/-- .. that it does not: nothing is done. -/
theorem OK.gf {A : Array Oper} {i j t : Nat} {b x : Bool} {d : Option Nat} {op : Op} {ty : TypeId} {pos : String} {af : Array Edge} {K : Env → World → Prop}
    (ho : at? n A i = some ⟨d, op, ty, pos, af, some (j, b)⟩) (ht : (A[j]?).bind (·.dst) = some t) (hx : σ t = .bool x) (hb : x = !b)
    (h : K (σ.put d undef) w) : OK P n A i K σ w := by
  obtain ⟨h1, h2⟩ := at?_spec ho
  intro a Q ha
  unfold wpOp
  have hw : Region.wanted (⟨d, op, ty, pos, af, some (j, b)⟩ : Oper) (yielded A a.tmps) = false := by
    unfold Region.wanted
    simp only [yielded_of ha ht hx, hb]
    cases b <;> rfl
  simp only [h1, hw, Bool.false_eq_true, if_false]
  exact ⟨_, ha.put h2 _, h⟩

theorem OW.val {o : Oper} {K : Env → World → Prop} {v : Value} {w' : World} (hx : (execOp (ev σ) o).run P w = .ok (.value v) w') (h : K (σ.put o.dst v) w') : OW P o K σ w := by
  intro n a Q ha hd
  unfold Oper.wp
  rw [ha.eval, hx, Oper.upon_value]
  exact ⟨_, ha.put hd _, h⟩

theorem OW.unit {o : Oper} {K : Env → World → Prop} {w' : World} (hx : (execOp (ev σ) o).run P w = .ok .skip w') (h : K (σ.put o.dst undef) w') : OW P o K σ w := by
  intro n a Q ha hd
  unfold Oper.wp
  rw [ha.eval, hx, Oper.upon_skip]
  exact ⟨_, ha.put hd _, h⟩

theorem OW.enter {o : Oper} {K : Env → World → Prop} {w' : World} {f : FuncId} {args : Array Value} {X : Value → World → Prop} (hx : (execOp (ev σ) o).run P w = .ok (.enter f args) w')
    (hc : Calls P f args w' fun e w => ∃ v, e = .returned v ∧ X v w) (h : ∀ v w, X v w → K (σ.put o.dst v) w) : OW P o K σ w := by
  intro n a Q ha hd
  unfold Oper.wp
  rw [ha.eval, hx, Oper.upon_enter]
  refine hc.mono fun e w' he => ?_
  obtain ⟨v, rfl, hX⟩ := he
  exact ⟨_, ha.put hd _, h v w' hX⟩

/-! ### A region in the order of the text -/

def SQ (P : Program) (n : Nat) (A : Array Oper) : List Nat → (Env → World → Prop) → Env → World → Prop
  | [], K => K
  | i :: is, K => OK P n A i (SQ P n A is K)

theorem SQ.sound {A : Array Oper} {Q' : Exit → Act → World → Prop} {K : Env → World → Prop} (hK : ∀ a σ w, Rel n a σ → K σ w → Q' .normal a w) :
    ∀ (is : List Nat) (a : Act) (σ : Env) (w : World), Rel n a σ → SQ P n A is K σ w → wpOps P A Q' is a w
  | [], a, σ, w, ha, h => hK a σ w ha h
  | i :: is, a, σ, w, ha, h => by
    rw [wpOps_cons]
    refine wpOp_mono ?_ (h a Q' ha)
    rintro a' w' ⟨σ', ha', h'⟩
    exact SQ.sound hK is a' σ' w' ha' h'

theorem FW.region {id : Nat} {A : Array Oper} (h : SQ P n A (List.range A.size) (Q .normal) σ w) : FW P n (.region id A false) Q σ w := fun a ha =>
  wp_region (SQ.sound (fun _ σ _ ha h => ⟨σ, ha, h⟩) _ a σ w ha h)

/-! ### A region in whatever order -/

def Hold : Obl → World → Prop
  | [], _ => True
  | p :: O, w => p.2 w ∧ Hold O w
theorem Hold.cons {p : Nat × (World → Prop)} {O : Obl} (h : p.2 w) (k : Hold O w) : Hold (p :: O) w := ⟨h, k⟩
theorem Hold.nil : Hold [] w := trivial
theorem Hold.all : ∀ {O : Obl}, Hold O w → O.hold w
  | [], _ => fun p hp => by cases hp
  | _ :: _, h => fun p hp => by
    rcases List.mem_cons.1 hp with rfl | hp
    · exact h.1
    · exact Hold.all h.2 p hp
theorem Hold.of : ∀ {O : Obl}, O.hold w → Hold O w
  | [], _ => trivial
  | _ :: _, h => ⟨h _ (List.mem_cons_self ..), Hold.of fun p hp => h p (List.mem_cons_of_mem _ hp)⟩

def osel : List Bool → Obl → Obl
  | true :: ks, p :: O => p :: osel ks O
  | false :: ks, _ :: O => osel ks O
  | _, _ => []
theorem past_osel {A : Array Oper} {i : Nat} : ∀ {O : Obl} {is : List Nat} {ks : List Bool}, O.map Prod.fst = is → is.map (fun j => !waits A i j) = ks → O.past A i = osel ks O
  | [], _, _, _, h => by subst h; simp [Obl.past, osel]
  | p :: O, is, ks, h1, h2 => by
    subst h1
    subst h2
    have := past_osel (A := A) (i := i) (O := O) rfl rfl
    simp only [Obl.past] at this
    simp only [Obl.past, List.filter_cons, List.map_cons]
    cases waits A i p.1 with
    | true => simp [osel, this]
    | false => simp [osel, this]

def AQ (P : Program) (n : Nat) (A : Array Oper) (K : Env → World → Prop) (fuel : Nat) (O : Obl) (l : Array Bool) (σ : Env) (w : World) : Prop :=
  ∀ (a : Act) (Q : Exit → Act → World → Prop), (∀ a σ w, Rel n a σ → K σ w → Q .normal a w) → (∀ c a w, ¬ Q (.panic c) a w) → Rel n a σ → wpD P A Q fuel O l a w

theorem AQ.take {A : Array Oper} {S : World → Prop} {K : Env → World → Prop} {fuel : Nat} {O : Obl} {l : Array Bool} (i : Nat) {o : Oper} {v : Value} (ho : at? n A i = some o)
    (hs : Region.noSelect A = true) (hf : Region.free .any A l i = true) (hr : (Region.ready .any A l).contains i = true)
    (hg : gOK A σ o.guard = true) (hO : Hold O w) (hS : S w) (hx : ∀ w, S w → (execOp (ev σ) o).run P w = .ok (.value v) w)
    (h : Hold ((i, S) :: O) w → AQ P n A K fuel ((i, S) :: O) (l.setIfInBounds i true) (σ.put o.dst v) w) : AQ P n A K (fuel + 1) O l σ w := by
  obtain ⟨h1, h2⟩ := at?_spec ho
  intro a Q hK hp ha
  refine wpD_take h1 hs hf hr (fun c a w hq => absurd hq (hp c _ w)) (.inl ⟨wanted_of ha hg, fun w hw => ?_⟩) hS hO.all (h ⟨hS, hO⟩ _ Q hK hp (ha.put h2 v))
  rw [ha.eval]
  exact hx w hw

theorem AQ.takeE {A : Array Oper} {S : World → Prop} {K : Env → World → Prop} {fuel : Nat} {O : Obl} {l : Array Bool} (i : Nat) {o : Oper} {X : Value → Prop} (ho : at? n A i = some o)
    (hs : Region.noSelect A = true) (hf : Region.free .any A l i = true) (hr : (Region.ready .any A l).contains i = true)
    (hg : gOK A σ o.guard = true) (hO : Hold O w) (hS : S w) (hx : ∃ v, X v ∧ ∀ w, S w → (execOp (ev σ) o).run P w = .ok (.value v) w)
    (h : ∀ v, X v → Hold ((i, S) :: O) w → AQ P n A K fuel ((i, S) :: O) (l.setIfInBounds i true) (σ.put o.dst v) w) : AQ P n A K (fuel + 1) O l σ w := by
  obtain ⟨v, h1, h2⟩ := hx
  exact AQ.take i ho hs hf hr hg hO hS h2 (h v h1)

/-- What hangs on no world. -/
theorem AQ.pure {A : Array Oper} {K : Env → World → Prop} {fuel : Nat} {O : Obl} {l : Array Bool} (i : Nat) {o : Oper} {v : Value} (ho : at? n A i = some o)
    (hs : Region.noSelect A = true) (hf : Region.free .any A l i = true) (hr : (Region.ready .any A l).contains i = true)
    (hg : gOK A σ o.guard = true) (hO : Hold O w) (hx : ∀ w, (execOp (ev σ) o).run P w = .ok (.value v) w)
    (h : AQ P n A K fuel O (l.setIfInBounds i true) (σ.put o.dst v) w) : AQ P n A K (fuel + 1) O l σ w := by
  obtain ⟨h1, h2⟩ := at?_spec ho
  intro a Q hK hp ha
  refine wpD_take (S := fun _ => True) h1 hs hf hr (fun c a w hq => absurd hq (hp c _ w)) (.inl ⟨wanted_of ha hg, fun w _ => ?_⟩) trivial hO.all (wpD_add (h _ Q hK hp (ha.put h2 v)))
  rw [ha.eval]
  exact hx w

theorem AQ.skip {A : Array Oper} {K : Env → World → Prop} {fuel : Nat} {O : Obl} {l : Array Bool} (i : Nat) {j t : Nat} {b x : Bool} {d : Option Nat} {op : Op} {ty : TypeId} {pos : String} {af : Array Edge}
    (ho : at? n A i = some ⟨d, op, ty, pos, af, some (j, b)⟩)
    (hs : Region.noSelect A = true) (hf : Region.free .any A l i = true) (hr : (Region.ready .any A l).contains i = true)
    (ht : (A[j]?).bind (·.dst) = some t) (hxx : σ t = .bool x) (hb : x = !b) (hO : Hold O w)
    (h : AQ P n A K fuel O (l.setIfInBounds i true) (σ.put d undef) w) : AQ P n A K (fuel + 1) O l σ w := by
  obtain ⟨h1, h2⟩ := at?_spec ho
  intro a Q hK hp ha
  refine wpD_take (S := fun _ => True) h1 hs hf hr (fun c a w hq => absurd hq (hp c _ w)) (.inr ⟨?_, rfl⟩) trivial hO.all (wpD_add (h _ Q hK hp (ha.put h2 undef)))
  unfold Region.wanted
  simp only [yielded_of ha ht hxx, hb]
  cases b <;> rfl

theorem AQ.one {A : Array Oper} {K : Env → World → Prop} {fuel : Nat} {O : Obl} {l : Array Bool} (i : Nat) (is : List Nat) (ks : List Bool) (hr : Region.ready .any A l = [i]) (hi : O.map Prod.fst = is) (hk : is.map (fun j => !waits A i j) = ks)
    (h : OK P n A i (fun σ w => Hold (osel ks O) w ∧ AQ P n A K fuel (osel ks O) (l.setIfInBounds i true) σ w) σ w) : AQ P n A K (fuel + 1) O l σ w := by
  intro a Q hK hp ha
  refine wpD_all hr (by simp) fun j hj => ?_
  obtain rfl := List.mem_singleton.1 hj
  rw [past_osel hi hk]
  refine wpOp_mono ?_ (h a Q ha)
  rintro a' w' ⟨σ', ha', hS, h'⟩
  exact ⟨hS.all, h' a' Q hK hp ha'⟩

theorem AQ.two {A : Array Oper} {K : Env → World → Prop} {fuel : Nat} {O : Obl} {l : Array Bool} (i j : Nat) (is : List Nat) (ks ks' : List Bool) (hr : Region.ready .any A l = [i, j]) (hi : O.map Prod.fst = is)
    (hk : is.map (fun q => !waits A i q) = ks) (hk' : is.map (fun q => !waits A j q) = ks')
    (h : OK P n A i (fun σ w => Hold (osel ks O) w ∧ AQ P n A K fuel (osel ks O) (l.setIfInBounds i true) σ w) σ w)
    (h' : OK P n A j (fun σ w => Hold (osel ks' O) w ∧ AQ P n A K fuel (osel ks' O) (l.setIfInBounds j true) σ w) σ w) : AQ P n A K (fuel + 1) O l σ w := by
  intro a Q hK hp ha
  refine wpD_all hr (by simp) fun q hq => ?_
  rcases List.mem_cons.1 hq with rfl | hq
  · rw [past_osel hi hk]
    refine wpOp_mono ?_ (h a Q ha)
    rintro a' w' ⟨σ', ha', hS, h''⟩
    exact ⟨hS.all, h'' a' Q hK hp ha'⟩
  · obtain rfl := List.mem_singleton.1 hq
    rw [past_osel hi hk']
    refine wpOp_mono ?_ (h' a Q ha)
    rintro a' w' ⟨σ', ha', hS, h''⟩
    exact ⟨hS.all, h'' a' Q hK hp ha'⟩

theorem AQ.done {A : Array Oper} {K : Env → World → Prop} {fuel : Nat} {O : Obl} {l : Array Bool} (hr : Region.ready .any A l = []) (h : K σ w) : AQ P n A K fuel O l σ w :=
  fun a _ hK _ ha => wpD_done hr (hK a σ w ha h) fuel

theorem FW.regionD {id : Nat} {A : Array Oper} (hm : P.follows .mixedOrders = true)
    (h : AQ P n A (Q .normal) A.size [] (Array.replicate A.size false) σ { w with drawn := w.drawn + 1 }) : FW P n (.region id A true) Q σ w := fun a ha =>
  wp_region_any hm (wpAny_of_D _ _ _ _ _ (h a _ (fun _ σ _ ha h => ⟨σ, ha, h⟩) (fun _ _ _ h => h) ha))

end

/-! ### A call -/

def ResL (P : Program) (σ : Env) (w : World) : List ResultVar → List Value → Prop
  | [], vs => vs = []
  | .tmp t :: rs, vs => ∃ vs', vs = σ t :: vs' ∧ ResL P σ w rs vs'
  | .cell a t :: rs, vs => ∃ v ad vs', vs = v :: vs' ∧ σ a = .pointer (some ad) ∧ (loadVar t ad).run P w = .ok v w ∧ ResL P σ w rs vs'

def tupOf : List Value → Value
  | [v] => v
  | vs => .tuple vs.toArray

def RetQ (P : Program) (rs : List ResultVar) (X : Value → World → Prop) : Post
  | .normal, σ, w | .ret, σ, w => ∃ vs, ResL P σ w rs vs ∧ X (tupOf vs) w
  | _, _, _ => False

def resF (σ : Env) : ResultVar → Sem Value
  | .tmp t => pure (σ t)
  | .cell a t => do loadVar t (← asAddr (σ a))

theorem resF_run {P : Program} {σ : Env} {w : World} : ∀ (rs : List ResultVar) (vs acc : List Value), ResL P σ w rs vs →
    (List.mapM.loop (resF σ) rs acc).run P w = .ok (acc.reverse ++ vs) w
  | [], vs, acc, h => by simp only [ResL] at h; subst h; simp [List.mapM.loop]
  | .tmp t :: rs, vs, acc, h => by
    obtain ⟨vs', rfl, h⟩ := h
    simp only [List.mapM.loop, Sem.run_bind, resF, Sem.run_pure, Result.andThen_ok]
    rw [resF_run rs vs' (σ t :: acc) h]
    simp
  | .cell b t :: rs, vs, acc, h => by
    obtain ⟨v, ad, vs', rfl, hb, hl, h⟩ := h
    have e : (resF σ (.cell b t)).run P w = .ok v w := by
      simp only [resF, hb, asAddr, Sem.run_bind, Sem.run_pure, Result.andThen_ok, hl]
    simp only [List.mapM.loop, Sem.run_bind, e, Result.andThen_ok]
    rw [resF_run rs vs' (v :: acc) h]
    simp

theorem results_run {P : Program} {n : Nat} {a : Act} {σ : Env} {w : World} (ha : Rel n a σ) {fn : Func} {rs : List ResultVar} (hrs : fn.results.toList = rs) {vs : List Value} (h : ResL P σ w rs vs) :
    (results fn a.tmps).run P w = .ok (tupOf vs) w := by
  have hk := resF_run rs vs [] h
  have hm : fn.results = rs.toArray := by rw [← hrs]
  have hR : results fn a.tmps = (do let vs ← rs.toArray.mapM (resF σ); pure (if h : vs.size = 1 then vs[0] else .tuple vs)) := by
    unfold results
    rw [hm]
    congr 1
    congr 1
    funext r
    cases r with
    | tmp t => simp only [resF, ha.get]
    | cell b t => simp only [resF, ha.get]
  rw [hR]
  simp only [Sem.run_bind, List.mapM_toArray, Sem.run_map]
  unfold List.mapM
  rw [hk]
  simp only [Result.andThen_ok, Sem.run_pure, List.reverse_nil, List.nil_append]
  congr 1
  cases vs with
  | nil => simp [tupOf]
  | cons v vs => cases vs <;> simp [tupOf]

theorem Calls.ofFW {P : Program} {f : FuncId} {fn : Func} {c : Code} {args : List Value} {w : World} {X : Value → World → Prop} (hf : P.funcs[f]? = some fn) (hb : fn.body = some c)
    (hle : Nat.ble args.length fn.ntmps = true) (h : FW P fn.ntmps c (RetQ P fn.results.toList X) (ofL args) w) :
    Calls P f args.toArray w fun e w' => ∃ v, e = .returned v ∧ X v w' := by
  have hle' := Nat.le_of_ble_eq_true hle
  refine calls_of_wp hf hb ?_
  refine wp_mono (h _ ⟨?_, rfl, fun t => ?_⟩) fun e a w' hq => ?_
  · simp; omega
  · simp only [ofL, List.getD_eq_getElem?_getD, Array.getD_eq_getD_getElem?]
    rw [Array.getElem?_append]
    by_cases ht : t < args.length
    · simp [ht]
    · simp only [List.size_toArray, ht, if_false]
      rw [List.getElem?_eq_none (by omega)]
      by_cases h2 : t - args.length < fn.ntmps - args.length
      · simp [Array.getElem?_replicate, h2]
      · simp [Array.getElem?_replicate, h2]
  · cases e with
    | normal =>
      obtain ⟨σ', hr, vs, h1, h2⟩ := hq
      exact ⟨hr.defs, _, results_run hr rfl h1, _, rfl, h2⟩
    | ret =>
      obtain ⟨σ', hr, vs, h1, h2⟩ := hq
      exact ⟨hr.defs, _, results_run hr rfl h1, _, rfl, h2⟩
    | exit id => obtain ⟨σ', hr, hq⟩ := hq; exact hq.elim
    | goto l => exact hq.elim
    | panic c => exact hq.elim
    | outgrown => exact hq.elim

end Sp
