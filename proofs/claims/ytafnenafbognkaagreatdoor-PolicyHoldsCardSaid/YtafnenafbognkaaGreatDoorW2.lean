/-
  Parts of the proof, merged: Eng1, Eng2.
-/
import Derived.Laws.Cells
import Derived.Laws.Entries
import Derived.Laws.Strings
import Derived.Laws.World
import Derived.LoopN
import Derived.Scope
import Derived.Test.YtafnenafbognkaaGreatDoorW1
namespace Sp
open Go
abbrev Env := Nat → Value
def Env.put (σ : Env) (d : Option Nat) (v : Value) : Env :=
  match d with
  | some d => fun t => bif Nat.beq t d then v else σ t
  | none => σ
def ofL (l : List Value) : Env := fun t => l.getD t undef
theorem Env.put_id {σ : Env} {d : Nat} {v : Value} (h : σ d = v) : σ.put (some d) v = σ := by
  funext t
  simp only [Env.put]
  cases hb : Nat.beq t d with
  | true => rw [Nat.eq_of_beq_eq_true hb]; exact h.symm
  | false => rfl
def ev (σ : Env) : Operand → Value
  | .tmp t => σ t
  | .const v => v
  | .global g => .pointer (some ⟨g, 0, none⟩)
  | .func f => .func (.func f) #[] #[]
structure Rel (n : Nat) (a : Act) (σ : Env) : Prop where
  size : a.tmps.size = n
  defs : a.defers = []
  get : ∀ t, a.tmps.getD t undef = σ t
def dlt (d : Option Nat) (n : Nat) : Bool :=
  match d with
  | some d => Nat.blt d n
  | none => true
theorem Rel.eval {n : Nat} {a : Act} {σ : Env} (h : Rel n a σ) : a.eval = ev σ := by
  funext x
  cases x with
  | tmp t => exact h.get t
  | _ => rfl
theorem Rel.put {n : Nat} {a : Act} {σ : Env} (h : Rel n a σ) {d : Option Nat} (hd : dlt d n = true) (v : Value) : Rel n (a.put d v) (σ.put d v) := by
  cases d with
  | none => exact h
  | some d =>
    have hd' : d < n := by
      simp only [dlt, Nat.blt] at hd
      exact Nat.le_of_ble_eq_true hd
    refine ⟨by simp [Act.put, h.size], h.defs, fun t => ?_⟩
    simp only [Act.put, Env.put]
    cases hb : Nat.beq t d with
    | true =>
      rw [Nat.eq_of_beq_eq_true hb]
      simp [h.size, hd']
    | false =>
      have hne : d ≠ t := fun e => by rw [e, Nat.beq_refl] at hb; cases hb
      rw [cond_false, ← h.get t]
      simp [Array.getElem?_setIfInBounds_ne hne]
abbrev Post := Exit → Env → World → Prop
def LQ (n : Nat) (Q : Post) : Exit → Act → World → Prop
  | .normal, a, w => ∃ σ, Rel n a σ ∧ Q .normal σ w
  | .exit id, a, w => ∃ σ, Rel n a σ ∧ Q (.exit id) σ w
  | .ret, a, w => ∃ σ, Rel n a σ ∧ Q .ret σ w
  | _, _, _ => False
def thenQ (next : Env → World → Prop) (Q : Post) : Post
  | .normal => next
  | e => Q e
def inBlockQ (id : Nat) (Q : Post) : Post
  | .exit i => bif Nat.beq i id then Q .normal else Q (.exit i)
  | e => Q e
def FW (P : Program) (n : Nat) (c : Code) (Q : Post) (σ : Env) (w : World) : Prop := ∀ a, Rel n a σ → c.wp P (LQ n Q) a w
def FL (P : Program) (n : Nat) (c : Code) (Q : Post) (k : Nat) (σ : Env) (w : World) : Prop := ∀ a, Rel n a σ → Code.rounds P c (LQ n Q) k a w
section
variable {P : Program} {n : Nat} {Q : Post} {σ : Env} {w : World}
theorem FW.skip (h : Q .normal σ w) : FW P n .skip Q σ w := fun _ ha => wp_skip ⟨σ, ha, h⟩
theorem FW.label {l : Nat} (h : Q .normal σ w) : FW P n (.label l) Q σ w := fun _ ha => wp_label ⟨σ, ha, h⟩
theorem FW.exit {id : Nat} (h : Q (.exit id) σ w) : FW P n (.exit id) Q σ w := fun _ ha => wp_exit ⟨σ, ha, h⟩
theorem FW.ret (h : Q .ret σ w) : FW P n .ret Q σ w := fun _ ha => wp_ret ⟨σ, ha, h⟩
theorem FW.seq {x y : Code} (h : FW P n x (thenQ (FW P n y Q) Q) σ w) : FW P n (.seq x y) Q σ w := fun a ha => by
  refine wp_seq (wp_mono (h a ha) fun e a w hq => ?_)
  cases e with
  | normal => obtain ⟨σ', hr, hq⟩ := hq; exact hq a hr
  | exit id => exact hq
  | ret => exact hq
  | goto l => exact hq
  | panic c => exact hq
  | outgrown => exact hq
theorem FW.cond {c : Operand} {x y : Code} {b : Bool} (hc : ev σ c = .bool b) (h : FW P n (if b then x else y) Q σ w) : FW P n (.cond c x y) Q σ w :=
  fun a ha => wp_cond (by rw [ha.eval]; exact hc) (h a ha)
theorem FW.condT {c : Operand} {x y : Code} {b : Bool} (hc : ev σ c = .bool b) (hb : b = true) (h : FW P n x Q σ w) : FW P n (.cond c x y) Q σ w :=
  FW.cond hc (by rw [hb]; exact h)
theorem FW.condF {c : Operand} {x y : Code} {b : Bool} (hc : ev σ c = .bool b) (hb : b = false) (h : FW P n y Q σ w) : FW P n (.cond c x y) Q σ w :=
  FW.cond hc (by rw [hb]; exact h)
theorem FW.block {id : Nat} {c : Code} (h : FW P n c (inBlockQ id Q) σ w) : FW P n (.block id c) Q σ w := fun a ha => by
  refine wp_block (wp_mono (h a ha) fun e a w hq => ?_)
  cases e with
  | normal => exact hq
  | exit i =>
    obtain ⟨σ', hr, hq⟩ := hq
    simp only [Exit.inBlock]
    by_cases hi : i = id
    · rw [if_pos hi]
      refine ⟨σ', hr, ?_⟩
      simpa [inBlockQ, hi, Nat.beq_refl] using hq
    · rw [if_neg hi]
      refine ⟨σ', hr, ?_⟩
      have hb : Nat.beq i id = false := by
        cases hb : Nat.beq i id with
        | true => exact absurd (Nat.eq_of_beq_eq_true hb) hi
        | false => rfl
      simpa [inBlockQ, hb] using hq
  | ret => exact hq
  | goto l => exact hq
  | panic c => exact hq
  | outgrown => exact hq
theorem FW.scope {c : Code} (h : FW P n c Q σ w) : FW P n (.scope c) Q σ w := fun a ha => by
  refine wp_scope_straight (wp_mono (h a ha) fun e a w hq => ?_)
  cases e with
  | goto l => exact hq.elim
  | _ => exact hq
theorem FW.loop {c : Code} (k : Nat) (h : FL P n c Q k σ w) : FW P n (.loop c) Q σ w := fun a ha => wp_loop_rounds k (h a ha)
theorem FL.succ {c : Code} {k : Nat} (h : FW P n c (thenQ (FL P n c Q k) Q) σ w) : FL P n c Q (k + 1) σ w := fun a ha => by
  refine wp_mono (h a ha) fun e a w hq => ?_
  cases e with
  | normal => obtain ⟨σ', hr, hq⟩ := hq; exact hq a hr
  | exit id => exact hq
  | ret => exact hq
  | goto l => exact hq
  | panic c => exact hq
  | outgrown => exact hq
theorem FW.mono {c : Code} {Q' : Post} (h : FW P n c Q σ w) (hq : ∀ e σ w, Q e σ w → Q' e σ w) : FW P n c Q' σ w := fun a ha => by
  refine wp_mono (h a ha) fun e a w hq' => ?_
  cases e with
  | normal => obtain ⟨σ', hr, h'⟩ := hq'; exact ⟨σ', hr, hq _ _ _ h'⟩
  | exit id => obtain ⟨σ', hr, h'⟩ := hq'; exact ⟨σ', hr, hq _ _ _ h'⟩
  | ret => obtain ⟨σ', hr, h'⟩ := hq'; exact ⟨σ', hr, hq _ _ _ h'⟩
  | goto l => exact hq'
  | panic c => exact hq'
  | outgrown => exact hq'
def OW (P : Program) (o : Oper) (K : Env → World → Prop) (σ : Env) (w : World) : Prop :=
  ∀ (n : Nat) (a : Act) (Q : Exit → Act → World → Prop), Rel n a σ → dlt o.dst n = true → o.wp P a w (fun a w => ∃ σ, Rel n a σ ∧ K σ w) Q
def OK (P : Program) (n : Nat) (A : Array Oper) (i : Nat) (K : Env → World → Prop) (σ : Env) (w : World) : Prop :=
  ∀ (a : Act) (Q : Exit → Act → World → Prop), Rel n a σ → wpOp P A Q i (fun a w => ∃ σ, Rel n a σ ∧ K σ w) a w
def at? (n : Nat) (A : Array Oper) (i : Nat) : Option Oper :=
  match A[i]? with
  | some o => bif dlt o.dst n then some o else none
  | none => none
theorem at?_spec {A : Array Oper} {i : Nat} {o : Oper} (h : at? n A i = some o) : A[i]? = some o ∧ dlt o.dst n = true := by
  unfold at? at h
  split at h
  · rename_i o' ho
    cases hb : dlt o'.dst n with
    | true => rw [hb] at h; simp only [cond_true, Option.some.injEq] at h; subst h; exact ⟨ho, hb⟩
    | false => rw [hb] at h; cases h
  · cases h
def gOK (A : Array Oper) (σ : Env) : Option (Nat × Bool) → Bool
  | none => true
  | some (j, b) => match (A[j]?).bind (·.dst) with
    | some t => match σ t with
      | .bool x => x == b
      | _ => false
    | none => false
theorem yielded_of {A : Array Oper} {a : Act} {j t : Nat} {x : Bool} (ha : Rel n a σ) (ht : (A[j]?).bind (·.dst) = some t) (hx : σ t = .bool x) :
    yielded A a.tmps j = some x := by
  have h := ha.get t
  rw [hx] at h
  unfold yielded
  rw [ht]
  simp only [obs]
  cases hg : a.tmps[t]? with
  | none => simp [Array.getD_eq_getD_getElem?, hg, undef] at h
  | some v => simp [Array.getD_eq_getD_getElem?, hg] at h; subst h; rfl
theorem wanted_of {A : Array Oper} {a : Act} {o : Oper} (ha : Rel n a σ) (h : gOK A σ o.guard = true) : Region.wanted o (yielded A a.tmps) = true := by
  unfold Region.wanted
  cases hg : o.guard with
  | none => rfl
  | some g =>
    obtain ⟨j, b⟩ := g
    rw [hg] at h
    simp only [gOK] at h
    split at h
    · rename_i t ht
      split at h
      · rename_i x hx
        simp only [yielded_of ha ht hx]
        simpa using h
      · cases h
    · cases h
theorem OK.go {A : Array Oper} {i : Nat} {o : Oper} {K : Env → World → Prop} (ho : at? n A i = some o) (hg : gOK A σ o.guard = true) (h : OW P o K σ w) : OK P n A i K σ w := by
  obtain ⟨h1, h2⟩ := at?_spec ho
  intro a Q ha
  unfold wpOp
  simp only [h1, wanted_of ha hg, if_true]
  exact .inl (h n a Q ha h2)
theorem OK.gt {A : Array Oper} {i j t : Nat} {b x : Bool} {d : Option Nat} {op : Op} {ty : TypeId} {pos : String} {af : Array Edge} {K : Env → World → Prop}
    (ho : at? n A i = some ⟨d, op, ty, pos, af, some (j, b)⟩) (ht : (A[j]?).bind (·.dst) = some t) (hx : σ t = .bool x) (hb : x = b)
    (h : OW P ⟨d, op, ty, pos, af, some (j, b)⟩ K σ w) : OK P n A i K σ w :=
  OK.go ho (by simp only [gOK, ht, hx, hb]; simp) h
theorem OK.gf {A : Array Oper} {i j t : Nat} {b x : Bool} {d : Option Nat} {op : Op} {ty : TypeId} {pos : String} {af : Array Edge} {K : Env → World → Prop}
    (ho : at? n A i = some ⟨d, op, ty, pos, af, some (j, b)⟩) (ht : (A[j]?).bind (·.dst) = some t) (hx : σ t = .bool x) (hb : x = !b)
    (h : K (σ.put d undef) w) : OK P n A i K σ w := by
  obtain ⟨h1, h2⟩ := at?_spec ho
  intro a Q ha
  unfold wpOp
  have hw : Region.wanted (⟨d, op, ty, pos, af, some (j, b)⟩ : Oper) (yielded A a.tmps) = false := by
    unfold Region.wanted
    simp only [yielded_of ha ht hx, hb]
    cases b <;> rfl
  simp only [h1, hw, Bool.false_eq_true, if_false]
  exact ⟨_, ha.put h2 _, h⟩
theorem OW.val {o : Oper} {K : Env → World → Prop} {v : Value} {w' : World} (hx : (execOp (ev σ) o).run P w = .ok (.value v) w') (h : K (σ.put o.dst v) w') : OW P o K σ w := by
  intro n a Q ha hd
  unfold Oper.wp
  rw [ha.eval, hx, Oper.upon_value]
  exact ⟨_, ha.put hd _, h⟩
theorem OW.unit {o : Oper} {K : Env → World → Prop} {w' : World} (hx : (execOp (ev σ) o).run P w = .ok .skip w') (h : K (σ.put o.dst undef) w') : OW P o K σ w := by
  intro n a Q ha hd
  unfold Oper.wp
  rw [ha.eval, hx, Oper.upon_skip]
  exact ⟨_, ha.put hd _, h⟩
theorem OW.enter {o : Oper} {K : Env → World → Prop} {w' : World} {f : FuncId} {args : Array Value} {X : Value → World → Prop} (hx : (execOp (ev σ) o).run P w = .ok (.enter f args) w')
    (hc : Calls P f args w' fun e w => ∃ v, e = .returned v ∧ X v w) (h : ∀ v w, X v w → K (σ.put o.dst v) w) : OW P o K σ w := by
  intro n a Q ha hd
  unfold Oper.wp
  rw [ha.eval, hx, Oper.upon_enter]
  refine hc.mono fun e w' he => ?_
  obtain ⟨v, rfl, hX⟩ := he
  exact ⟨_, ha.put hd _, h v w' hX⟩
def SQ (P : Program) (n : Nat) (A : Array Oper) : List Nat → (Env → World → Prop) → Env → World → Prop
  | [], K => K
  | i :: is, K => OK P n A i (SQ P n A is K)
theorem SQ.sound {A : Array Oper} {Q' : Exit → Act → World → Prop} {K : Env → World → Prop} (hK : ∀ a σ w, Rel n a σ → K σ w → Q' .normal a w) :
    ∀ (is : List Nat) (a : Act) (σ : Env) (w : World), Rel n a σ → SQ P n A is K σ w → wpOps P A Q' is a w
  | [], a, σ, w, ha, h => hK a σ w ha h
  | i :: is, a, σ, w, ha, h => by
    rw [wpOps_cons]
    refine wpOp_mono ?_ (h a Q' ha)
    rintro a' w' ⟨σ', ha', h'⟩
    exact SQ.sound hK is a' σ' w' ha' h'
theorem FW.region {id : Nat} {A : Array Oper} (h : SQ P n A (List.range A.size) (Q .normal) σ w) : FW P n (.region id A false) Q σ w := fun a ha =>
  wp_region (SQ.sound (fun _ σ _ ha h => ⟨σ, ha, h⟩) _ a σ w ha h)
def Hold : Obl → World → Prop
  | [], _ => True
  | p :: O, w => p.2 w ∧ Hold O w
theorem Hold.cons {p : Nat × (World → Prop)} {O : Obl} (h : p.2 w) (k : Hold O w) : Hold (p :: O) w := ⟨h, k⟩
theorem Hold.nil : Hold [] w := trivial
theorem Hold.all : ∀ {O : Obl}, Hold O w → O.hold w
  | [], _ => fun p hp => by cases hp
  | _ :: _, h => fun p hp => by
    rcases List.mem_cons.1 hp with rfl | hp
    · exact h.1
    · exact Hold.all h.2 p hp
theorem Hold.of : ∀ {O : Obl}, O.hold w → Hold O w
  | [], _ => trivial
  | _ :: _, h => ⟨h _ (List.mem_cons_self ..), Hold.of fun p hp => h p (List.mem_cons_of_mem _ hp)⟩
def osel : List Bool → Obl → Obl
  | true :: ks, p :: O => p :: osel ks O
  | false :: ks, _ :: O => osel ks O
  | _, _ => []
theorem past_osel {A : Array Oper} {i : Nat} : ∀ {O : Obl} {is : List Nat} {ks : List Bool}, O.map Prod.fst = is → is.map (fun j => !waits A i j) = ks → O.past A i = osel ks O
  | [], _, _, _, h => by subst h; simp [Obl.past, osel]
  | p :: O, is, ks, h1, h2 => by
    subst h1
    subst h2
    have := past_osel (A := A) (i := i) (O := O) rfl rfl
    simp only [Obl.past] at this
    simp only [Obl.past, List.filter_cons, List.map_cons]
    cases waits A i p.1 with
    | true => simp [osel, this]
    | false => simp [osel, this]
def AQ (P : Program) (n : Nat) (A : Array Oper) (K : Env → World → Prop) (fuel : Nat) (O : Obl) (l : Array Bool) (σ : Env) (w : World) : Prop :=
  ∀ (a : Act) (Q : Exit → Act → World → Prop), (∀ a σ w, Rel n a σ → K σ w → Q .normal a w) → (∀ c a w, ¬ Q (.panic c) a w) → Rel n a σ → wpD P A Q fuel O l a w
theorem AQ.take {A : Array Oper} {S : World → Prop} {K : Env → World → Prop} {fuel : Nat} {O : Obl} {l : Array Bool} (i : Nat) {o : Oper} {v : Value} (ho : at? n A i = some o)
    (hs : Region.noSelect A = true) (hf : Region.free .any A l i = true) (hr : (Region.ready .any A l).contains i = true)
    (hg : gOK A σ o.guard = true) (hO : Hold O w) (hS : S w) (hx : ∀ w, S w → (execOp (ev σ) o).run P w = .ok (.value v) w)
    (h : Hold ((i, S) :: O) w → AQ P n A K fuel ((i, S) :: O) (l.setIfInBounds i true) (σ.put o.dst v) w) : AQ P n A K (fuel + 1) O l σ w := by
  obtain ⟨h1, h2⟩ := at?_spec ho
  intro a Q hK hp ha
  refine wpD_take h1 hs hf hr (fun c a w hq => absurd hq (hp c _ w)) (.inl ⟨wanted_of ha hg, fun w hw => ?_⟩) hS hO.all (h ⟨hS, hO⟩ _ Q hK hp (ha.put h2 v))
  rw [ha.eval]
  exact hx w hw
theorem AQ.pure {A : Array Oper} {K : Env → World → Prop} {fuel : Nat} {O : Obl} {l : Array Bool} (i : Nat) {o : Oper} {v : Value} (ho : at? n A i = some o)
    (hs : Region.noSelect A = true) (hf : Region.free .any A l i = true) (hr : (Region.ready .any A l).contains i = true)
    (hg : gOK A σ o.guard = true) (hO : Hold O w) (hx : ∀ w, (execOp (ev σ) o).run P w = .ok (.value v) w)
    (h : AQ P n A K fuel O (l.setIfInBounds i true) (σ.put o.dst v) w) : AQ P n A K (fuel + 1) O l σ w := by
  obtain ⟨h1, h2⟩ := at?_spec ho
  intro a Q hK hp ha
  refine wpD_take (S := fun _ => True) h1 hs hf hr (fun c a w hq => absurd hq (hp c _ w)) (.inl ⟨wanted_of ha hg, fun w _ => ?_⟩) trivial hO.all (wpD_add (h _ Q hK hp (ha.put h2 v)))
  rw [ha.eval]
  exact hx w
theorem AQ.skip {A : Array Oper} {K : Env → World → Prop} {fuel : Nat} {O : Obl} {l : Array Bool} (i : Nat) {j t : Nat} {b x : Bool} {d : Option Nat} {op : Op} {ty : TypeId} {pos : String} {af : Array Edge}
    (ho : at? n A i = some ⟨d, op, ty, pos, af, some (j, b)⟩)
    (hs : Region.noSelect A = true) (hf : Region.free .any A l i = true) (hr : (Region.ready .any A l).contains i = true)
    (ht : (A[j]?).bind (·.dst) = some t) (hxx : σ t = .bool x) (hb : x = !b) (hO : Hold O w)
    (h : AQ P n A K fuel O (l.setIfInBounds i true) (σ.put d undef) w) : AQ P n A K (fuel + 1) O l σ w := by
  obtain ⟨h1, h2⟩ := at?_spec ho
  intro a Q hK hp ha
  refine wpD_take (S := fun _ => True) h1 hs hf hr (fun c a w hq => absurd hq (hp c _ w)) (.inr ⟨?_, rfl⟩) trivial hO.all (wpD_add (h _ Q hK hp (ha.put h2 undef)))
  unfold Region.wanted
  simp only [yielded_of ha ht hxx, hb]
  cases b <;> rfl
theorem AQ.one {A : Array Oper} {K : Env → World → Prop} {fuel : Nat} {O : Obl} {l : Array Bool} (i : Nat) (is : List Nat) (ks : List Bool) (hr : Region.ready .any A l = [i]) (hi : O.map Prod.fst = is) (hk : is.map (fun j => !waits A i j) = ks)
    (h : OK P n A i (fun σ w => Hold (osel ks O) w ∧ AQ P n A K fuel (osel ks O) (l.setIfInBounds i true) σ w) σ w) : AQ P n A K (fuel + 1) O l σ w := by
  intro a Q hK hp ha
  refine wpD_all hr (by simp) fun j hj => ?_
  obtain rfl := List.mem_singleton.1 hj
  rw [past_osel hi hk]
  refine wpOp_mono ?_ (h a Q ha)
  rintro a' w' ⟨σ', ha', hS, h'⟩
  exact ⟨hS.all, h' a' Q hK hp ha'⟩
theorem AQ.done {A : Array Oper} {K : Env → World → Prop} {fuel : Nat} {O : Obl} {l : Array Bool} (hr : Region.ready .any A l = []) (h : K σ w) : AQ P n A K fuel O l σ w :=
  fun a _ hK _ ha => wpD_done hr (hK a σ w ha h) fuel
theorem FW.regionD {id : Nat} {A : Array Oper} (hm : P.follows .mixedOrders = true)
    (h : AQ P n A (Q .normal) A.size [] (Array.replicate A.size false) σ { w with drawn := w.drawn + 1 }) : FW P n (.region id A true) Q σ w := fun a ha =>
  wp_region_any hm (wpAny_of_D _ _ _ _ _ (h a _ (fun _ σ _ ha h => ⟨σ, ha, h⟩) (fun _ _ _ h => h) ha))
end
def ResL (P : Program) (σ : Env) (w : World) : List ResultVar → List Value → Prop
  | [], vs => vs = []
  | .tmp t :: rs, vs => ∃ vs', vs = σ t :: vs' ∧ ResL P σ w rs vs'
  | .cell a t :: rs, vs => ∃ v ad vs', vs = v :: vs' ∧ σ a = .pointer (some ad) ∧ (loadVar t ad).run P w = .ok v w ∧ ResL P σ w rs vs'
def tupOf : List Value → Value
  | [v] => v
  | vs => .tuple vs.toArray
def RetQ (P : Program) (rs : List ResultVar) (X : Value → World → Prop) : Post
  | .normal, σ, w | .ret, σ, w => ∃ vs, ResL P σ w rs vs ∧ X (tupOf vs) w
  | _, _, _ => False
def resF (σ : Env) : ResultVar → Sem Value
  | .tmp t => pure (σ t)
  | .cell a t => do loadVar t (← asAddr (σ a))
theorem resF_run {P : Program} {σ : Env} {w : World} : ∀ (rs : List ResultVar) (vs acc : List Value), ResL P σ w rs vs →
    (List.mapM.loop (resF σ) rs acc).run P w = .ok (acc.reverse ++ vs) w
  | [], vs, acc, h => by simp only [ResL] at h; subst h; simp [List.mapM.loop]
  | .tmp t :: rs, vs, acc, h => by
    obtain ⟨vs', rfl, h⟩ := h
    simp only [List.mapM.loop, Sem.run_bind, resF, Sem.run_pure, Result.andThen_ok]
    rw [resF_run rs vs' (σ t :: acc) h]
    simp
  | .cell b t :: rs, vs, acc, h => by
    obtain ⟨v, ad, vs', rfl, hb, hl, h⟩ := h
    have e : (resF σ (.cell b t)).run P w = .ok v w := by
      simp only [resF, hb, asAddr, Sem.run_bind, Sem.run_pure, Result.andThen_ok, hl]
    simp only [List.mapM.loop, Sem.run_bind, e, Result.andThen_ok]
    rw [resF_run rs vs' (v :: acc) h]
    simp
theorem results_run {P : Program} {n : Nat} {a : Act} {σ : Env} {w : World} (ha : Rel n a σ) {fn : Func} {rs : List ResultVar} (hrs : fn.results.toList = rs) {vs : List Value} (h : ResL P σ w rs vs) :
    (results fn a.tmps).run P w = .ok (tupOf vs) w := by
  have hk := resF_run rs vs [] h
  have hm : fn.results = rs.toArray := by rw [← hrs]
  have hR : results fn a.tmps = (do let vs ← rs.toArray.mapM (resF σ); pure (if h : vs.size = 1 then vs[0] else .tuple vs)) := by
    unfold results
    rw [hm]
    congr 1
    congr 1
    funext r
    cases r with
    | tmp t => simp only [resF, ha.get]
    | cell b t => simp only [resF, ha.get]
  rw [hR]
  simp only [Sem.run_bind, List.mapM_toArray, Sem.run_map]
  unfold List.mapM
  rw [hk]
  simp only [Result.andThen_ok, Sem.run_pure, List.reverse_nil, List.nil_append]
  congr 1
  cases vs with
  | nil => simp [tupOf]
  | cons v vs => cases vs <;> simp [tupOf]
theorem Calls.ofFW {P : Program} {f : FuncId} {fn : Func} {c : Code} {args : List Value} {w : World} {X : Value → World → Prop} (hf : P.funcs[f]? = some fn) (hb : fn.body = some c)
    (hle : Nat.ble args.length fn.ntmps = true) (h : FW P fn.ntmps c (RetQ P fn.results.toList X) (ofL args) w) :
    Calls P f args.toArray w fun e w' => ∃ v, e = .returned v ∧ X v w' := by
  have hle' := Nat.le_of_ble_eq_true hle
  refine calls_of_wp hf hb ?_
  refine wp_mono (h _ ⟨?_, rfl, fun t => ?_⟩) fun e a w' hq => ?_
  · simp; omega
  · simp only [ofL, List.getD_eq_getElem?_getD, Array.getD_eq_getD_getElem?]
    rw [Array.getElem?_append]
    by_cases ht : t < args.length
    · simp [ht]
    · simp only [List.size_toArray, ht, if_false]
      rw [List.getElem?_eq_none (by omega)]
      by_cases h2 : t - args.length < fn.ntmps - args.length
      · simp [Array.getElem?_replicate, h2]
      · simp [Array.getElem?_replicate, h2]
  · cases e with
    | normal =>
      obtain ⟨σ', hr, vs, h1, h2⟩ := hq
      exact ⟨hr.defs, _, results_run hr rfl h1, _, rfl, h2⟩
    | ret =>
      obtain ⟨σ', hr, vs, h1, h2⟩ := hq
      exact ⟨hr.defs, _, results_run hr rfl h1, _, rfl, h2⟩
    | exit id => obtain ⟨σ', hr, hq⟩ := hq; exact hq.elim
    | goto l => exact hq.elim
    | panic c => exact hq.elim
    | outgrown => exact hq.elim
end Sp
namespace Sp
open Go
def tSc (P : Program) (t : TypeId) : Bool := match P.underlying t with
  | some (.struct _) | some (.array _ _) => false
  | some _ => true
  | none => false
def tAg (P : Program) (t : TypeId) : Option Nat := match P.underlying t, P.info? t with
  | some (.struct _), some i | some (.array _ _), some i => some i.size
  | _, _ => none
def tZ (P : Program) (t : TypeId) : Option (List Value) := match P.info? t with
  | some i => match i.zero with
    | some z => bif Nat.beq z.cells.size i.size then some z.cells.toList else none
    | none => none
  | none => none
def tSl (P : Program) (t : TypeId) : Option (TypeId × Nat × Nat) := match P.underlying t with
  | some (.slice e) => match P.info? e with
    | some i => some (e, i.size, i.bytes)
    | none => none
  | _ => none
def tAr (P : Program) (t : TypeId) : Option (Nat × TypeId × Nat) := match P.underlying t with
  | some (.array n e) => match P.info? e with
    | some i => some (n, e, i.size)
    | none => none
  | _ => none
def tF (P : Program) (s : TypeId) (f : Nat) : Option (Nat × TypeId) := match P.underlying s with
  | some (.struct fs) => match fs[f]? with
    | some g => bif Nat.beq (P.cellsOf g.type) 0 then none else some (g.offset, g.type)
    | none => none
  | _ => none
def tInt (P : Program) (t : TypeId) : Option IntKind := match P.underlying t with
  | some (.int k) => some k
  | _ => none
def tStr (P : Program) (t : TypeId) : Bool := match P.underlying t with
  | some .string => true
  | _ => false
def fB (P : Program) (f : FuncId) : Bool := match P.funcs[f]? with
  | some fn => !(fn.name == "runtime.NumGoroutine") && fn.body.isSome
  | none => false
section
variable {P : Program} {σ : Env} {w : World}
theorem und_run {t : TypeId} {d : TypeDesc} (h : P.underlying t = some d) : (underlying t).run P w = .ok d w := run_underlying h w
theorem tSc_spec {t : TypeId} (h : tSc P t = true) : (isAgg t).run P w = .ok false w := by
  unfold tSc at h
  cases hu : P.underlying t with
  | none => simp [hu] at h
  | some d => cases d <;> simp [hu] at h <;> simp [isAgg, und_run hu]
theorem tAg_spec {t n : Nat} (h : tAg P t = some n) : (isAgg t).run P w = .ok true w ∧ (Go.sizeOf t).run P w = .ok n w := by
  unfold tAg at h
  cases hu : P.underlying t with
  | none => simp [hu] at h
  | some d =>
    cases hi : P.info? t with
    | none => cases d <;> simp [hu, hi] at h
    | some i => cases d <;> simp [hu, hi] at h <;> subst h <;> simp [isAgg, und_run hu, Go.sizeOf, typeInfo, hi]
theorem tZ_spec {t : TypeId} {z : List Value} (h : tZ P t = some z) : ∃ i v, P.info? t = some i ∧ i.zero = some v ∧ v.cells.toList = z ∧ v.cells.size = i.size ∧ (zeroValue t).run P w = .ok v w := by
  unfold tZ at h
  cases hi : P.info? t with
  | none => simp [hi] at h
  | some i =>
    cases hz : i.zero with
    | none => simp [hi, hz] at h
    | some v =>
      simp only [hi, hz] at h
      cases hb : Nat.beq v.cells.size i.size with
      | false => simp [hb] at h
      | true =>
        simp only [hb, cond_true, Option.some.injEq] at h
        exact ⟨i, v, rfl, hz, h, Nat.eq_of_beq_eq_true hb, by simp [zeroValue, typeInfo, hi, hz]⟩
theorem tSl_spec {t e sz by' : Nat} (h : tSl P t = some (e, sz, by')) : P.underlying t = some (.slice e) ∧ ∃ i, P.info? e = some i ∧ i.size = sz ∧ i.bytes = by' := by
  unfold tSl at h
  cases hu : P.underlying t with
  | none => simp [hu] at h
  | some d =>
    cases d <;> simp [hu] at h
    rename_i e'
    cases hi : P.info? e' with
    | none => simp [hi] at h
    | some i =>
      simp only [hi, Option.some.injEq, Prod.mk.injEq] at h
      obtain ⟨rfl, h1, h2⟩ := h
      exact ⟨rfl, i, hi, h1, h2⟩
theorem tAr_spec {t n e sz : Nat} (h : tAr P t = some (n, e, sz)) : P.underlying t = some (.array n e) ∧ ∃ i, P.info? e = some i ∧ i.size = sz := by
  unfold tAr at h
  cases hu : P.underlying t with
  | none => simp [hu] at h
  | some d =>
    cases d <;> simp [hu] at h
    rename_i n' e'
    cases hi : P.info? e' with
    | none => simp [hi] at h
    | some i =>
      simp only [hi, Option.some.injEq, Prod.mk.injEq] at h
      obtain ⟨rfl, rfl, h2⟩ := h
      exact ⟨rfl, i, hi, h2⟩
theorem tF_spec {s f off t : Nat} (h : tF P s f = some (off, t)) : ∃ fs g, P.underlying s = some (.struct fs) ∧ fs[f]? = some g ∧ g.offset = off ∧ g.type = t ∧ P.cellsOf t ≠ 0 := by
  unfold tF at h
  cases hu : P.underlying s with
  | none => simp [hu] at h
  | some d =>
    cases d <;> simp [hu] at h
    rename_i fs
    cases hg : fs[f]? with
    | none => simp [hg] at h
    | some g =>
      cases hb : Nat.beq (P.cellsOf g.type) 0 with
      | true => simp [hg, hb] at h
      | false =>
        simp [hg, hb] at h
        obtain ⟨rfl, rfl⟩ := h
        exact ⟨fs, g, rfl, hg, rfl, rfl, fun e => by rw [e] at hb; cases hb⟩
theorem tInt_spec {t : TypeId} {k : IntKind} (h : tInt P t = some k) : P.underlying t = some (.int k) := by
  unfold tInt at h
  cases hu : P.underlying t with
  | none => simp [hu] at h
  | some d => cases d <;> simp [hu] at h; subst h; rfl
theorem tStr_spec {t : TypeId} (h : tStr P t = true) : P.underlying t = some .string := by
  unfold tStr at h
  cases hu : P.underlying t with
  | none => simp [hu] at h
  | some d => cases d <;> simp [hu] at h; rfl
theorem addr_add (b o n : Nat) : (⟨b, o, none⟩ : Addr).add n = ⟨b, o + n, none⟩ := by
  unfold Addr.add
  split <;> simp_all
section
variable {d : Option Nat} {ty : TypeId} {pos : String} {af : Array Edge} {g : Option (Nat × Bool)}
theorem x_mov (x : Operand) : (execOp (ev σ) ⟨d, .move x, ty, pos, af, g⟩).run P w = .ok (.value (ev σ x)) w := rfl
theorem x_asg (x : Operand) : (execOp (ev σ) ⟨d, .assign x, ty, pos, af, g⟩).run P w = .ok (.value (ev σ x)) w := rfl
theorem x_pick {c a b : Operand} {x : Bool} (hc : ev σ c = .bool x) : (execOp (ev σ) ⟨d, .pick c a b, ty, pos, af, g⟩).run P w = .ok (.value (if x then ev σ a else ev σ b)) w := by
  simp [execOp, hc, asBool]
theorem x_pickT {c a b : Operand} {x : Bool} (hc : ev σ c = .bool x) (h : x = true) : (execOp (ev σ) ⟨d, .pick c a b, ty, pos, af, g⟩).run P w = .ok (.value (ev σ a)) w := by
  rw [x_pick hc, h]; rfl
theorem x_pickF {c a b : Operand} {x : Bool} (hc : ev σ c = .bool x) (h : x = false) : (execOp (ev σ) ⟨d, .pick c a b, ty, pos, af, g⟩).run P w = .ok (.value (ev σ b)) w := by
  rw [x_pick hc, h]; rfl
theorem x_nk {x : Operand} {a : Addr} (hx : ev σ x = .pointer (some a)) : (execOp (ev σ) ⟨d, .nilCheck x, ty, pos, af, g⟩).run P w = .ok (.value (.pointer (some a))) w := by
  simp [execOp, hx]
theorem x_mkf {fn : Fn} {as bs : Array Operand} : (execOp (ev σ) ⟨d, .makeFunc fn as bs, ty, pos, af, g⟩).run P w = .ok (.value (.func fn (as.map (ev σ)) (bs.map (ev σ)))) w := by
  simp [execOp, Instr.makeFunc]
theorem x_fa {s f off t : Nat} (hf : tF P s f = some (off, t)) {x : Operand} {b o : Nat} (hx : ev σ x = .pointer (some ⟨b, o, none⟩)) :
    (execOp (ev σ) ⟨d, .fieldAddr s x f, ty, pos, af, g⟩).run P w = .ok (.value (.pointer (some ⟨b, o + off, none⟩))) w := by
  obtain ⟨fs, q, h1, h2, rfl, rfl, h3⟩ := tF_spec hf
  have hs : (Go.sizeOf q.type).run P w = .ok (P.cellsOf q.type) w := by
    cases hi : P.info? q.type with
    | none => simp [Program.cellsOf, hi] at h3
    | some i => simp [Go.sizeOf, typeInfo, Program.cellsOf, hi]
  simp [execOp, Instr.fieldAt, und_run h1, h2, hx, Instr.sureAddr, fieldPlace, hs, h3, addr_add]
theorem x_ia {t e sz by' : Nat} (ht : tSl P t = some (e, sz, by')) {x i : Operand} {b o n c : Nat} {k : IntKind} {j : Int} (hx : ev σ x = .slice (some ⟨b, o, none⟩) n c) (hi : ev σ i = .int k j)
    (h0 : 0 ≤ j) (h1 : j < n) : (execOp (ev σ) ⟨d, .indexAddr t x i, ty, pos, af, g⟩).run P w = .ok (.value (.pointer (some ⟨b, o + j.toNat * sz, none⟩))) w := by
  obtain ⟨hu, i', he, hs, _⟩ := tSl_spec ht
  simp [execOp, Instr.indexAt, hi, hx, asIntOf, und_run hu, h0, h1, Go.sizeOf, typeInfo, he, hs, addr_add]
theorem x_iaA {t n e sz : Nat} (ht : tAr P t = some (n, e, sz)) {x i : Operand} {b o : Nat} {k : IntKind} {j : Int} (hx : ev σ x = .pointer (some ⟨b, o, none⟩)) (hi : ev σ i = .int k j)
    (h0 : 0 ≤ j) (h1 : j < n) : (execOp (ev σ) ⟨d, .indexAddr t x i, ty, pos, af, g⟩).run P w = .ok (.value (.pointer (some ⟨b, o + j.toNat * sz, none⟩))) w := by
  obtain ⟨hu, i', he, hs⟩ := tAr_spec ht
  simp [execOp, Instr.indexAt, hi, hx, asIntOf, und_run hu, h0, h1, Go.sizeOf, typeInfo, he, hs, addr_add, Instr.sureAddr]
theorem x_len {t e sz by' : Nat} (ht : tSl P t = some (e, sz, by')) {x : Operand} {a : Option Addr} {n c : Nat} (hx : ev σ x = .slice a n c) :
    (execOp (ev σ) ⟨d, .call ⟨.builtin .len, #[x], #[t]⟩, ty, pos, af, g⟩).run P w = .ok (.value (.int .i64 n)) w := by
  obtain ⟨hu, _⟩ := tSl_spec ht
  simp [execOp, resolve, invoke, builtin, Builtin.len_, und_run hu, hx, goInt]
theorem x_lens {t : Nat} (ht : tStr P t = true) {x : Operand} {s : ByteArray} (hx : ev σ x = .string s) :
    (execOp (ev σ) ⟨d, .call ⟨.builtin .len, #[x], #[t]⟩, ty, pos, af, g⟩).run P w = .ok (.value (.int .i64 s.size)) w := by
  have hu := tStr_spec ht
  simp [execOp, resolve, invoke, builtin, Builtin.len_, und_run hu, hx, goInt]
theorem x_min {x y : Operand} {ts : Array TypeId} {k : IntKind} {a b : Int} (hx : ev σ x = .int k a) (hy : ev σ y = .int k b) :
    (execOp (ev σ) ⟨d, .call ⟨.builtin .min, #[x, y], ts⟩, ty, pos, af, g⟩).run P w = .ok (.value (.int k (if b < a then b else a))) w := by
  simp [execOp, resolve, invoke, builtin, Builtin.min_, Builtin.min2, hx, hy, List.foldlM]
theorem x_ext {i : Nat} {x : Operand} {vs : Array Value} {v : Value} (hx : ev σ x = .tuple vs) (hv : vs[i]? = some v) : (execOp (ev σ) ⟨d, .extract x i, ty, pos, af, g⟩).run P w = .ok (.value v) w := by
  simp [execOp, Instr.extract, hx, hv]
theorem x_conv {s t : Nat} {k : IntKind} (ht : tInt P t = some k) (hs : tInt P s ≠ none) {x : Operand} {k' : IntKind} {n : Int} (hx : ev σ x = .int k' n) :
    (execOp (ev σ) ⟨d, .convert s t x, ty, pos, af, g⟩).run P w = .ok (.value (.int k (k.wrap n))) w := by
  have hu := tInt_spec ht
  obtain ⟨k2, hk⟩ := Option.ne_none_iff_exists'.1 hs
  have hu' := tInt_spec hk
  simp [execOp, convert, und_run hu, und_run hu', hx, Conv.intToInt]
theorem x_not' {t : Nat} {x : Operand} {b : Bool} (hx : ev σ x = .bool b) : (execOp (ev σ) ⟨d, .unOp .not t x, ty, pos, af, g⟩).run P w = .ok (.value (.bool !b)) w := by
  simp [execOp, Op.unary, hx]
theorem x_neg {t : Nat} {x : Operand} {k : IntKind} {n : Int} (hx : ev σ x = .int k n) : (execOp (ev σ) ⟨d, .unOp .neg t x, ty, pos, af, g⟩).run P w = .ok (.value (.int k (k.wrap (0 - n)))) w := by
  simp [execOp, Op.unary, hx, Op.intArith]
def binI (op : BinOp) (k : IntKind) (x y : Int) : Option Value :=
  match op with
  | .add => some (.int k (k.wrap (x + y)))
  | .sub => some (.int k (k.wrap (x - y)))
  | .mul => some (.int k (k.wrap (x * y)))
  | .and => some (.int k (k.wrap (BitVec.ofInt k.bits x &&& BitVec.ofInt k.bits y).toNat))
  | .or => some (.int k (k.wrap (BitVec.ofInt k.bits x ||| BitVec.ofInt k.bits y).toNat))
  | .xor => some (.int k (k.wrap (BitVec.ofInt k.bits x ^^^ BitVec.ofInt k.bits y).toNat))
  | .andNot => some (.int k (k.wrap (BitVec.ofInt k.bits x &&& ~~~BitVec.ofInt k.bits y).toNat))
  | .eql => some (.bool (x == y))
  | .neq => some (.bool (x != y))
  | .lss => some (.bool (decide (x < y)))
  | .leq => some (.bool (decide (x ≤ y)))
  | .gtr => some (.bool (decide (x > y)))
  | .geq => some (.bool (decide (x ≥ y)))
  | _ => none
theorem guard_int (op : BinOp) (t : TypeId) (x y : Operand) (k k' : IntKind) (a b : Int) : (eqGuard op t x y (.int k a) (.int k' b)).run P w = .ok () w := by
  unfold eqGuard
  cases op <;> simp
theorem x_bin {op : BinOp} {xt yt : Nat} {x y : Operand} {k : IntKind} {a b : Int} {v : Value} (hx : ev σ x = .int k a) (hy : ev σ y = .int k b) (hv : binI op k a b = some v) :
    (execOp (ev σ) ⟨d, .binOp op xt x y yt, ty, pos, af, g⟩).run P w = .ok (.value v) w := by
  have hg := guard_int (P := P) (w := w) op xt x y k k a b
  simp only [execOp, hx, hy, Sem.run_bind, hg, Result.andThen_ok]
  cases op <;> simp only [binI, Option.some.injEq, reduceCtorEq] at hv <;> subst hv <;> simp [binOp, Op.intArith, Op.intBits, Op.intCmp]
theorem x_quo {xt yt : Nat} {x y : Operand} {k : IntKind} {a b : Int} (hx : ev σ x = .int k a) (hy : ev σ y = .int k b) (hb : b ≠ 0) :
    (execOp (ev σ) ⟨d, .binOp .quo xt x y yt, ty, pos, af, g⟩).run P w = .ok (.value (.int k (k.wrap (a.tdiv b)))) w := by
  have hg := guard_int (P := P) (w := w) .quo xt x y k k a b
  simp only [execOp, hx, hy, Sem.run_bind, hg, Result.andThen_ok]
  simp [binOp, Op.intDiv, hb]
theorem x_rem {xt yt : Nat} {x y : Operand} {k : IntKind} {a b : Int} (hx : ev σ x = .int k a) (hy : ev σ y = .int k b) (hb : b ≠ 0) :
    (execOp (ev σ) ⟨d, .binOp .rem xt x y yt, ty, pos, af, g⟩).run P w = .ok (.value (.int k (a.tmod b))) w := by
  have hg := guard_int (P := P) (w := w) .rem xt x y k k a b
  simp only [execOp, hx, hy, Sem.run_bind, hg, Result.andThen_ok]
  simp [binOp, Op.intDiv, hb]
theorem x_shl {xt yt : Nat} {x y : Operand} {k k' : IntKind} {a b : Int} (hx : ev σ x = .int k a) (hy : ev σ y = .int k' b) (hb : 0 ≤ b) :
    (execOp (ev σ) ⟨d, .binOp .shl xt x y yt, ty, pos, af, g⟩).run P w = .ok (.value (.int k (k.wrap (a * 2 ^ min b.toNat k.bits)))) w := by
  have hg := guard_int (P := P) (w := w) .shl xt x y k k' a b
  simp only [execOp, hx, hy, Sem.run_bind, hg, Result.andThen_ok]
  simp [binOp, Op.shift, Int.not_lt.2 hb]
theorem x_shr {xt yt : Nat} {x y : Operand} {k k' : IntKind} {a b : Int} (hx : ev σ x = .int k a) (hy : ev σ y = .int k' b) (hb : 0 ≤ b) :
    (execOp (ev σ) ⟨d, .binOp .shr xt x y yt, ty, pos, af, g⟩).run P w = .ok (.value (.int k (a.fdiv (2 ^ min b.toNat k.bits)))) w := by
  have hg := guard_int (P := P) (w := w) .shr xt x y k k' a b
  simp only [execOp, hx, hy, Sem.run_bind, hg, Result.andThen_ok]
  simp [binOp, Op.shift, Int.not_lt.2 hb]
theorem guard_str (op : BinOp) (t : TypeId) (x y : Operand) (a b : ByteArray) : (eqGuard op t x y (.string a) (.string b)).run P w = .ok () w := by
  unfold eqGuard
  cases op <;> simp
theorem toList_beq (a b : ByteArray) : (a.toList == b.toList) = decide (a = b) := by
  rw [Bool.eq_iff_iff]
  simp only [beq_iff_eq, decide_eq_true_eq]
  constructor
  · intro h
    have e : ∀ c : ByteArray, c.toList = c.data.toList := Go.ByteArray.toList_eq
    rw [e, e] at h
    cases a; cases b
    simpa using h
  · intro h; rw [h]
theorem x_seq {xt yt : Nat} {x y : Operand} {a b : ByteArray} (hx : ev σ x = .string a) (hy : ev σ y = .string b) :
    (execOp (ev σ) ⟨d, .binOp .eql xt x y yt, ty, pos, af, g⟩).run P w = .ok (.value (.bool (decide (a = b)))) w := by
  have hg := guard_str (P := P) (w := w) .eql xt x y a b
  simp only [execOp, hx, hy, Sem.run_bind, hg, Result.andThen_ok]
  simp [binOp, Op.stringOp, toList_beq]
theorem x_sne {xt yt : Nat} {x y : Operand} {a b : ByteArray} (hx : ev σ x = .string a) (hy : ev σ y = .string b) :
    (execOp (ev σ) ⟨d, .binOp .neq xt x y yt, ty, pos, af, g⟩).run P w = .ok (.value (.bool (!decide (a = b)))) w := by
  have hg := guard_str (P := P) (w := w) .neq xt x y a b
  simp only [execOp, hx, hy, Sem.run_bind, hg, Result.andThen_ok]
  simp [binOp, Op.stringOp, toList_beq]
theorem x_cat {xt yt : Nat} {x y : Operand} {a b : ByteArray} (hx : ev σ x = .string a) (hy : ev σ y = .string b) (hl : a.size + b.size ≤ 9223372036854775807) :
    (execOp (ev σ) ⟨d, .binOp .add xt x y yt, ty, pos, af, g⟩).run P w = .ok (.value (.string (a ++ b))) w := by
  have hg := guard_str (P := P) (w := w) .add xt x y a b
  simp only [execOp, hx, hy, Sem.run_bind, hg, Result.andThen_ok]
  have hn : ¬ (((a.size + b.size : Nat) : Int) > IntKind.i64.max) := by
    have e : IntKind.i64.max = 9223372036854775807 := rfl
    rw [e]; omega
  simp only [binOp, Op.stringOp, Sem.run_bind, Sem.run_ite, if_neg hn, Sem.run_pure, Result.andThen_ok]
theorem x_idxs {t : Nat} (ht : tStr P t = true) {x i : Operand} {s : ByteArray} {k : IntKind} {j : Int} {c : UInt8} (hx : ev σ x = .string s) (hi : ev σ i = .int k j) (h0 : 0 ≤ j) (hc : s[j.toNat]? = some c) :
    (execOp (ev σ) ⟨d, .index t x i, ty, pos, af, g⟩).run P w = .ok (.value (.int .u8 c.toNat)) w := by
  have hu := tStr_spec ht
  simp [execOp, Instr.index, hi, hx, asIntOf, und_run hu, h0, hc]
theorem x_idxA {t n e sz : Nat} (ht : tAr P t = some (n, e, sz)) (he : tSc P e = true) (hsz : sz = 1) {x i : Operand} {cs : Array Value} {k : IntKind} {j : Int} {v : Value} (hx : ev σ x = .agg cs) (hi : ev σ i = .int k j) (h0 : 0 ≤ j) (h1 : j < n) (hv : cs[j.toNat]? = some v) :
    (execOp (ev σ) ⟨d, .index t x i, ty, pos, af, g⟩).run P w = .ok (.value v) w := by
  obtain ⟨hu, i', hi', hs⟩ := tAr_spec ht
  subst hsz
  simp [execOp, Instr.index, hi, hx, asIntOf, und_run hu, h0, h1, Go.sizeOf, typeInfo, hi', hs, part, tSc_spec he, hv]
theorem x_fld {s f off t : Nat} (hf : tF P s f = some (off, t)) (ht : tSc P t = true) {x : Operand} {cs : Array Value} {v : Value} (hx : ev σ x = .agg cs) (hv : cs[off]? = some v) :
    (execOp (ev σ) ⟨d, .field s x f, ty, pos, af, g⟩).run P w = .ok (.value v) w := by
  obtain ⟨fs, q, h1, h2, rfl, rfl, h3⟩ := tF_spec hf
  simp [execOp, Instr.field, und_run h1, h2, hx, asAgg, part, tSc_spec ht, hv]
theorem eqPN (n : Nat) {t e : Nat} (ht : P.underlying t = some (.pointer e)) (a : Option Addr) : (Op.equalIn (n + 1) t (.pointer a) (.pointer none)).run P w = .ok a.isNone w := by
  cases a <;> simp [Op.equalIn, und_run ht]
theorem eqBB (n : Nat) {t : Nat} (ht : P.underlying t = some .bool) (a b : Bool) : (Op.equalIn (n + 1) t (.bool a) (.bool b)).run P w = .ok (a == b) w := by
  simp [Op.equalIn, und_run ht]
theorem x_eq {t yt : Nat} {x y : Operand} {u v : Value} {r : Bool} (hx : ev σ x = u) (hy : ev σ y = v) (hg : ∀ op, (eqGuard op t x y u v).run P w = .ok () w)
    (hb : ∀ op, op = .eql ∨ op = .neq → binOp op t u v = (Op.equal t u v >>= fun r => pure (Value.bool (if op = BinOp.eql then r else !r)))) (hr : (Op.equal t u v).run P w = .ok r w) :
    (execOp (ev σ) ⟨d, .binOp .eql t x y yt, ty, pos, af, g⟩).run P w = .ok (.value (.bool r)) w ∧ (execOp (ev σ) ⟨d, .binOp .neq t x y yt, ty, pos, af, g⟩).run P w = .ok (.value (.bool !r)) w := by
  constructor
  · simp only [execOp, hx, hy, Sem.run_bind, hg, Result.andThen_ok]
    rw [hb .eql (.inl rfl)]
    simp [hr]
  · simp only [execOp, hx, hy, Sem.run_bind, hg, Result.andThen_ok]
    rw [hb .neq (.inr rfl)]
    simp [hr]
theorem x_pnil {t yt e : Nat} (ht : P.underlying t = some (.pointer e)) {x y : Operand} {a : Option Addr} (hx : ev σ x = .pointer a) (hy : ev σ y = .pointer none) :
    (execOp (ev σ) ⟨d, .binOp .eql t x y yt, ty, pos, af, g⟩).run P w = .ok (.value (.bool a.isNone)) w :=
  (x_eq hx hy (fun op => by unfold eqGuard; cases op <;> simp) (fun op h => by rcases h with rfl | rfl <;> rfl) (eqPN 9999 ht a)).1
theorem x_beq {t yt : Nat} (ht : P.underlying t = some .bool) {x y : Operand} {a b : Bool} (hx : ev σ x = .bool a) (hy : ev σ y = .bool b) :
    (execOp (ev σ) ⟨d, .binOp .eql t x y yt, ty, pos, af, g⟩).run P w = .ok (.value (.bool (a == b))) w :=
  (x_eq hx hy (fun op => by unfold eqGuard; cases op <;> simp) (fun op h => by rcases h with rfl | rfl <;> rfl) (eqBB 9999 ht a b)).1
theorem x_bne {t yt : Nat} (ht : P.underlying t = some .bool) {x y : Operand} {a b : Bool} (hx : ev σ x = .bool a) (hy : ev σ y = .bool b) :
    (execOp (ev σ) ⟨d, .binOp .neq t x y yt, ty, pos, af, g⟩).run P w = .ok (.value (.bool (!(a == b)))) w :=
  (x_eq hx hy (fun op => by unfold eqGuard; cases op <;> simp) (fun op h => by rcases h with rfl | rfl <;> rfl) (eqBB 9999 ht a b)).2
theorem x_ld {t : TypeId} (ht : tSc P t = true) {x : Operand} {a : Addr} {v : Value} (hx : ev σ x = .pointer (some a)) (hc : w.cell? a = some v) :
    (execOp (ev σ) ⟨d, .load t x, ty, pos, af, g⟩).run P w = .ok (.value v) w := by
  simp [execOp, Instr.loadAt, hx, Instr.sureAddr, loadVar, tSc_spec ht, hc]
theorem x_ldA {t n : Nat} (ht : tAg P t = some n) {x : Operand} {b o : Nat} {cs : List Value} (hx : ev σ x = .pointer (some ⟨b, o, none⟩)) (hc : ∀ j u, cs[j]? = some u → w.cell? ⟨b, o + j, none⟩ = some u) (hn : cs.length = n) :
    (execOp (ev σ) ⟨d, .load t x, ty, pos, af, g⟩).run P w = .ok (.value (.agg cs.toArray)) w := by
  obtain ⟨h4, h5⟩ := tAg_spec (P := P) (w := w) ht
  subst hn
  have hl := run_loadCells_list (P := P) w ⟨b, o, none⟩ cs (fun j u hj => by rw [addr_add]; exact hc j u hj)
  simp [execOp, Instr.loadAt, hx, Instr.sureAddr, loadVar, h4, h5, hl]
theorem x_call {f : FuncId} (hf : fB P f = true) {xs : Array Operand} {ts : Array TypeId} : (execOp (ev σ) ⟨d, .call ⟨.value (.func f), xs, ts⟩, ty, pos, af, g⟩).run P w = .ok (.enter f (xs.map (ev σ))) w := by
  unfold fB at hf
  cases hq : P.funcs[f]? with
  | none => simp [hq] at hf
  | some fn =>
    simp only [hq, Bool.and_eq_true, Bool.not_eq_true', Option.isSome_iff_ne_none] at hf
    have hb : ¬ fn.body = none := hf.2
    have hn : ¬ fn.name = "runtime.NumGoroutine" := by simpa using hf.1
    simp [execOp, resolve, ev, Deferred.ofValue, invoke, callFunc, hq, hn, hb]
theorem x_callv {x : Operand} {f : FuncId} {cap : Array Value} (hx : ev σ x = .func (.func f) #[] cap) (hf : fB P f = true) {xs : Array Operand} {ts : Array TypeId} :
    (execOp (ev σ) ⟨d, .call ⟨.value x, xs, ts⟩, ty, pos, af, g⟩).run P w = .ok (.enter f (xs.map (ev σ) ++ cap)) w := by
  unfold fB at hf
  cases hq : P.funcs[f]? with
  | none => simp [hq] at hf
  | some fn =>
    simp only [hq, Bool.and_eq_true, Bool.not_eq_true', Option.isSome_iff_ne_none] at hf
    have hb : ¬ fn.body = none := hf.2
    have hn : ¬ fn.name = "runtime.NumGoroutine" := by simpa using hf.1
    simp [execOp, resolve, hx, Deferred.ofValue, invoke, callFunc, hq, hn, hb]
theorem x_cuts {t : Nat} (ht : tStr P t = true) {x : Operand} {lo hi : Option Operand} {s : ByteArray} (hx : ev σ x = .string s) (a b : Nat)
    (hlo : ∀ y, lo = some y → ∃ k, ev σ y = .int k a) (hlo' : lo = none → a = 0) (hhi : ∀ y, hi = some y → ∃ k, ev σ y = .int k b) (hhi' : hi = none → b = s.size) (hab : a ≤ b) (hb : b ≤ s.size) :
    (execOp (ev σ) ⟨d, .slice t x lo hi none, ty, pos, af, g⟩).run P w = .ok (.value (.string (s.extract a b))) w := by
  have hu := tStr_spec ht
  have b1 : ∀ code, (Instr.sliceBound (.int .i64 b) s.size code).run P w = .ok b w := fun code => by
    simp [Instr.sliceBound, asIntOf, hb]
  cases lo with
  | none =>
    obtain rfl := hlo' rfl
    cases hi with
    | none =>
      obtain rfl := hhi' rfl
      simp [execOp, Instr.sliceAt, Instr.slice, und_run hu, hx, Instr.sliceBounds]
    | some y =>
      obtain ⟨k, hk⟩ := hhi y rfl
      simp [execOp, Instr.sliceAt, Instr.slice, und_run hu, hx, Instr.sliceBounds, hk, Instr.sliceBound, asIntOf, hb]
  | some z =>
    obtain ⟨k', hk'⟩ := hlo z rfl
    cases hi with
    | none =>
      obtain rfl := hhi' rfl
      simp [execOp, Instr.sliceAt, Instr.slice, und_run hu, hx, Instr.sliceBounds, hk', Instr.sliceBound, asIntOf, hab]
    | some y =>
      obtain ⟨k, hk⟩ := hhi y rfl
      simp [execOp, Instr.sliceAt, Instr.slice, und_run hu, hx, Instr.sliceBounds, hk, hk', Instr.sliceBound, asIntOf, hb, hab]
theorem x_cut {t e sz by' : Nat} (ht : tSl P t = some (e, sz, by')) {x : Operand} {lo hi : Option Operand} {ad : Option Addr} {n c : Nat} (hx : ev σ x = .slice ad n c) (a b : Nat)
    (hlo : ∀ y, lo = some y → ∃ k, ev σ y = .int k a) (hlo' : lo = none → a = 0) (hhi : ∀ y, hi = some y → ∃ k, ev σ y = .int k b) (hhi' : hi = none → b = n) (hab : a ≤ b) (hb : b ≤ c) :
    (execOp (ev σ) ⟨d, .slice t x lo hi none, ty, pos, af, g⟩).run P w = .ok (.value (.slice (if c = a then ad else ad.map (·.add (a * sz))) (b - a) (c - a))) w := by
  obtain ⟨hu, i', he, hs, _⟩ := tSl_spec ht
  cases lo with
  | none =>
    obtain rfl := hlo' rfl
    cases hi with
    | none =>
      obtain rfl := hhi' rfl
      simp [execOp, Instr.sliceAt, Instr.slice, und_run hu, hx, Instr.sliceBounds, Go.sizeOf, typeInfo, he, hs]
    | some y =>
      obtain ⟨k, hk⟩ := hhi y rfl
      simp [execOp, Instr.sliceAt, Instr.slice, und_run hu, hx, Instr.sliceBounds, hk, Instr.sliceBound, asIntOf, hb, Go.sizeOf, typeInfo, he, hs]
  | some z =>
    obtain ⟨k', hk'⟩ := hlo z rfl
    cases hi with
    | none =>
      obtain rfl := hhi' rfl
      simp [execOp, Instr.sliceAt, Instr.slice, und_run hu, hx, Instr.sliceBounds, hk', Instr.sliceBound, asIntOf, hab, Go.sizeOf, typeInfo, he, hs]
    | some y =>
      obtain ⟨k, hk⟩ := hhi y rfl
      simp [execOp, Instr.sliceAt, Instr.slice, und_run hu, hx, Instr.sliceBounds, hk, hk', Instr.sliceBound, asIntOf, hb, hab, Go.sizeOf, typeInfo, he, hs]
theorem x_all {e : TypeId} {z : List Value} (hz : tZ P e = some z) : (execOp (ev σ) ⟨d, .alloc e, ty, pos, af, g⟩).run P w = .ok (.value (.pointer (some ⟨w.heap.size, 0, none⟩))) (w.alloc (.cells z.toArray e)) := by
  obtain ⟨i, v, h1, h2, h3, h4, h5⟩ := tZ_spec (P := P) (w := w) hz
  subst h3
  simp [execOp, Instr.alloc, h5, newVar, newRow]
theorem x_box {e : TypeId} {x : Operand} : (execOp (ev σ) ⟨d, .box e x, ty, pos, af, g⟩).run P w = .ok (.value (.pointer (some ⟨w.heap.size, 0, none⟩))) (w.alloc (.cells (ev σ x).cells e)) := by
  simp [execOp, Instr.box, newVar, newRow]
end
end
end Sp
