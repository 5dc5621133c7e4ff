/-
  MEMORY: what is known of memory and never turns (I), what a call owns (a list of items), how data are read off cells.
-/
import Derived.Test.YtkkflfmonidepaaDoorEng2
import Derived.Laws.AppendOwn
import Derived.Below
namespace Sp
open Go Go.RowKit

/-! ### What never turns -/

structure IMem where
  cell : Nat → Nat → Option Value
  blk : Nat → Option Obj
  os : Os
  out : Array (Nat × ByteArray)
  tape : Nat → Question → Nat

structure IMem.le (I J : IMem) : Prop where
  cell : ∀ b o v, I.cell b o = some v → J.cell b o = some v
  blk : ∀ b o, I.blk b = some o → J.blk b = some o
  os : J.os = I.os
  out : J.out = I.out
  tape : J.tape = I.tape

theorem IMem.le.refl (I : IMem) : I.le I := ⟨fun _ _ _ h => h, fun _ _ h => h, rfl, rfl, rfl⟩
theorem IMem.le.trans {I J K : IMem} (h : I.le J) (k : J.le K) : I.le K :=
  ⟨fun b o v x => k.cell b o v (h.cell b o v x), fun b o x => k.blk b o (h.blk b o x), k.os.trans h.os, k.out.trans h.out, k.tape.trans h.tape⟩

/-- I, and cells of a block from a place on. -/
def IMem.ext (I : IMem) (b off : Nat) (cs : List Value) : IMem :=
  { I with cell := fun b' o => if b' = b ∧ off ≤ o then cs[o - off]? else I.cell b' o }

theorem IMem.le_ext {I : IMem} {b off : Nat} {cs : List Value} (h : ∀ o, off ≤ o → I.cell b o = none) : I.le (I.ext b off cs) := by
  refine ⟨fun b' o v hv => ?_, fun _ _ h => h, rfl, rfl, rfl⟩
  simp only [IMem.ext]
  split
  · rename_i hc
    rw [hc.1, h o hc.2] at hv; cases hv
  · exact hv

/-! ### Items -/

inductive It where
  /-- a block that is owned whole -/
  | bk (b : Nat) (T : TypeId) (cs : List Value)
  /-- what lies behind a slice's end -/
  | tv (v : Value) (T : TypeId) (sz : Nat)
  /-- a slice whose array is owned, from its begin on -/
  | av (v : Value) (T : TypeId) (sz : Nat) (cs : List Value)
  /-- an object that is no row of cells -/
  | ob (b : Nat) (o : Obj)
  /-- slices, each of which owns its array -/
  | fam (T : TypeId) (sz : Nat) (l : List (Value × List Value))

def avHas (v : Value) (c : Nat) : Prop := match v with
  | .slice (some a) _ _ => c = a.block
  | _ => False
def It.has : It → Nat → Prop
  | .bk b _ _, c => c = b
  | .ob b _, c => c = b
  | .tv v _ _, c => avHas v c
  | .av v _ _ _, c => avHas v c
  | .fam _ _ l, c => ∃ p ∈ l, avHas p.1 c

def avOk (I : IMem) (w : World) (v : Value) (T : TypeId) (sz : Nat) (cs : List Value) : Prop := match v with
    | .slice none n c => n = 0 ∧ c = 0 ∧ cs = []
    | .slice (some a) n c => a.off = 0 ∧ a.spot = none ∧ n ≤ c ∧ c ≤ maxLen ∧ I.blk a.block = none ∧ (∀ o, I.cell a.block o = none) ∧ cs.length = n * sz ∧ ∃ C, w.heap[a.block]? = some (.cells C T (0, 0)) ∧ C.size = c * sz ∧ C.toList.take (n * sz) = cs
    | _ => False
def avApart (x y : Value) : Prop := ∀ b, avHas x b → ¬ avHas y b

def It.ok (I : IMem) (w : World) : It → Prop
  | .ob b o => w.heap[b]? = some o ∧ I.blk b = none ∧ ∀ o, I.cell b o = none
  | .bk b T cs => w.heap[b]? = some (.cells cs.toArray T (0, 0)) ∧ I.blk b = none ∧ ∀ o, I.cell b o = none
  | .tv v T sz => match v with
    | .slice none n c => n = 0 ∧ c = 0
    | .slice (some a) n c => a.off = 0 ∧ a.spot = none ∧ n ≤ c ∧ c ≤ maxLen ∧ I.blk a.block = none ∧ (∀ o, n * sz ≤ o → I.cell a.block o = none) ∧ ∃ C, w.heap[a.block]? = some (.cells C T (0, 0)) ∧ C.size = c * sz
    | _ => False
  | .av v T sz cs => avOk I w v T sz cs
  | .fam T sz l => (∀ p ∈ l, avOk I w p.1 T sz p.2) ∧ l.Pairwise fun p q => avApart p.1 q.1

def apartIt (x y : It) : Prop := ∀ b, x.has b → ¬ y.has b

structure Own (I : IMem) (w : World) (L : List It) : Prop where
  cell : ∀ b o v, I.cell b o = some v → w.cell? ⟨b, o, none⟩ = some v
  blk : ∀ b o, I.blk b = some o → w.heap[b]? = some o
  os : w.os = I.os
  out : w.output = I.out
  tape : w.tape = I.tape
  items : ∀ x ∈ L, x.ok I w
  apart : L.Pairwise apartIt

theorem avOk.lt {I : IMem} {w : World} {v : Value} {T sz : Nat} {cs : List Value} (h : avOk I w v T sz cs) {b : Nat} (hb : avHas v b) : b < w.heap.size := by
  cases v <;> try exact hb.elim
  rename_i a n c
  cases a with
  | none => exact hb.elim
  | some a =>
    obtain rfl : b = a.block := hb
    obtain ⟨_, _, _, _, _, _, _, C, hC, _⟩ := h
    exact (Array.getElem?_eq_some_iff.1 hC).1
theorem avOk.free {I : IMem} {w : World} {v : Value} {T sz : Nat} {cs : List Value} (h : avOk I w v T sz cs) {b : Nat} (hb : avHas v b) : I.blk b = none ∧ ∀ o, I.cell b o = none := by
  cases v <;> try exact hb.elim
  rename_i a n c
  cases a with
  | none => exact hb.elim
  | some a =>
    obtain rfl : b = a.block := hb
    obtain ⟨_, _, _, _, h1, h2, _⟩ := h
    exact ⟨h1, h2⟩
theorem avOk.same {I J : IMem} {w w' : World} {v : Value} {T sz : Nat} {cs : List Value} (h : avOk I w v T sz cs) (hs : ∀ b, avHas v b → w'.heap[b]? = w.heap[b]? ∧ J.blk b = I.blk b ∧ ∀ o, J.cell b o = I.cell b o) : avOk J w' v T sz cs := by
  cases v <;> try exact h
  rename_i a n c
  cases a with
  | none => exact h
  | some a =>
    obtain ⟨h1, h2, h3⟩ := hs a.block rfl
    obtain ⟨k1, k2, k3, k4, k5, k6, k7, C, k8, k9⟩ := h
    exact ⟨k1, k2, k3, k4, h2.trans k5, fun o => (h3 o).trans (k6 o), k7, C, h1.trans k8, k9⟩

theorem It.ok_lt {I : IMem} {w : World} {x : It} (h : x.ok I w) {b : Nat} (hb : x.has b) : b < w.heap.size := by
  have key : ∀ {o : Obj}, w.heap[b]? = some o → b < w.heap.size := fun h => (Array.getElem?_eq_some_iff.1 h).1
  cases x with
  | bk b' T cs => obtain rfl : b = b' := hb; exact key h.1
  | ob b' o => obtain rfl : b = b' := hb; exact key h.1
  | tv v T sz =>
    cases v <;> try exact hb.elim
    rename_i a n c
    cases a with
    | none => exact hb.elim
    | some a =>
      obtain rfl : b = a.block := hb
      obtain ⟨_, _, _, _, _, _, C, hC, _⟩ := h
      exact key hC
  | av v T sz cs => exact avOk.lt h hb
  | fam T sz l =>
    obtain ⟨p, hp, hpb⟩ := hb
    exact avOk.lt (h.1 p hp) hpb

/-- An item reads of its own blocks alone. -/
theorem It.ok_same {I J : IMem} {w w' : World} {x : It} (h : x.ok I w) (hs : ∀ b, x.has b → w'.heap[b]? = w.heap[b]? ∧ J.blk b = I.blk b ∧ ∀ o, J.cell b o = I.cell b o) : x.ok J w' := by
  cases x with
  | bk b T cs =>
    obtain ⟨h1, h2, h3⟩ := hs b rfl
    exact ⟨h1.trans h.1, h2.trans h.2.1, fun o => (h3 o).trans (h.2.2 o)⟩
  | ob b o =>
    obtain ⟨h1, h2, h3⟩ := hs b rfl
    exact ⟨h1.trans h.1, h2.trans h.2.1, fun o => (h3 o).trans (h.2.2 o)⟩
  | tv v T sz =>
    cases v <;> try exact h
    rename_i a n c
    cases a with
    | none => exact h
    | some a =>
      obtain ⟨h1, h2, h3⟩ := hs a.block rfl
      obtain ⟨k1, k2, k3, k4, k5, k6, C, k7, k8⟩ := h
      exact ⟨k1, k2, k3, k4, h2.trans k5, fun o ho => (h3 o).trans (k6 o ho), C, h1.trans k7, k8⟩
  | av v T sz cs => exact avOk.same h hs
  | fam T sz l => exact ⟨fun p hp => avOk.same (h.1 p hp) fun b hb => hs b ⟨p, hp, hb⟩, h.2⟩

section
variable {I : IMem} {w : World} {L : List It}

theorem apartIt.symm {x y : It} (h : apartIt x y) : apartIt y x := fun b hb hx => h b hx hb

theorem Own.perm {L' : List It} (S : Own I w L) (h : L.Perm L') : Own I w L' :=
  ⟨S.cell, S.blk, S.os, S.out, S.tape, fun x hx => S.items x (h.mem_iff.2 hx), S.apart.perm h (fun h => apartIt.symm h)⟩
theorem perm_pick : ∀ (L : List It) (i : Nat) (x : It), L[i]? = some x → L.Perm (x :: L.eraseIdx i)
  | [], _, _, h => by simp at h
  | y :: L, 0, x, h => by
    simp only [List.getElem?_cons_zero, Option.some.injEq] at h
    subst h; exact List.Perm.refl _
  | y :: L, i + 1, x, h => by
    simp only [List.getElem?_cons_succ] at h
    exact ((perm_pick L i x h).cons y).trans (List.Perm.swap x y _)
/-- Number i ahead. -/
theorem Own.pick (i : Nat) (S : Own I w L) {x : It} (hx : L[i]? = some x) : Own I w (x :: L.eraseIdx i) := by
  exact S.perm (perm_pick L i x hx)
theorem Own.drop {x : It} (S : Own I w (x :: L)) : Own I w L where
  cell := S.cell
  blk := S.blk
  os := S.os
  out := S.out
  tape := S.tape
  items := fun y hy => S.items y (List.mem_cons_of_mem _ hy)
  apart := (List.pairwise_cons.1 S.apart).2
theorem Own.dropAll (S : Own I w L) : Own I w [] := ⟨S.cell, S.blk, S.os, S.out, S.tape, (fun y hy => by cases hy), List.Pairwise.nil⟩
theorem Own.dropR {L₁ L₂ : List It} (S : Own I w (L₁ ++ L₂)) : Own I w L₂ :=
  ⟨S.cell, S.blk, S.os, S.out, S.tape, fun y hy => S.items y (List.mem_append_right _ hy), (List.pairwise_append.1 S.apart).2.1⟩

theorem Own.drew (S : Own I w L) : Own I { w with drawn := w.drawn + 1 } L :=
  ⟨S.cell, S.blk, S.os, S.out, S.tape, fun x hx => It.ok_same (S.items x hx) fun _ _ => ⟨rfl, rfl, fun _ => rfl⟩, S.apart⟩

/-- Nothing that stood has turned. -/
theorem Own.below {w' : World} (S : Own I w L) (h : Below w.heap.size w w') : Own I w' L := by
  refine ⟨fun b o v hv => ?_, fun b o hb => ?_, h.os.trans S.os, h.output.trans S.out, h.tape.trans S.tape, fun x hx => It.ok_same (S.items x hx) fun b hb => ⟨h.block b (It.ok_lt (S.items x hx) hb), rfl, fun _ => rfl⟩, S.apart⟩
  · have h1 := S.cell b o v hv
    have hlt := World.block_lt_of_cell? w _ h1
    rw [← h1]
    simp only [World.cell?, h.block b hlt]
  · have h1 := S.blk b o hb
    rw [← h1]
    exact h.block b (Array.getElem?_eq_some_iff.1 h1).1

/-- A block that does not stand yet is no block of I. -/
theorem Own.fresh (S : Own I w L) : I.blk w.heap.size = none ∧ (∀ o, I.cell w.heap.size o = none) ∧ ∀ x ∈ L, ¬ x.has w.heap.size := by
  refine ⟨?_, fun o => ?_, fun x hx hid => ?_⟩
  · cases h : I.blk w.heap.size with
    | none => rfl
    | some o => have := S.blk _ _ h; simp at this
  · cases h : I.cell w.heap.size o with
    | none => rfl
    | some v => have := World.block_lt_of_cell? w _ (S.cell _ _ _ h); simp at this
  · have := It.ok_lt (S.items x hx) hid
    omega

theorem below_alloc (w : World) (o : Obj) : Below w.heap.size w (w.alloc o) := (Below.refl _ _).alloc (Nat.le_refl _) o

theorem heap_new (w : World) (o : Obj) : (w.alloc o).heap[w.heap.size]? = some o := by
  show (w.heap.push o)[w.heap.size]? = _
  simp

theorem Own.allocO (S : Own I w L) (o : Obj) : Own I (w.alloc o) (.ob w.heap.size o :: L) := by
  have S' := S.below (below_alloc w o)
  obtain ⟨f1, f2, f3⟩ := S.fresh
  refine ⟨S'.cell, S'.blk, S'.os, S'.out, S'.tape, fun x hx => ?_, List.pairwise_cons.2 ⟨fun y hy b hb hyb => f3 y hy ?_, S'.apart⟩⟩
  · rcases List.mem_cons.1 hx with rfl | hx
    · exact ⟨heap_new w _, f1, f2⟩
    · exact S'.items x hx
  · obtain rfl : b = _ := hb
    exact hyb

theorem Own.alloc (S : Own I w L) (T : TypeId) (cs : List Value) : Own I (w.alloc (.cells cs.toArray T)) (.bk w.heap.size T cs :: L) := by
  have S' := S.below (below_alloc w (.cells cs.toArray T))
  obtain ⟨f1, f2, f3⟩ := S.fresh
  refine ⟨S'.cell, S'.blk, S'.os, S'.out, S'.tape, fun x hx => ?_, List.pairwise_cons.2 ⟨fun y hy b hb hyb => f3 y hy ?_, S'.apart⟩⟩
  · rcases List.mem_cons.1 hx with rfl | hx
    · exact ⟨heap_new w _, f1, f2⟩
    · exact S'.items x hx
  · obtain rfl : b = _ := hb
    exact hyb

/-- The block of the first item is written anew. -/
theorem Own.turn {x x' : It} {b : Nat} {w' : World} (S : Own I w (x :: L)) (hid : x.has b) (hid' : ∀ c, x'.has c → c = b)
    (hc : ∀ o', I.cell b o' = none) (hb : I.blk b = none) (hh : ∀ k, k ≠ b → w'.heap[k]? = w.heap[k]?) (ho : w'.os = w.os) (hout : w'.output = w.output) (ht : w'.tape = w.tape) (hok : x'.ok I w') :
    Own I w' (x' :: L) := by
  obtain ⟨p1, p2⟩ := List.pairwise_cons.1 S.apart
  refine ⟨fun b' o' v hv => ?_, fun b' o' hv => ?_, ho.trans S.os, hout.trans S.out, ht.trans S.tape, fun y hy => ?_, List.pairwise_cons.2 ⟨fun y hy c hx hy' => ?_, p2⟩⟩
  · by_cases e : b' = b
    · subst e; rw [hc] at hv; cases hv
    · rw [← S.cell b' o' v hv]
      simp only [World.cell?, hh b' e]
  · by_cases e : b' = b
    · subst e; rw [hb] at hv; cases hv
    · rw [← S.blk b' o' hv]; exact hh b' e
  · rcases List.mem_cons.1 hy with rfl | hy
    · exact hok
    · refine It.ok_same (S.items y (List.mem_cons_of_mem _ hy)) fun c hyc => ⟨hh c fun e => ?_, rfl, fun _ => rfl⟩
      subst e
      exact p1 y hy _ hid hyc
  · have := hid' c hx
    subst this
    exact p1 y hy _ hid hy'

def setAt (cs : List Value) (o : Nat) : List Value → List Value
  | [] => cs
  | v :: vs => setAt (cs.set o v) (o + 1) vs

theorem setAt_length : ∀ (vs cs : List Value) (o : Nat), (setAt cs o vs).length = cs.length
  | [], _, _ => rfl
  | v :: vs, cs, o => by rw [setAt, setAt_length vs]; simp

theorem run_storeCells_setAt {P : Program} (b : Nat) (T : TypeId) : ∀ (vs : List Value) (o i : Nat) (cs : List Value) (w : World), w.heap[b]? = some (.cells cs.toArray T (0, 0)) → o + i + vs.length ≤ cs.length → (∀ v ∈ vs, v.oneCell' = true) →
    ∃ w', (storeCells ⟨b, o, none⟩ vs i).run P w = .ok () w' ∧ w'.heap[b]? = some (.cells (setAt cs (o + i) vs).toArray T (0, 0)) ∧ (∀ k, k ≠ b → w'.heap[k]? = w.heap[k]?) ∧ w'.os = w.os ∧ w'.output = w.output ∧ w'.tape = w.tape
  | [], o, i, cs, w, hb, _, _ => ⟨w, rfl, hb, fun _ _ => rfl, rfl, rfl, rfl⟩
  | v :: vs, o, i, cs, w, hb, hl, h1 => by
    simp only [List.length_cons] at hl
    have hc : w.cell? ⟨b, o + i, none⟩ = some cs[o + i] := by
      simp [World.cell?, hb]
    have hf : w.frozen? ⟨b, o + i, none⟩ = false := by simp [World.frozen?, hb]
    have hs : (store ((⟨b, o, none⟩ : Addr).add i) v).run P w = .ok () (w.setCell ⟨b, o + i, none⟩ v) := by
      rw [addr_add, run_store P w _ v .plain (h1 v (by simp)), hc]
      simp [hf]
    have hw : (w.setCell ⟨b, o + i, none⟩ v).heap[b]? = some (.cells (cs.set (o + i) v).toArray T (0, 0)) := by
      simp only [World.setCell, Array.getElem?_modify, hb, if_true, Option.map_some]
      simp
    obtain ⟨w', r1, r2, r3, r4, r5, r6⟩ := run_storeCells_setAt (P := P) b T vs o (i + 1) (cs.set (o + i) v) _ hw (by simp; omega) (fun u hu => h1 u (by simp [hu]))
    refine ⟨w', ?_, by rw [setAt]; exact r2, fun k hk => (r3 k hk).trans (by simp [World.setCell, Array.getElem?_modify, Ne.symm hk]), r4, r5, r6⟩
    simp only [storeCells, Sem.run_bind, hs, Result.andThen_ok, r1]

theorem Own.store {P : Program} {b : Nat} {T : TypeId} {cs : List Value} (S : Own I w (.bk b T cs :: L)) (o : Nat) (vs : List Value) (hl : o + vs.length ≤ cs.length) (h1 : ∀ v ∈ vs, v.oneCell' = true) :
    ∃ w', (storeCells ⟨b, o, none⟩ vs 0).run P w = .ok () w' ∧ Own I w' (.bk b T (setAt cs o vs) :: L) := by
  have hk := S.items _ (List.mem_cons_self ..)
  obtain ⟨hb, h2, h3⟩ : w.heap[b]? = some (.cells cs.toArray T (0, 0)) ∧ I.blk b = none ∧ ∀ o, I.cell b o = none := hk
  obtain ⟨w', r1, r2, r3, r4, r5, r6⟩ := run_storeCells_setAt (P := P) b T vs o 0 cs w hb (by simpa using hl) h1
  exact ⟨w', r1, S.turn rfl (fun c hc => hc) h3 h2 r3 r4 r5 r6 ⟨r2, h2, h3⟩⟩

theorem Own.load {b : Nat} {T : TypeId} {cs : List Value} (S : Own I w L) (i : Nat) (hi : L[i]? = some (.bk b T cs)) (o : Nat) {v : Value} (hv : cs[o]? = some v) : w.cell? ⟨b, o, none⟩ = some v := by
  obtain ⟨hb, _, _⟩ : w.heap[b]? = some (.cells cs.toArray T (0, 0)) ∧ _ ∧ _ := S.items _ (List.mem_of_getElem? hi)
  simp [World.cell?, hb, hv]
end

/-! ### Kinds of data -/

structure RTy (α : Type) where
  sz : Nat
  rep : IMem → List Value → α → Prop
  mono : ∀ {I J cs x}, I.le J → rep I cs x → rep J cs x
  len : ∀ {I cs x}, rep I cs x → cs.length = sz
  one : ∀ {I cs x}, rep I cs x → ∀ u ∈ cs, u.oneCell' = true

def tInt' (k : IntKind) : RTy Int where
  sz := 1
  rep _ cs x := cs = [.int k x]
  mono _ h := h
  len h := by rw [h]; rfl
  one h := by rw [h]; simp [Value.oneCell']
def tBool : RTy Bool where
  sz := 1
  rep _ cs x := cs = [.bool x]
  mono _ h := h
  len h := by rw [h]; rfl
  one h := by rw [h]; simp [Value.oneCell']
def tString : RTy ByteArray where
  sz := 1
  rep _ cs x := cs = [.string x]
  mono _ h := h
  len h := by rw [h]; rfl
  one h := by rw [h]; simp [Value.oneCell']

variable {α : Type}

def Flat (r : RTy α) (I : IMem) : List Value → List α → Prop
  | cs, [] => cs = []
  | cs, x :: xs => ∃ c cs', cs = c ++ cs' ∧ r.rep I c x ∧ Flat r I cs' xs

theorem Flat.mono {r : RTy α} {I J : IMem} (h : I.le J) : ∀ {l : List α} {cs : List Value}, Flat r I cs l → Flat r J cs l
  | [], _, hf => hf
  | _ :: _, _, ⟨c, cs', e, h1, h2⟩ => ⟨c, cs', e, r.mono h h1, h2.mono h⟩
theorem Flat.length {r : RTy α} {I : IMem} : ∀ {l : List α} {cs : List Value}, Flat r I cs l → cs.length = l.length * r.sz
  | [], cs, h => by simp only [Flat] at h; subst h; simp
  | x :: xs, cs, ⟨c, cs', e, h1, h2⟩ => by subst e; rw [List.length_append, r.len h1, h2.length, List.length_cons, Nat.add_mul, Nat.one_mul, Nat.add_comm]
theorem Flat.one {r : RTy α} {I : IMem} : ∀ {l : List α} {cs : List Value}, Flat r I cs l → ∀ u ∈ cs, u.oneCell' = true
  | [], cs, h, u, hu => by simp only [Flat] at h; subst h; cases hu
  | x :: xs, cs, ⟨c, cs', e, h1, h2⟩, u, hu => by
    subst e
    rcases List.mem_append.1 hu with hu | hu
    · exact r.one h1 u hu
    · exact h2.one u hu
theorem Flat.append {r : RTy α} {I : IMem} {l' : List α} {cs' : List Value} (h' : Flat r I cs' l') : ∀ {l : List α} {cs : List Value}, Flat r I cs l → Flat r I (cs ++ cs') (l ++ l')
  | [], cs, h => by simp only [Flat] at h; subst h; exact h'
  | x :: xs, cs, ⟨c, ds, e, h1, h2⟩ => ⟨c, ds ++ cs', by rw [e, List.append_assoc], h1, Flat.append h' h2⟩
theorem Flat.at {r : RTy α} {I : IMem} : ∀ {l : List α} {cs : List Value} {i : Nat} {x : α}, Flat r I cs l → l[i]? = some x → ∃ c, r.rep I c x ∧ ∀ j u, c[j]? = some u → cs[i * r.sz + j]? = some u
  | [], _, _, _, _, h => by simp at h
  | y :: ys, cs, 0, x, ⟨c, ds, e, h1, h2⟩, h => by
    simp only [List.getElem?_cons_zero, Option.some.injEq] at h
    subst h
    refine ⟨c, h1, fun j u hj => ?_⟩
    rw [e, Nat.zero_mul, Nat.zero_add, List.getElem?_append_left (List.getElem?_eq_some_iff.1 hj).1]
    exact hj
  | y :: ys, cs, i + 1, x, ⟨c, ds, e, h1, h2⟩, h => by
    simp only [List.getElem?_cons_succ] at h
    obtain ⟨c', k1, k2⟩ := h2.at h
    refine ⟨c', k1, fun j u hj => ?_⟩
    have hl := r.len h1
    rw [e, List.getElem?_append_right (by rw [hl, Nat.add_mul]; omega), hl, ← k2 j u hj]
    congr 1
    rw [Nat.add_mul]; omega
theorem Flat.take {r : RTy α} {I : IMem} : ∀ (n : Nat) {l : List α} {cs : List Value}, Flat r I cs l → Flat r I (cs.take (n * r.sz)) (l.take n)
  | _, [], cs, h => by simp only [Flat] at h; subst h; simp [Flat]
  | 0, x :: xs, cs, h => by simp [Flat]
  | n + 1, x :: xs, cs, ⟨c, ds, e, h1, h2⟩ => by
    refine ⟨c, ds.take (n * r.sz), ?_, h1, h2.take n⟩
    have hl := r.len h1
    rw [e, List.take_append, List.take_of_length_le (by rw [hl, Nat.add_mul]; omega)]
    congr 2
    rw [hl, Nat.add_mul]; omega
theorem Flat.drop {r : RTy α} {I : IMem} : ∀ (n : Nat) {l : List α} {cs : List Value}, Flat r I cs l → Flat r I (cs.drop (n * r.sz)) (l.drop n)
  | _, [], cs, h => by simp only [Flat] at h; subst h; simp [Flat]
  | 0, x :: xs, cs, h => by simpa using h
  | n + 1, x :: xs, cs, ⟨c, ds, e, h1, h2⟩ => by
    have hl := r.len h1
    have e2 : cs.drop ((n + 1) * r.sz) = ds.drop (n * r.sz) := by
      rw [e, List.drop_append, List.drop_eq_nil_of_le (by rw [hl, Nat.add_mul]; omega), List.nil_append]
      congr 1
      rw [hl, Nat.add_mul]; omega
    rw [e2]
    exact h2.drop n

/-- A slice that reads as a list. -/
def SlR (r : RTy α) (I : IMem) (v : Value) (l : List α) : Prop :=
  ∃ A c cs, v = .slice A l.length c ∧ l.length ≤ c ∧ c ≤ maxLen ∧ Flat r I cs l ∧ (cs = [] ∨ ∃ a, A = some a ∧ a.spot = none ∧ ∀ j u, cs[j]? = some u → I.cell a.block (a.off + j) = some u)

theorem SlR.mono {r : RTy α} {I J : IMem} {v : Value} {l : List α} (h : SlR r I v l) (hl : I.le J) : SlR r J v l := by
  obtain ⟨A, c, cs, h1, h2, h3, h4, h5⟩ := h
  exact ⟨A, c, cs, h1, h2, h3, h4.mono hl, h5.imp id fun ⟨a, k1, k2, k3⟩ => ⟨a, k1, k2, fun j u hj => hl.cell _ _ _ (k3 j u hj)⟩⟩
theorem SlR.one {r : RTy α} {I : IMem} {v : Value} {l : List α} (h : SlR r I v l) : v.oneCell' = true := by
  obtain ⟨A, c, cs, rfl, _⟩ := h; rfl
theorem SlR.nil (r : RTy α) (I : IMem) : SlR r I (.slice none 0 0) [] := ⟨none, 0, [], rfl, Nat.le_refl _, Nat.zero_le _, rfl, .inl rfl⟩
theorem SlR.sl {r : RTy α} {I : IMem} {v : Value} {l : List α} (h : SlR r I v l) : ∃ A c, v = .slice A l.length c := by
  obtain ⟨A, c, cs, h, _⟩ := h; exact ⟨A, c, h⟩
theorem SlR.at {r : RTy α} {I : IMem} {v : Value} {l : List α} (h : SlR r I v l) {i : Nat} {x : α} (hx : l[i]? = some x) (hs : 0 < r.sz) :
    ∃ b o c cs, v = .slice (some ⟨b, o, none⟩) l.length c ∧ r.rep I cs x ∧ ∀ j u, cs[j]? = some u → I.cell b (o + i * r.sz + j) = some u := by
  obtain ⟨A, c, fs, h1, h2, h3, h4, h5⟩ := h
  obtain ⟨cs, k1, k2⟩ := h4.at hx
  have hne : fs ≠ [] := by
    intro e
    have hl := r.len k1
    have := k2 0 cs[0] (by simp)
    rw [e] at this; simp at this
  obtain ⟨⟨b, o, s⟩, rfl, hsp, h6⟩ := h5.resolve_left hne
  simp only at hsp
  subst hsp
  exact ⟨b, o, c, cs, h1, k1, fun j u hj => by rw [Nat.add_assoc]; exact h6 _ _ (k2 j u hj)⟩

def tSlice (r : RTy α) : RTy (List α) where
  sz := 1
  rep I cs l := ∃ v, cs = [v] ∧ SlR r I v l
  mono := fun h ⟨v, e, k⟩ => ⟨v, e, k.mono h⟩
  len := fun ⟨v, e, _⟩ => by rw [e]; rfl
  one := fun ⟨v, e, k⟩ u hu => by rw [e] at hu; simp at hu; subst hu; exact k.one

end Sp
