/-
  THE ROW OF A LAW: from what the statement's reading gives to the memory that never turns, and back.
-/
import Derived.Test.YtkkflfmonidepaaDoorEng14
import Derived.ProofKit
import Derived.LaidMore
import Derived.OpenShut
import Derived.Stop.Joined
namespace Sp
open Go Go.RowKit Go.ChangeShapes Go.WideShapes Go.ChangeAt

/-- All that stands when the call begins. -/
def I0 (W : World) : IMem := ⟨fun b o => W.cell? ⟨b, o, none⟩, fun b => W.heap[b]?, W.os, W.output, W.tape⟩
theorem own0 (W : World) : Own (I0 W) W [] := ⟨fun _ _ _ h => h, fun _ _ h => h, rfl, rfl, rfl, (fun _ h => by cases h), List.Pairwise.nil⟩
theorem below0 {W W' : World} {L : List It} (S : Own (I0 W) W' L) : Below W.heap.size W W' := by
  have hb : ∀ k, k < W.heap.size → W'.heap[k]? = W.heap[k]? := fun k hk => by
    have h : W.heap[k]? = some W.heap[k] := by simp [hk]
    rw [h]; exact S.blk k _ h
  refine ⟨S.os, S.tape, S.out, ?_, hb⟩
  by_cases h : W.heap.size = 0
  · omega
  · have h1 := hb (W.heap.size - 1) (by omega)
    have h2 : W.heap[W.heap.size - 1]? = some W.heap[W.heap.size - 1] := by simp
    rw [h2] at h1
    have := (Array.getElem?_eq_some_iff.1 h1).1
    omega

section
variable {H : Type} {enc : TypeId × Value → H} {P : Program} {W W' : World}

theorem trodAll_below (hl : laidOutB P = true) (hb : Below W.heap.size W W') : ∀ {ts : List TypeId} {vs : List Value} {ds : List (DataW H)} {ps : List MemPlace},
    (ts.all fun t => P.readableRec t && decide (t < P.types.size)) = true → DataW.TrodAll enc P W 0 (fun _ => true) true ts vs ds ps → (∀ x ∈ ps, x.block < W.heap.size) →
    DataW.TrodAll enc P W' 0 (fun b => decide (b < W.heap.size)) true ts vs ds ps
  | [], vs, ds, ps, _, h, _ => by
    obtain ⟨rfl, rfl, rfl⟩ := trodAll_nil h
    exact trodAll_mk0
  | t :: ts, vs, ds, ps, hr, h, hlt => by
    obtain ⟨v, vs', d, ds', p, q, rfl, rfl, rfl, h1, h2⟩ := trodAll_cons h
    simp only [List.all_cons, Bool.and_eq_true, decide_eq_true_eq] at hr
    exact ⟨p, q, Below.trod hl hr.1.1 hr.1.2 h1 hb (fun x hx => hlt x (List.mem_append_left _ hx)), trodAll_below hl hb (by simpa using hr.2) h2 (fun x hx => hlt x (List.mem_append_right _ hx)), rfl⟩

/-- BACK: true; the arguments read as they did. -/
theorem law_post {f : Func} {s : ChangeSpec} {bt : TypeId} (hl : laidOutB P = true) (hr : (f.params.toList.all fun t => P.readableRec t && decide (t < P.types.size)) = true) (hrt : f.resultTypes = #[bt]) (hbt : P.underlying bt = some .bool)
    (hvars : s.vars = []) {args : Array Value} {ds gs : List (DataW H)} {before : List MemPlace} (hs : s.fn H (ds ++ []) = { results := [.lit (.bool true)], args := ds })
    (hW : DataW.Whole enc P f.params.toList s.vars false W args.toList ds gs before) (hB : Below W.heap.size W W') : s.post enc P f false true false false W args (.bool true) W' := by
  have hlt : ∀ p ∈ before, p.block < W.heap.size := fun p hp => hW.lt p hp
  have hW' := hW
  obtain ⟨p, q, hA, hV, rfl, hz, hn⟩ := hW'
  rw [hvars] at hV
  obtain ⟨rfl, rfl⟩ := trodVars_none hV
  refine ⟨ds, [], p ++ [], [], p, [], hW, ?_, ?_, ?_, hB.frame _, fun h => by cases h⟩
  · rw [hs, hrt]
    exact trodAll_mk1 (shut_bool hbt true)
  · rw [hs]
    exact trodAll_below hl hB hr hA (fun x hx => hlt x (List.mem_append_left _ hx))
  · rw [hs, hvars]; exact rfl
end

/-! ### Opening: data of a type, read off all that stands -/

def Opn {α : Type} (P : Program) (t : TypeId) (r : RTy α) (ok : α → Prop) : Prop :=
  ∀ {H : Type} {enc : TypeId × Value → H} {W : World} {base : Nat} {spare : Nat → Bool} {held : Bool} {fuel : Nat} {cs : List Value} {y : DataW H × List MemPlace},
    DataW.trod enc P W base spare held fuel t cs = some y → ∃ d, r.rep (I0 W) cs d ∧ ok d

section
variable {P : Program} {t : TypeId} {α : Type}

theorem Opn.int {k : IntKind} (ht : P.underlying t = some (.int k)) : Opn P t (tInt' k) (fun n => (Lit.int k n).wf = true) := fun h => by
  obtain ⟨n, h1, _, h3⟩ := DataW.trod_int ht h
  exact ⟨n, h1, h3⟩
theorem Opn.bool (ht : P.underlying t = some .bool) : Opn P t tBool (fun _ => True) := fun h => by
  obtain ⟨n, h1, _⟩ := DataW.trod_bool ht h
  exact ⟨n, h1, trivial⟩
theorem Opn.string (ht : P.underlying t = some .string) : Opn P t tString (fun s => s.size ≤ maxLen) := fun h => by
  obtain ⟨n, h1, _, h3⟩ := DataW.trod_string ht h
  exact ⟨n, h1, h3⟩

theorem cells_at {W : World} {base : Nat} {a : Addr} {n : Nat} {cs : List Value} (h : W.cells? base a n = some cs) : cs.length = n ∧ ∀ j u, cs[j]? = some u → W.cell? (a.add j) = some u := by
  obtain ⟨_, h1, h2⟩ := World.cells?_some h
  refine ⟨h1, fun j u hj => ?_⟩
  rw [← hj]
  exact h2 j (by have := (List.getElem?_eq_some_iff.1 hj).1; omega)

theorem Opn.build {r : RTy α} {ok : α → Prop} {W : World} (b o : Nat) : ∀ (n : Nat), (∀ i, i < n → ∃ cs d, (∀ j u, cs[j]? = some u → W.cell? ⟨b, o + i * r.sz + j, none⟩ = some u) ∧ r.rep (I0 W) cs d ∧ ok d) →
    ∃ (fs : List Value) (l : List α), l.length = n ∧ Flat r (I0 W) fs l ∧ (∀ x ∈ l, ok x) ∧ ∀ j u, fs[j]? = some u → W.cell? ⟨b, o + j, none⟩ = some u
  | 0, _ => ⟨[], [], rfl, rfl, (fun _ h => by cases h), (fun j u h => by simp at h)⟩
  | n + 1, h => by
    obtain ⟨fs, l, h1, h2, h3, h4⟩ := Opn.build b o n (fun i hi => h i (by omega))
    obtain ⟨cs, d, k1, k2, k3⟩ := h n (by omega)
    refine ⟨fs ++ cs, l ++ [d], by simp [h1], Flat.append (show Flat r (I0 W) cs [d] from ⟨cs, [], by simp, k2, rfl⟩) h2, fun x hx => ?_, fun j u hj => ?_⟩
    · rcases List.mem_append.1 hx with hx | hx
      · exact h3 x hx
      · simp at hx; subst hx; exact k3
    · by_cases e : j < fs.length
      · rw [List.getElem?_append_left e] at hj
        exact h4 j u hj
      · rw [List.getElem?_append_right (by omega)] at hj
        have h5 := k1 _ _ hj
        have h6 := h2.length
        rw [h1] at h6
        rw [show o + n * r.sz + (j - fs.length) = o + j by omega] at h5
        exact h5

theorem Opn.slice {r : RTy α} {ok : α → Prop} {e : TypeId} (ht : P.underlying t = some (.slice e)) (hs : P.cellsOf e = r.sz) (hs0 : Nat.blt 0 r.sz = true) (he : Opn P e r ok) :
    Opn P t (tSlice r) (fun l => l.length ≤ maxLen ∧ ∀ x ∈ l, ok x) := by
  intro H enc W base spare held fuel cs y h
  rcases DataW.trod_slice ht h with ⟨rfl, _⟩ | ⟨a, len, cap, elems, rest, n, _, rfl, _, hb, hl, hm, hlen, hel, _⟩
  · exact ⟨[], ⟨_, rfl, SlR.nil _ _⟩, Nat.zero_le _, (fun _ h => by cases h)⟩
  by_cases h0 : len = 0
  · subst h0
    exact ⟨[], ⟨_, rfl, some a, cap, [], rfl, Nat.zero_le _, hm, rfl, .inl rfl⟩, Nat.zero_le _, (fun _ h => by cases h)⟩
  have hs0' : 0 < r.sz := Nat.le_of_ble_eq_true hs0
  have each : ∀ i, i < len → ∃ cs d, (cs.length = r.sz ∧ ∀ j u, cs[j]? = some u → W.cell? ((a.add (i * r.sz)).add j) = some u) ∧ r.rep (I0 W) cs d ∧ ok d := fun i hi => by
    have h1 := hel i hi
    have h2 : i < elems.length := by omega
    rw [List.getElem?_eq_getElem h2, Option.bind_eq_some_iff] at h1
    obtain ⟨cs, h3, h4⟩ := h1
    rw [hs] at h3
    obtain ⟨d, h5, h6⟩ := he h4
    exact ⟨cs, d, cells_at h3, h5, h6⟩
  obtain ⟨b, o, s⟩ := a
  cases s with
  | some s =>
    obtain ⟨cs, d, ⟨h1, h2⟩, _⟩ := each 0 (by omega)
    have h3 := h2 0 cs[0] (by simp)
    have h4 : (((Addr.mk b o (some s)).add (0 * r.sz)).add 0) = Addr.mk b o (some s) := by rw [Nat.zero_mul]; rfl
    rw [h4] at h3
    unfold World.cell? at h3
    split at h3 <;> simp at h3
  | none =>
    obtain ⟨fs, l, k1, k2, k3, k4⟩ := Opn.build (r := r) (ok := ok) (W := W) b o len (fun i hi => by
      obtain ⟨cs, d, ⟨_, h2⟩, h3, h4⟩ := each i hi
      refine ⟨cs, d, fun j u hj => ?_, h3, h4⟩
      have := h2 j u hj
      rwa [addr_add, addr_add] at this)
    subst k1
    exact ⟨l, ⟨_, rfl, some ⟨b, o, none⟩, cap, fs, rfl, hl, hm, k2, .inr ⟨_, rfl, rfl, fun j u hj => k4 j u hj⟩⟩, by omega, k3⟩

/-- An argument. -/
theorem Opn.arg {r : RTy α} {ok : α → Prop} (h : Opn P t r ok) {H : Type} {enc : TypeId × Value → H} {W : World} {base : Nat} {spare : Nat → Bool} {held : Bool} {v : Value} {d : DataW H} {ps : List MemPlace}
    (hd : DataW.Trod enc P W base spare held t v d ps) : ∃ x, r.rep (I0 W) v.cells.toList x ∧ ok x := by
  obtain ⟨fuel, hf⟩ := hd
  exact h hf
end
/-- A table of numbers that lies in a variable. -/
theorem cells_ints {H : Type} {enc : TypeId × Value → H} {P : Program} {W : World} {base : Nat} {spare : Nat → Bool} {held : Bool} {fuel : Nat} {t e n : TypeId} {k : IntKind} {cs : List Value} {l : List Int} {ps : List MemPlace}
    (ht : P.underlying t = some (.array n e)) (he : P.underlying e = some (.int k)) (hc : P.cellsOf e = 1) (hn : P.cellsOf t = n)
    (h : DataW.trod enc P W base spare held fuel t cs = some (.agg (l.map fun n => .lit (.int k n)), ps)) : cs = l.map (Value.int k) := by
  obtain ⟨xs, m, _, hx, hl, hxs, hel⟩ := DataW.trod_array ht h
  simp only [Prod.mk.injEq, DataW.agg.injEq] at hx
  have hlen : l.length = n := by
    have := congrArg List.length hx.1
    simp only [List.length_map] at this
    omega
  apply List.ext_getElem?
  intro i
  by_cases hi : i < n
  · have h1 := hel i hi
    rw [hc, Nat.mul_one] at h1
    have h2 : i < xs.length := by omega
    rw [List.getElem?_eq_getElem h2] at h1
    obtain ⟨q, h3, h4, _⟩ := DataW.trod_int he h1
    have h5 : cs[i]? = some (.int k q) := by
      have : ((cs.drop i).take 1)[0]? = some (.int k q) := by rw [h3]; rfl
      rw [List.getElem?_take] at this
      simpa using this
    have h6 : (l.map fun n => (DataW.lit (.int k n) : DataW H))[i]? = some (.lit (.int k q)) := by
      rw [hx.1, List.getElem?_map, List.getElem?_eq_getElem h2, h4]; rfl
    rw [List.getElem?_map] at h6 ⊢
    cases hli : l[i]? with
    | none => rw [hli] at h6; cases h6
    | some a =>
      rw [hli] at h6
      simp at h6
      subst h6
      exact h5
  · rw [List.getElem?_eq_none (by omega), List.getElem?_eq_none (by rw [List.length_map]; omega)]

section
variable {P : Program} {t : TypeId} {α : Type} {H : Type} {enc : TypeId × Value → H} {W : World} {base b0 : Nat} {spare : Nat → Bool} {held : Bool} {v : Value} {d : DataW H} {ps : List MemPlace} {q : Reach}
theorem Opn.argS {r : RTy α} {ok : List α → Prop} {e : TypeId} (h : Opn P t (tSlice r) ok) (ht : P.underlying t = some (.slice e)) (hv : Value.okWide P W q b0 t v) (hd : DataW.Trod enc P W base spare held t v d ps) : ∃ x, SlR r (I0 W) v x ∧ ok x := by
  obtain ⟨a, n, c, rfl⟩ := okWide_slice ht hv
  obtain ⟨x, ⟨u, h1, h2⟩, h3⟩ := h.arg hd
  obtain rfl : Value.slice a n c = u := by simpa [Value.cells] using h1
  exact ⟨x, h2, h3⟩
theorem Opn.argI {k : IntKind} (ht : P.underlying t = some (.int k)) (hv : Value.okWide P W q b0 t v) (hd : DataW.Trod enc P W base spare held t v d ps) : ∃ n, v = .int k n ∧ (Lit.int k n).wf = true := by
  obtain ⟨n, h1, _, _, h2⟩ := open_int ht hv hd
  exact ⟨n, h1, h2⟩
theorem Opn.argB (ht : P.underlying t = some .bool) (hv : Value.okWide P W q b0 t v) : ∃ b, v = .bool b := okWide_bool ht hv
theorem Opn.argT (ht : P.underlying t = some .string) (hv : Value.okWide P W q b0 t v) (hd : DataW.Trod enc P W base spare held t v d ps) : ∃ s, v = .string s ∧ s.size ≤ maxLen := by
  obtain ⟨s, h1, _, _, h2⟩ := ChangeMaps.open_string ht hv hd
  exact ⟨s, h1, h2⟩
theorem Opn.argR {r : RTy α} {ok : α → Prop} {fs : Array Field} (h : Opn P t r ok) (ht : P.underlying t = some (.struct fs)) (hv : Value.okWide P W q b0 t v) (hd : DataW.Trod enc P W base spare held t v d ps) : ∃ cs x, v = .agg cs ∧ r.rep (I0 W) cs.toList x ∧ ok x := by
  obtain ⟨cs, rfl, _⟩ := okWide_struct ht hv
  obtain ⟨x, h1, h2⟩ := h.arg hd
  exact ⟨cs, x, rfl, h1, h2⟩
end
theorem cells_slice {v : Value} {u : Value} (h : v.cells.toList = [u]) (hu : ∀ cs, v ≠ .agg cs) : v = u := by
  cases v <;> first | exact absurd rfl (hu _) | (simpa [Value.cells] using h)
end Sp
