/-
  Parts of the proof, merged: Eng15, Eng20, Eng21, Eng17, Eng18.
-/
import Derived.LaidMore
import Derived.OpenShut
import Derived.ProofKit
import Derived.Stop.Joined
import Derived.Test.YtafnenafbognkaaGreatDoorW5
namespace Sp
open Go Go.RowKit Go.ChangeShapes Go.WideShapes Go.ChangeAt
def I0 (W : World) : IMem := ⟨fun b o => W.cell? ⟨b, o, none⟩, fun b => W.heap[b]?, W.os, W.output, W.tape⟩
theorem own0 (W : World) : Own (I0 W) W [] := ⟨fun _ _ _ h => h, fun _ _ h => h, rfl, rfl, rfl, (fun _ h => by cases h), List.Pairwise.nil⟩
theorem below0 {W W' : World} {L : List It} (S : Own (I0 W) W' L) : Below W.heap.size W W' := by
  have hb : ∀ k, k < W.heap.size → W'.heap[k]? = W.heap[k]? := fun k hk => by
    have h : W.heap[k]? = some W.heap[k] := by simp [hk]
    rw [h]; exact S.blk k _ h
  refine ⟨S.os, S.tape, S.out, ?_, hb⟩
  by_cases h : W.heap.size = 0
  · omega
  · have h1 := hb (W.heap.size - 1) (by omega)
    have h2 : W.heap[W.heap.size - 1]? = some W.heap[W.heap.size - 1] := by simp
    rw [h2] at h1
    have := (Array.getElem?_eq_some_iff.1 h1).1
    omega
section
variable {H : Type} {enc : TypeId × Value → H} {P : Program} {W W' : World}
theorem trodAll_below (hl : laidOutB P = true) (hb : Below W.heap.size W W') : ∀ {ts : List TypeId} {vs : List Value} {ds : List (DataW H)} {ps : List MemPlace},
    (ts.all fun t => P.readableRec t && decide (t < P.types.size)) = true → DataW.TrodAll enc P W 0 (fun _ => true) true ts vs ds ps → (∀ x ∈ ps, x.block < W.heap.size) →
    DataW.TrodAll enc P W' 0 (fun b => decide (b < W.heap.size)) true ts vs ds ps
  | [], vs, ds, ps, _, h, _ => by
    obtain ⟨rfl, rfl, rfl⟩ := trodAll_nil h
    exact trodAll_mk0
  | t :: ts, vs, ds, ps, hr, h, hlt => by
    obtain ⟨v, vs', d, ds', p, q, rfl, rfl, rfl, h1, h2⟩ := trodAll_cons h
    simp only [List.all_cons, Bool.and_eq_true, decide_eq_true_eq] at hr
    exact ⟨p, q, Below.trod hl hr.1.1 hr.1.2 h1 hb (fun x hx => hlt x (List.mem_append_left _ hx)), trodAll_below hl hb (by simpa using hr.2) h2 (fun x hx => hlt x (List.mem_append_right _ hx)), rfl⟩
theorem law_post {f : Func} {s : ChangeSpec} {bt : TypeId} (hl : laidOutB P = true) (hr : (f.params.toList.all fun t => P.readableRec t && decide (t < P.types.size)) = true) (hrt : f.resultTypes = #[bt]) (hbt : P.underlying bt = some .bool)
    (hvars : s.vars = []) {args : Array Value} {ds gs : List (DataW H)} {before : List MemPlace} (hs : s.fn H (ds ++ []) = { results := [.lit (.bool true)], args := ds })
    (hW : DataW.Whole enc P f.params.toList s.vars false W args.toList ds gs before) (hB : Below W.heap.size W W') : s.post enc P f false true false false W args (.bool true) W' := by
  have hlt : ∀ p ∈ before, p.block < W.heap.size := fun p hp => hW.lt p hp
  have hW' := hW
  obtain ⟨p, q, hA, hV, rfl, hz, hn⟩ := hW'
  rw [hvars] at hV
  obtain ⟨rfl, rfl⟩ := trodVars_none hV
  refine ⟨ds, [], p ++ [], [], p, [], hW, ?_, ?_, ?_, hB.frame _, fun h => by cases h⟩
  · rw [hs, hrt]
    exact trodAll_mk1 (shut_bool hbt true)
  · rw [hs]
    exact trodAll_below hl hB hr hA (fun x hx => hlt x (List.mem_append_left _ hx))
  · rw [hs, hvars]; exact rfl
end
def Opn {α : Type} (P : Program) (t : TypeId) (r : RTy α) (ok : α → Prop) : Prop :=
  ∀ {H : Type} {enc : TypeId × Value → H} {W : World} {base : Nat} {spare : Nat → Bool} {held : Bool} {fuel : Nat} {cs : List Value} {y : DataW H × List MemPlace},
    DataW.trod enc P W base spare held fuel t cs = some y → ∃ d, r.rep (I0 W) cs d ∧ ok d
section
variable {P : Program} {t : TypeId} {α : Type}
theorem Opn.int {k : IntKind} (ht : P.underlying t = some (.int k)) : Opn P t (tInt' k) (fun n => (Lit.int k n).wf = true) := fun h => by
  obtain ⟨n, h1, _, h3⟩ := DataW.trod_int ht h
  exact ⟨n, h1, h3⟩
theorem Opn.bool (ht : P.underlying t = some .bool) : Opn P t tBool (fun _ => True) := fun h => by
  obtain ⟨n, h1, _⟩ := DataW.trod_bool ht h
  exact ⟨n, h1, trivial⟩
theorem Opn.string (ht : P.underlying t = some .string) : Opn P t tString (fun s => s.size ≤ maxLen) := fun h => by
  obtain ⟨n, h1, _, h3⟩ := DataW.trod_string ht h
  exact ⟨n, h1, h3⟩
theorem cells_at {W : World} {base : Nat} {a : Addr} {n : Nat} {cs : List Value} (h : W.cells? base a n = some cs) : cs.length = n ∧ ∀ j u, cs[j]? = some u → W.cell? (a.add j) = some u := by
  obtain ⟨_, h1, h2⟩ := World.cells?_some h
  refine ⟨h1, fun j u hj => ?_⟩
  rw [← hj]
  exact h2 j (by have := (List.getElem?_eq_some_iff.1 hj).1; omega)
theorem Opn.build {r : RTy α} {ok : α → Prop} {W : World} (b o : Nat) : ∀ (n : Nat), (∀ i, i < n → ∃ cs d, (∀ j u, cs[j]? = some u → W.cell? ⟨b, o + i * r.sz + j, none⟩ = some u) ∧ r.rep (I0 W) cs d ∧ ok d) →
    ∃ (fs : List Value) (l : List α), l.length = n ∧ Flat r (I0 W) fs l ∧ (∀ x ∈ l, ok x) ∧ ∀ j u, fs[j]? = some u → W.cell? ⟨b, o + j, none⟩ = some u
  | 0, _ => ⟨[], [], rfl, rfl, (fun _ h => by cases h), (fun j u h => by simp at h)⟩
  | n + 1, h => by
    obtain ⟨fs, l, h1, h2, h3, h4⟩ := Opn.build b o n (fun i hi => h i (by omega))
    obtain ⟨cs, d, k1, k2, k3⟩ := h n (by omega)
    refine ⟨fs ++ cs, l ++ [d], by simp [h1], Flat.append (show Flat r (I0 W) cs [d] from ⟨cs, [], by simp, k2, rfl⟩) h2, fun x hx => ?_, fun j u hj => ?_⟩
    · rcases List.mem_append.1 hx with hx | hx
      · exact h3 x hx
      · simp at hx; subst hx; exact k3
    · by_cases e : j < fs.length
      · rw [List.getElem?_append_left e] at hj
        exact h4 j u hj
      · rw [List.getElem?_append_right (by omega)] at hj
        have h5 := k1 _ _ hj
        have h6 := h2.length
        rw [h1] at h6
        rw [show o + n * r.sz + (j - fs.length) = o + j by omega] at h5
        exact h5
theorem Opn.slice {r : RTy α} {ok : α → Prop} {e : TypeId} (ht : P.underlying t = some (.slice e)) (hs : P.cellsOf e = r.sz) (hs0 : Nat.blt 0 r.sz = true) (he : Opn P e r ok) :
    Opn P t (tSlice r) (fun l => l.length ≤ maxLen ∧ ∀ x ∈ l, ok x) := by
  intro H enc W base spare held fuel cs y h
  rcases DataW.trod_slice ht h with ⟨rfl, _⟩ | ⟨a, len, cap, elems, rest, n, _, rfl, _, hb, hl, hm, hlen, hel, _⟩
  · exact ⟨[], ⟨_, rfl, SlR.nil _ _⟩, Nat.zero_le _, (fun _ h => by cases h)⟩
  by_cases h0 : len = 0
  · subst h0
    exact ⟨[], ⟨_, rfl, some a, cap, [], rfl, Nat.zero_le _, hm, rfl, .inl rfl⟩, Nat.zero_le _, (fun _ h => by cases h)⟩
  have hs0' : 0 < r.sz := Nat.le_of_ble_eq_true hs0
  have each : ∀ i, i < len → ∃ cs d, (cs.length = r.sz ∧ ∀ j u, cs[j]? = some u → W.cell? ((a.add (i * r.sz)).add j) = some u) ∧ r.rep (I0 W) cs d ∧ ok d := fun i hi => by
    have h1 := hel i hi
    have h2 : i < elems.length := by omega
    rw [List.getElem?_eq_getElem h2, Option.bind_eq_some_iff] at h1
    obtain ⟨cs, h3, h4⟩ := h1
    rw [hs] at h3
    obtain ⟨d, h5, h6⟩ := he h4
    exact ⟨cs, d, cells_at h3, h5, h6⟩
  obtain ⟨b, o, s⟩ := a
  cases s with
  | some s =>
    obtain ⟨cs, d, ⟨h1, h2⟩, _⟩ := each 0 (by omega)
    have h3 := h2 0 cs[0] (by simp)
    have h4 : (((Addr.mk b o (some s)).add (0 * r.sz)).add 0) = Addr.mk b o (some s) := by rw [Nat.zero_mul]; rfl
    rw [h4] at h3
    unfold World.cell? at h3
    split at h3 <;> simp at h3
  | none =>
    obtain ⟨fs, l, k1, k2, k3, k4⟩ := Opn.build (r := r) (ok := ok) (W := W) b o len (fun i hi => by
      obtain ⟨cs, d, ⟨_, h2⟩, h3, h4⟩ := each i hi
      refine ⟨cs, d, fun j u hj => ?_, h3, h4⟩
      have := h2 j u hj
      rwa [addr_add, addr_add] at this)
    subst k1
    exact ⟨l, ⟨_, rfl, some ⟨b, o, none⟩, cap, fs, rfl, hl, hm, k2, .inr ⟨_, rfl, rfl, fun j u hj => k4 j u hj⟩⟩, by omega, k3⟩
theorem Opn.arg {r : RTy α} {ok : α → Prop} (h : Opn P t r ok) {H : Type} {enc : TypeId × Value → H} {W : World} {base : Nat} {spare : Nat → Bool} {held : Bool} {v : Value} {d : DataW H} {ps : List MemPlace}
    (hd : DataW.Trod enc P W base spare held t v d ps) : ∃ x, r.rep (I0 W) v.cells.toList x ∧ ok x := by
  obtain ⟨fuel, hf⟩ := hd
  exact h hf
end
theorem cells_ints {H : Type} {enc : TypeId × Value → H} {P : Program} {W : World} {base : Nat} {spare : Nat → Bool} {held : Bool} {fuel : Nat} {t e n : TypeId} {k : IntKind} {cs : List Value} {l : List Int} {ps : List MemPlace}
    (ht : P.underlying t = some (.array n e)) (he : P.underlying e = some (.int k)) (hc : P.cellsOf e = 1) (hn : P.cellsOf t = n)
    (h : DataW.trod enc P W base spare held fuel t cs = some (.agg (l.map fun n => .lit (.int k n)), ps)) : cs = l.map (Value.int k) := by
  obtain ⟨xs, m, _, hx, hl, hxs, hel⟩ := DataW.trod_array ht h
  simp only [Prod.mk.injEq, DataW.agg.injEq] at hx
  have hlen : l.length = n := by
    have := congrArg List.length hx.1
    simp only [List.length_map] at this
    omega
  apply List.ext_getElem?
  intro i
  by_cases hi : i < n
  · have h1 := hel i hi
    rw [hc, Nat.mul_one] at h1
    have h2 : i < xs.length := by omega
    rw [List.getElem?_eq_getElem h2] at h1
    obtain ⟨q, h3, h4, _⟩ := DataW.trod_int he h1
    have h5 : cs[i]? = some (.int k q) := by
      have : ((cs.drop i).take 1)[0]? = some (.int k q) := by rw [h3]; rfl
      rw [List.getElem?_take] at this
      simpa using this
    have h6 : (l.map fun n => (DataW.lit (.int k n) : DataW H))[i]? = some (.lit (.int k q)) := by
      rw [hx.1, List.getElem?_map, List.getElem?_eq_getElem h2, h4]; rfl
    rw [List.getElem?_map] at h6 ⊢
    cases hli : l[i]? with
    | none => rw [hli] at h6; cases h6
    | some a =>
      rw [hli] at h6
      simp at h6
      subst h6
      exact h5
  · rw [List.getElem?_eq_none (by omega), List.getElem?_eq_none (by rw [List.length_map]; omega)]
section
variable {P : Program} {t : TypeId} {α : Type} {H : Type} {enc : TypeId × Value → H} {W : World} {base b0 : Nat} {spare : Nat → Bool} {held : Bool} {v : Value} {d : DataW H} {ps : List MemPlace} {q : Reach}
theorem Opn.argR {r : RTy α} {ok : α → Prop} {fs : Array Field} (h : Opn P t r ok) (ht : P.underlying t = some (.struct fs)) (hv : Value.okWide P W q b0 t v) (hd : DataW.Trod enc P W base spare held t v d ps) : ∃ cs x, v = .agg cs ∧ r.rep (I0 W) cs.toList x ∧ ok x := by
  obtain ⟨cs, rfl, _⟩ := okWide_struct ht hv
  obtain ⟨x, h1, h2⟩ := h.arg hd
  exact ⟨cs, x, rfl, h1, h2⟩
end
end Sp
namespace Sp
open Go Go.RowKit Go.ChangeShapes Go.WideShapes Go.ChangeAt
def tFd (P : Program) (s : TypeId) (i : Nat) : Option (Nat × TypeId × Nat) := match P.underlying s with
  | some (.struct fs) => match fs[i]? with
    | some g => some (g.offset, g.type, P.cellsOf g.type)
    | none => none
  | _ => none
def tStr' (P : Program) (s : TypeId) : Bool := match P.underlying s with
  | some (.struct _) => true
  | _ => false
section
variable {P : Program} {s : TypeId} {H : Type} {enc : TypeId × Value → H} {W : World} {base : Nat} {spare : Nat → Bool} {held : Bool} {fuel : Nat} {cs : List Value} {y : DataW H × List MemPlace}
theorem opnLen {n : Nat} (hs : tStr' P s = true) (hn : P.cellsOf s = n) (h : DataW.trod enc P W base spare held fuel s cs = some y) : cs.length = n := by
  unfold tStr' at hs
  split at hs
  · rename_i fs hu
    obtain ⟨_, _, _, _, hl, _⟩ := DataW.trod_struct hu h
    exact hl.trans hn
  · cases hs
end
theorem lenS {n : Nat} {cs : List Value} (h : cs.length = n + 1) : ∃ c cs', cs = c :: cs' ∧ cs'.length = n := by
  cases cs with
  | nil => cases h
  | cons c cs => exact ⟨c, cs, rfl, by simpa using h⟩
end Sp
namespace Sp
open Go Go.RowKit Go.ChangeShapes Go.WideShapes Go.ChangeAt
def lightB (l : List Nat) : Bool := l.all (· ≤ reachBytes)
theorem lightB_append {a b : List Nat} : lightB (a ++ b) = true ↔ lightB a = true ∧ lightB b = true := by simp [lightB, List.all_append]
theorem lightB_cons {n : Nat} {b : List Nat} : lightB (n :: b) = true ↔ n ≤ reachBytes ∧ lightB b = true := by simp [lightB]
theorem lightAll {H : Type} {P : Program} {e : TypeId} : ∀ {l : List (DataW H)}, lightB (DataW.weightsAll P e l) = true → ∀ (i : Nat) (d : DataW H), l[i]? = some d → lightB (d.weights P e) = true
  | [], _, _, _, h => by simp at h
  | x :: l, h, i, d, hd => by
    rw [DataW.weightsAll, lightB_append] at h
    cases i with
    | zero => simp at hd; subst hd; exact h.1
    | succ i => exact lightAll h.2 i d (by simpa using hd)
theorem lightEach {H : Type} {P : Program} : ∀ {ts : List TypeId} {l : List (DataW H)}, lightB (DataW.weightsEach P ts l) = true → ∀ (i : Nat) (t : TypeId) (d : DataW H), ts[i]? = some t → l[i]? = some d → lightB (d.weights P t) = true
  | [], _, _, _, _, _, h, _ => by simp at h
  | _ :: _, [], _, _, _, _, _, h => by simp at h
  | t :: ts, x :: l, h, i, u, d, hu, hd => by
    rw [DataW.weightsEach, lightB_append] at h
    cases i with
    | zero => simp at hd hu; subst hd; subst hu; exact h.1
    | succ i => exact lightEach h.2 i u d (by simpa using hu) (by simpa using hd)
def OpnW {α : Type} (P : Program) (t : TypeId) (r : RTy α) (ok wk : α → Prop) : Prop :=
  ∀ {H : Type} {enc : TypeId × Value → H} {W : World} {base : Nat} {spare : Nat → Bool} {held : Bool} {fuel : Nat} {cs : List Value} {y : DataW H × List MemPlace},
    DataW.trod enc P W base spare held fuel t cs = some y → lightB (y.1.weights P t) = true → ∃ d, r.rep (I0 W) cs d ∧ ok d ∧ wk d
section
variable {P : Program} {t : TypeId} {α : Type}
theorem OpnW.of {r : RTy α} {ok : α → Prop} (h : Opn P t r ok) : OpnW P t r ok (fun _ => True) := fun h1 _ => by
  obtain ⟨d, h2, h3⟩ := h h1
  exact ⟨d, h2, h3, trivial⟩
theorem OpnW.string (ht : P.underlying t = some .string) : OpnW P t tString (fun s => s.size ≤ maxLen) (fun s => s.size ≤ reachBytes) := fun h hw => by
  obtain ⟨n, h1, h2, h3⟩ := DataW.trod_string ht h
  refine ⟨n, h1, h3, ?_⟩
  subst h2
  simp only [DataW.weights] at hw
  have hl := (lightB_cons.1 hw).1
  have e : n.data.toList.length = n.size := Array.length_toList
  rw [e] at hl
  exact hl
theorem OpnW.slice {r : RTy α} {ok wk : α → Prop} {e : TypeId} {by' : Nat} (ht : P.underlying t = some (.slice e)) (hs : P.cellsOf e = r.sz) (hb : P.bytesOf e = by') (hs0 : Nat.blt 0 r.sz = true) (he : OpnW P e r ok wk) :
    OpnW P t (tSlice r) (fun l => l.length ≤ maxLen ∧ ∀ x ∈ l, ok x) (fun l => l.length * by' ≤ reachBytes ∧ ∀ x ∈ l, wk x) := by
  intro H enc W base spare held fuel cs y h hw
  rcases DataW.trod_slice ht h with ⟨rfl, _⟩ | ⟨a, len, cap, elems, rest, n, _, rfl, rfl, hbb, hl, hm, hlen, hel, _⟩
  · exact ⟨[], ⟨_, rfl, SlR.nil _ _⟩, ⟨Nat.zero_le _, (fun _ h => by cases h)⟩, by simp, (fun _ h => by cases h)⟩
  have hwt : ((elems.map (·.1)).length + (rest.map (·.1)).length) * by' ≤ reachBytes ∧ lightB (DataW.weightsAll P e (elems.map (·.1))) = true := by
    simp only [DataW.weights, ht] at hw
    rw [lightB_cons, lightB_append, hb] at hw
    exact ⟨hw.1, hw.2.1⟩
  have hwl : len * by' ≤ reachBytes := by
    refine Nat.le_trans (Nat.mul_le_mul_right _ ?_) hwt.1
    simp only [List.length_map]; omega
  by_cases h0 : len = 0
  · subst h0
    exact ⟨[], ⟨_, rfl, some a, cap, [], rfl, Nat.zero_le _, hm, rfl, .inl rfl⟩, ⟨Nat.zero_le _, (fun _ h => by cases h)⟩, by simp, (fun _ h => by cases h)⟩
  have hs0' : 0 < r.sz := Nat.le_of_ble_eq_true hs0
  have each : ∀ i, i < len → ∃ cs d, (cs.length = r.sz ∧ ∀ j u, cs[j]? = some u → W.cell? ((a.add (i * r.sz)).add j) = some u) ∧ r.rep (I0 W) cs d ∧ ok d ∧ wk d := fun i hi => by
    have h1 := hel i hi
    have h2 : i < elems.length := by omega
    rw [List.getElem?_eq_getElem h2, Option.bind_eq_some_iff] at h1
    obtain ⟨cs, h3, h4⟩ := h1
    rw [hs] at h3
    obtain ⟨d, h5, h6⟩ := he h4 (lightAll hwt.2 i _ (by rw [List.getElem?_map, List.getElem?_eq_getElem h2]; rfl))
    exact ⟨cs, d, cells_at h3, h5, h6⟩
  obtain ⟨b, o, s⟩ := a
  cases s with
  | some s =>
    obtain ⟨cs, d, ⟨h1, h2⟩, _⟩ := each 0 (by omega)
    have h3 := h2 0 cs[0] (by simp)
    have h4 : (((Addr.mk b o (some s)).add (0 * r.sz)).add 0) = Addr.mk b o (some s) := by rw [Nat.zero_mul]; rfl
    rw [h4] at h3
    unfold World.cell? at h3
    split at h3 <;> simp at h3
  | none =>
    obtain ⟨fs, l, k1, k2, k3, k4⟩ := Opn.build (r := r) (ok := fun x => ok x ∧ wk x) (W := W) b o len (fun i hi => by
      obtain ⟨cs, d, ⟨_, h2⟩, h3, h4⟩ := each i hi
      refine ⟨cs, d, fun j u hj => ?_, h3, h4⟩
      have := h2 j u hj
      rwa [addr_add, addr_add] at this)
    subst k1
    exact ⟨l, ⟨_, rfl, some ⟨b, o, none⟩, cap, fs, rfl, hl, hm, k2, .inr ⟨_, rfl, rfl, fun j u hj => k4 j u hj⟩⟩, ⟨by omega, fun x hx => (k3 x hx).1⟩, hwl, fun x hx => (k3 x hx).2⟩
end
section
variable {P : Program} {s : TypeId} {H : Type} {enc : TypeId × Value → H} {W : World} {base : Nat} {spare : Nat → Bool} {held : Bool} {fuel : Nat} {cs : List Value} {y : DataW H × List MemPlace}
theorem opnFldW {i off sz : Nat} {ft : TypeId} {α : Type} {r : RTy α} {ok wk : α → Prop} (hf : tFd P s i = some (off, ft, sz)) (hr : OpnW P ft r ok wk) (h : DataW.trod enc P W base spare held fuel s cs = some y) (hw : lightB (y.1.weights P s) = true) : ∃ d, r.rep (I0 W) ((cs.drop off).take sz) d ∧ ok d ∧ wk d := by
  unfold tFd at hf
  split at hf
  · rename_i fs hu
    split at hf
    · rename_i g hg
      simp only [Option.some.injEq, Prod.mk.injEq] at hf
      obtain ⟨rfl, rfl, rfl⟩ := hf
      obtain ⟨xs, n, _, rfl, _, hlen, hall⟩ := DataW.trod_struct hu h
      have h1 := hall i g hg
      have hi := (Array.getElem?_eq_some_iff.1 hg).1
      have hx : i < xs.length := by omega
      rw [List.getElem?_eq_getElem hx] at h1
      simp only [DataW.weights, hu] at hw
      exact hr h1 (lightEach hw i g.type _ (by simp [hg]) (by simp [hx]))
    · cases hf
  · cases hf
end
section
variable {P : Program} {t : TypeId} {α : Type} {H : Type} {enc : TypeId × Value → H} {W : World} {base b0 : Nat} {spare : Nat → Bool} {held : Bool} {v : Value} {d : DataW H} {ps : List MemPlace} {q : Reach}
theorem OpnW.arg {r : RTy α} {ok wk : α → Prop} (h : OpnW P t r ok wk) (hd : DataW.Trod enc P W base spare held t v d ps) (hw : lightB (d.weights P t) = true) : ∃ x, r.rep (I0 W) v.cells.toList x ∧ ok x ∧ wk x := by
  obtain ⟨fuel, hf⟩ := hd
  exact h hf hw
theorem OpnW.argR {r : RTy α} {ok wk : α → Prop} {fs : Array Field} (h : OpnW P t r ok wk) (ht : P.underlying t = some (.struct fs)) (hv : Value.okWide P W q b0 t v) (hd : DataW.Trod enc P W base spare held t v d ps) (hw : lightB (d.weights P t) = true) : ∃ cs x, v = .agg cs ∧ r.rep (I0 W) cs.toList x ∧ ok x ∧ wk x := by
  obtain ⟨cs, rfl, _⟩ := okWide_struct ht hv
  obtain ⟨x, h1, h2⟩ := h.arg hd hw
  exact ⟨cs, x, rfl, h1, h2⟩
end
end Sp
namespace Sp
open Go Go.RowKit
set_option maxHeartbeats 1000000
variable {α : Type} {r : RTy α} {I : IMem} {w : World} {L : List It}
def tRaw : RTy Value where
  sz := 1
  rep _ cs x := cs = [x] ∧ x.oneCell' = true
  mono := fun _ h => h
  len := by rintro I cs x ⟨rfl, _⟩; rfl
  one := by rintro I cs x ⟨rfl, h⟩; exact (c1 h c0)
def MxR (r : RTy α) (I : IMem) (vs : List Value) (ps : List (Value × List Value)) (M : List (List α)) : Prop :=
  vs = ps.map (·.1) ∧ ps.length = M.length ∧ ∀ (i : Nat) (p : Value × List Value) (m : List α), ps[i]? = some p → M[i]? = some m → Flat r I p.2 m
theorem MxR.mono {J : IMem} {vs : List Value} {ps : List (Value × List Value)} {M : List (List α)} (h : MxR r I vs ps M) (hl : I.le J) : MxR r J vs ps M :=
  ⟨h.1, h.2.1, fun i p m h1 h2 => (h.2.2 i p m h1 h2).mono hl⟩
theorem MxR.nil (r : RTy α) (I : IMem) : MxR r I [] [] [] := ⟨rfl, rfl, fun _ _ _ h => by simp at h⟩
theorem Own.nil_fam (S : Own I w L) (T sz : Nat) : Own I w (.fam T sz [] :: L) :=
  ⟨S.cell, S.blk, S.os, S.out, S.tape, fun y hy => by
    rcases List.mem_cons.1 hy with rfl | hy
    · exact ⟨fun _ h => by simp at h, List.Pairwise.nil⟩
    · exact S.items y hy, List.pairwise_cons.2 ⟨fun _ _ _ hb => by obtain ⟨_, h, _⟩ := hb; simp at h, S.apart⟩⟩
theorem Own.famCons {v : Value} {T sz : Nat} {cs : List Value} {qs : List (Value × List Value)} (S : Own I w (.av v T sz cs :: .fam T sz qs :: L)) : Own I w (.fam T sz ((v, cs) :: qs) :: L) := by
  obtain ⟨a1, a2⟩ := List.pairwise_cons.1 S.apart
  obtain ⟨a3, a4⟩ := List.pairwise_cons.1 a2
  have k1 : avOk I w v T sz cs := S.items _ (List.mem_cons_self ..)
  have k2 : (∀ p ∈ qs, avOk I w p.1 T sz p.2) ∧ qs.Pairwise fun p q => avApart p.1 q.1 := S.items (.fam T sz qs) (by simp)
  refine ⟨S.cell, S.blk, S.os, S.out, S.tape, fun y hy => ?_, List.pairwise_cons.2 ⟨fun y hy b hb => ?_, a4⟩⟩
  · rcases List.mem_cons.1 hy with rfl | hy
    · refine ⟨fun p hp => ?_, List.pairwise_cons.2 ⟨fun q hq b hb hb2 => ?_, k2.2⟩⟩
      · rcases List.mem_cons.1 hp with rfl | hp
        · exact k1
        · exact k2.1 p hp
      · exact a1 (.fam T sz qs) (List.mem_cons_self ..) b hb ⟨q, hq, hb2⟩
    · exact S.items y (by simp [hy])
  · obtain ⟨p, hp, hb⟩ := hb
    rcases List.mem_cons.1 hp with rfl | hp
    · exact a1 y (by simp [hy]) b hb
    · exact a3 y hy b ⟨p, hp, hb⟩
theorem Own.famUncons {v : Value} {T sz : Nat} {cs : List Value} {qs : List (Value × List Value)} (S : Own I w (.fam T sz ((v, cs) :: qs) :: L)) : Own I w (.av v T sz cs :: .fam T sz qs :: L) := by
  obtain ⟨a1, a2⟩ := List.pairwise_cons.1 S.apart
  have k : (∀ p ∈ (v, cs) :: qs, avOk I w p.1 T sz p.2) ∧ ((v, cs) :: qs).Pairwise fun p q => avApart p.1 q.1 := S.items (.fam T sz ((v, cs) :: qs)) (List.mem_cons_self ..)
  obtain ⟨k1, k2⟩ := List.pairwise_cons.1 k.2
  refine ⟨S.cell, S.blk, S.os, S.out, S.tape, fun y hy => ?_, List.pairwise_cons.2 ⟨fun y hy b hb hb2 => ?_, List.pairwise_cons.2 ⟨fun y hy b hb => ?_, a2⟩⟩⟩
  · rcases List.mem_cons.1 hy with rfl | hy
    · exact k.1 (v, cs) (List.mem_cons_self ..)
    · rcases List.mem_cons.1 hy with rfl | hy
      · exact ⟨fun p hp => k.1 p (List.mem_cons_of_mem _ hp), k2⟩
      · exact S.items y (List.mem_cons_of_mem _ hy)
  · rcases List.mem_cons.1 hy with rfl | hy
    · obtain ⟨q, hq, hb2⟩ := hb2
      exact k1 q hq b hb hb2
    · exact a1 y hy b ⟨(v, cs), List.mem_cons_self .., hb⟩ hb2
  · obtain ⟨q, hq, hb⟩ := hb
    exact a1 y hy b ⟨q, List.mem_cons_of_mem _ hq, hb⟩
theorem avApart.symm {x y : Value} (h : avApart x y) : avApart y x := fun b hb hx => h b hx hb
theorem Own.famPerm {T sz : Nat} {ps qs : List (Value × List Value)} (S : Own I w (.fam T sz ps :: L)) (h : ps.Perm qs) : Own I w (.fam T sz qs :: L) := by
  obtain ⟨a1, a2⟩ := List.pairwise_cons.1 S.apart
  have k : (∀ p ∈ ps, avOk I w p.1 T sz p.2) ∧ ps.Pairwise fun p q => avApart p.1 q.1 := S.items (.fam T sz ps) (List.mem_cons_self ..)
  refine ⟨S.cell, S.blk, S.os, S.out, S.tape, fun y hy => ?_, List.pairwise_cons.2 ⟨fun y hy b hb => ?_, a2⟩⟩
  · rcases List.mem_cons.1 hy with rfl | hy
    · exact ⟨fun p hp => k.1 p (h.mem_iff.2 hp), k.2.perm h (fun h => avApart.symm h)⟩
    · exact S.items y (List.mem_cons_of_mem _ hy)
  · obtain ⟨q, hq, hb⟩ := hb
    exact a1 y hy b ⟨q, h.mem_iff.2 hq, hb⟩
theorem pick_perm {β : Type} : ∀ (l : List β) (i : Nat) (x : β), l[i]? = some x → l.Perm (x :: l.eraseIdx i)
  | [], _, _, h => by simp at h
  | y :: l, 0, x, h => by
    simp only [List.getElem?_cons_zero, Option.some.injEq] at h
    subst h; exact List.Perm.refl _
  | y :: l, i + 1, x, h => by
    simp only [List.getElem?_cons_succ] at h
    exact ((pick_perm l i x h).cons y).trans (List.Perm.swap x y _)
theorem set_perm {β : Type} : ∀ (l : List β) (i : Nat) (x y : β), l[i]? = some x → (y :: l.eraseIdx i).Perm (l.set i y)
  | [], _, _, _, h => by simp at h
  | z :: l, 0, x, y, h => by simp
  | z :: l, i + 1, x, y, h => by
    simp only [List.getElem?_cons_succ] at h
    simp only [List.eraseIdx_cons_succ, List.set_cons_succ]
    exact (List.Perm.swap z y _).trans ((set_perm l i x y h).cons z)
theorem mx_at {T sz : Nat} {vs : List Value} {ps : List (Value × List Value)} {M : List (List α)} (S : Own I w (.fam T sz ps :: L)) (hM : MxR r I vs ps M) {j : Int} {m : List α} (h : lat M j = some m) :
    ∃ v cs, lat vs j = some v ∧ ps[j.toNat]? = some (v, cs) ∧ Flat r I cs m ∧ Own I w (.av v T sz cs :: .fam T sz (ps.eraseIdx j.toNat) :: L) := by
  obtain ⟨h0, h1, h2⟩ := lat_ok h
  obtain ⟨e1, e2, e3⟩ := hM
  have hlt : j.toNat < ps.length := by omega
  have hp : ps[j.toNat]? = some (ps[j.toNat].1, ps[j.toNat].2) := List.getElem?_eq_getElem hlt
  refine ⟨ps[j.toNat].1, ps[j.toNat].2, ?_, hp, e3 _ _ _ hp h2, ?_⟩
  · unfold lat
    rw [if_pos h0, e1, List.getElem?_map, hp]
    rfl
  · exact (S.famPerm (pick_perm ps _ _ hp)).famUncons
theorem mx_back0 {T sz n : Nat} {v : Value} {cs : List Value} {ps : List (Value × List Value)} (S : Own I w (.av v T sz cs :: .fam T sz (ps.eraseIdx n) :: L)) (hp : ps[n]? = some (v, cs)) : Own I w (.fam T sz ps :: L) :=
  S.famCons.famPerm (pick_perm ps n _ hp).symm
theorem mx_back {T sz n : Nat} {v : Value} {cs cs' : List Value} {vs : List Value} {ps : List (Value × List Value)} {M : List (List α)} {m' : List α} (S : Own I w (.av v T sz cs' :: .fam T sz (ps.eraseIdx n) :: L)) (hp : ps[n]? = some (v, cs)) (hM : MxR r I vs ps M) (hf : Flat r I cs' m') :
    Own I w (.fam T sz (ps.set n (v, cs')) :: L) ∧ MxR r I vs (ps.set n (v, cs')) (M.set n m') := by
  refine ⟨S.famCons.famPerm (set_perm ps n _ _ hp), ?_, ?_, ?_⟩
  · rw [hM.1]
    apply List.ext_getElem?
    intro k
    simp only [List.getElem?_map, List.getElem?_set]
    by_cases hk : n = k
    · subst hk
      rw [if_pos rfl, hp]
      rw [if_pos (List.getElem?_eq_some_iff.1 hp).1]
      rfl
    · rw [if_neg hk]
  · simp [hM.2.1]
  · intro i p m h1 h2
    simp only [List.getElem?_set] at h1 h2
    by_cases hk : n = i
    · subst hk
      have hl := (List.getElem?_eq_some_iff.1 hp).1
      rw [if_pos rfl, if_pos hl] at h1
      rw [if_pos rfl, if_pos (by rw [← hM.2.1]; exact hl)] at h2
      obtain rfl := Option.some.inj h1
      obtain rfl := Option.some.inj h2
      exact hf
    · rw [if_neg hk] at h1 h2
      exact hM.2.2 i p m h1 h2
theorem app_raw {vs : List Value} {ps : List (Value × List Value)} {M M' : List (List α)} {m : List α} {by' : Nat} {v : Value} (hM : MxR r I vs ps M) (h : app by' M [m] = some M') : app by' vs [v] = some (vs ++ [v]) := by
  obtain ⟨h1, h2, _⟩ := app_ok h
  have hl : vs.length = M.length := by rw [hM.1, List.length_map, hM.2.1]
  unfold app
  rw [hl]
  exact if_pos ⟨h1, h2⟩
theorem mx_push {T sz by' : Nat} {v : Value} {cs : List Value} {vs : List Value} {ps : List (Value × List Value)} {M M' : List (List α)} {m : List α} (S : Own I w (.av v T sz cs :: .fam T sz ps :: L)) (hM : MxR r I vs ps M) (hf : Flat r I cs m) (h : app by' M [m] = some M') :
    Own I w (.fam T sz (ps ++ [(v, cs)]) :: L) ∧ MxR r I (vs ++ [v]) (ps ++ [(v, cs)]) M' := by
  obtain ⟨_, _, rfl⟩ := app_ok h
  refine ⟨S.famCons.famPerm (List.perm_append_singleton _ _).symm, ?_, ?_, ?_⟩
  · rw [hM.1]; simp
  · simp [hM.2.1]
  · intro i p m' h1 h2
    have hl := hM.2.1
    by_cases hi : i < ps.length
    · rw [List.getElem?_append_left hi] at h1
      rw [List.getElem?_append_left (by omega)] at h2
      exact hM.2.2 i p m' h1 h2
    · rw [List.getElem?_append_right (by omega)] at h1 h2
      by_cases h0 : i - ps.length = 0
      · rw [h0] at h1
        rw [show i - M.length = 0 by omega] at h2
        simp only [List.getElem?_cons_zero, Option.some.injEq] at h1 h2
        subst h1 h2
        exact hf
      · rw [List.getElem?_eq_none (by simp; omega)] at h1
        cases h1
theorem fam_freeze {T sz : Nat} (hr : r.sz = sz) (hs : Nat.blt 0 sz = true) : ∀ (ps : List (Value × List Value)) (M : List (List α)) (I : IMem) (L : List It), Own I w (.fam T sz ps :: L) → ps.length = M.length → (∀ (i : Nat) (p : Value × List Value) (m : List α), ps[i]? = some p → M[i]? = some m → Flat r I p.2 m) →
    ∃ J, I.le J ∧ Own J w L ∧ ∀ (i : Nat) (p : Value × List Value) (m : List α), ps[i]? = some p → M[i]? = some m → SlR r J p.1 m
  | [], M, I, L, S, hl, h => ⟨I, ilr I, S.drop, fun i p m h1 _ => by simp at h1⟩
  | (v, cs) :: qs, [], I, L, S, hl, h => by simp at hl
  | (v, cs) :: qs, m :: M, I, L, S, hl, h => by
    have S1 := S.famUncons
    obtain ⟨J, hJ, S2, hv⟩ := S1.freeze (r := r) (l := m) 0 rfl (h 0 _ _ rfl rfl) hr hs
    have S3 : Own J w (.fam T sz qs :: L) := Own.drop S2
    obtain ⟨K, hK, S4, hall⟩ := fam_freeze hr hs qs M J L S3 (by simpa using hl) (fun i p m' h1 h2 => (h (i + 1) p m' (by simpa using h1) (by simpa using h2)).mono hJ)
    refine ⟨K, hJ.trans hK, S4, fun i p m' h1 h2 => ?_⟩
    cases i with
    | zero =>
      simp only [List.getElem?_cons_zero, Option.some.injEq] at h1 h2
      subst h1 h2
      exact hv.mono hK
    | succ i =>
      simp only [List.getElem?_cons_succ] at h1 h2
      exact hall i p m' h1 h2
theorem flat_rows {J : IMem} : ∀ (vs : List Value) (cs : List Value) (M : List (List α)), Flat tRaw J cs vs → vs.length = M.length → (∀ (i : Nat) (v : Value) (m : List α), vs[i]? = some v → M[i]? = some m → SlR r J v m) → Flat (tSlice r) J cs M
  | [], cs, [], h, _, _ => h
  | [], _, _ :: _, _, h, _ => by simp at h
  | _ :: _, _, [], _, h, _ => by simp at h
  | v :: vs, cs, m :: M, ⟨c, cs', e, ⟨h1, _⟩, h2⟩, hl, h =>
    ⟨c, cs', e, ⟨v, h1, h 0 v m rfl rfl⟩, flat_rows vs cs' M h2 (by simpa using hl) fun i v' m' a b => h (i + 1) v' m' (by simpa using a) (by simpa using b)⟩
theorem Own.freezeM {v : Value} {T T2 sz : Nat} {cs vs : List Value} {ps : List (Value × List Value)} {M : List (List α)} (S : Own I w (.av v T 1 cs :: .fam T2 sz ps :: L)) (hf : Flat tRaw I cs vs) (hM : MxR r I vs ps M) (hr : r.sz = sz) (hs : Nat.blt 0 sz = true) :
    ∃ J, I.le J ∧ Own J w (.tv v T 1 :: L) ∧ SlR (tSlice r) J v M := by
  have S0 : Own I w (.fam T2 sz ps :: .av v T 1 cs :: L) := S.perm (List.Perm.swap _ _ _)
  obtain ⟨J, hJ, S1, h1⟩ := fam_freeze hr hs ps M I _ S0 hM.2.1 hM.2.2
  have hfl : Flat (tSlice r) J cs M := flat_rows vs cs M (hf.mono hJ) (by rw [hM.1, List.length_map, hM.2.1]) fun i v m a b => by
    rw [hM.1, List.getElem?_map] at a
    obtain ⟨p, hp, rfl⟩ := Option.map_eq_some_iff.1 a
    exact h1 i p m hp b
  obtain ⟨K, hK, S2, h2⟩ := S1.freeze (r := tSlice r) (l := M) 0 rfl hfl rfl rfl
  exact ⟨K, hJ.trans hK, S2, h2⟩
section
variable {P : Program} {σ : Env} {d : Option Nat} {ty : TypeId} {pos : String} {af : Array Edge} {g : Option (Nat × Bool)}
theorem x_lenM {t e by' : Nat} (ht : tSl P t = some (e, 1, by')) {x : Operand} {vs : List Value} {ps : List (Value × List Value)} {M : List (List α)} {cs : List Value} (S : Own I w L) (i : Nat) (hi : L[i]? = some (.av (ev σ x) e 1 cs)) (hf : Flat tRaw I cs vs) (hM : MxR r I vs ps M) :
    (execOp (ev σ) ⟨d, .call ⟨.builtin .len, #[x], #[t]⟩, ty, pos, af, g⟩).run P w = .ok (.value (.int .i64 M.length)) w := by
  have hl : vs.length = M.length := by rw [hM.1, List.length_map, hM.2.1]
  rw [← hl]
  exact x_lenV (r := tRaw) ht rfl rfl S i hi hf
end
end Sp
namespace Sp
open Go Go.RowKit
abbrev pt (b : Nat) (o : Nat := 0) : Value := .pointer (some ⟨b, o, none⟩)
def at2 (n : Nat) (A : Array Oper) (i : Nat) (σ : Env) : Option Oper :=
  match at? n A i with
  | some o => bif gOK A σ o.guard then some o else none
  | none => none
def mvAt (n : Nat) (A : Array Oper) (i : Nat) (σ : Env) : Option (Option Nat × Value) :=
  match at2 n A i σ with
  | some ⟨d, .move x, _, _, _, _⟩ => some (d, ev σ x)
  | some ⟨d, .assign x, _, _, _, _⟩ => some (d, ev σ x)
  | _ => none
def qc (A : Array Oper) (l : Array Bool) (i : Nat) : Bool := Region.noSelect A && (Region.free .any A l i && (Region.ready .any A l).contains i)
section
variable {P : Program} {n : Nat} {A : Array Oper} {i : Nat} {K : Env → World → Prop} {σ : Env} {w : World} {Q : Post}
theorem at2_spec {o : Oper} (h : at2 n A i σ = some o) : at? n A i = some o ∧ gOK A σ o.guard = true := by
  unfold at2 at h
  split at h
  · rename_i o' ho
    cases hb : gOK A σ o'.guard with
    | true => rw [hb] at h; simp only [cond_true, Option.some.injEq] at h; subst h; exact ⟨ho, hb⟩
    | false => rw [hb] at h; cases h
  · cases h
theorem mvAt_spec {d : Option Nat} {v : Value} (h : mvAt n A i σ = some (d, v)) : ∃ o, at? n A i = some o ∧ gOK A σ o.guard = true ∧ o.dst = d ∧ ∀ w, (execOp (ev σ) o).run P w = .ok (.value v) w := by
  unfold mvAt at h
  split at h
  · rename_i x _ _ _ _ ho
    obtain ⟨h1, h2⟩ := at2_spec ho
    simp only [Option.some.injEq, Prod.mk.injEq] at h
    obtain ⟨rfl, rfl⟩ := h
    exact ⟨_, h1, h2, rfl, fun w => x_mov x⟩
  · rename_i x _ _ _ _ ho
    obtain ⟨h1, h2⟩ := at2_spec ho
    simp only [Option.some.injEq, Prod.mk.injEq] at h
    obtain ⟨rfl, rfl⟩ := h
    exact ⟨_, h1, h2, rfl, fun w => x_asg x⟩
  · cases h
theorem g {o : Oper} (ho : at2 n A i σ = some o) (h : OW P o K σ w) : OK P n A i K σ w := OK.go (at2_spec ho).1 (at2_spec ho).2 h
theorem u {o : Oper} {x : Value} {w' : World} (ho : at2 n A i σ = some o) (hx : (execOp (ev σ) o).run P w = .ok (.value x) w') (h : K (σ.put o.dst x) w') : OK P n A i K σ w := g ho (OW.val hx h)
theorem mv {d : Option Nat} (v : Value) (ho : mvAt n A i σ = some (d, v)) (h : K (σ.put d v) w) : OK P n A i K σ w := by
  obtain ⟨o, h1, h2, rfl, h3⟩ := mvAt_spec (P := P) ho
  exact OK.go h1 h2 (OW.val (h3 w) h)
theorem gu {j t : Nat} {b x : Bool} {d : Option Nat} {op : Op} {ty : TypeId} {pos : String} {af : Array Edge} {v : Value} {w' : World}
    (ho : at? n A i = some ⟨d, op, ty, pos, af, some (j, b)⟩) (ht : (A[j]?).bind (·.dst) = some t) (hx : σ t = .bool x) (hb : x = b)
    (hv : (execOp (ev σ) ⟨d, op, ty, pos, af, some (j, b)⟩).run P w = .ok (.value v) w') (h : K (σ.put d v) w') : OK P n A i K σ w := OK.gt ho ht hx hb (OW.val hv h)
theorem gn {j t : Nat} {b x : Bool} {d : Option Nat} {op : Op} {ty : TypeId} {pos : String} {af : Array Edge}
    (ho : at? n A i = some ⟨d, op, ty, pos, af, some (j, b)⟩) (ht : (A[j]?).bind (·.dst) = some t) (hx : σ t = .bool x) (hb : x = !b)
    (h : K (σ.put d undef) w) : OK P n A i K σ w := OK.gf ho ht hx hb h
theorem sq {x y : Code} (h : FW P n x (thenQ (FW P n y Q) Q) σ w) : FW P n (.seq x y) Q σ w := FW.seq h
theorem rg {id : Nat} (h : SQ P n A (List.range A.size) (Q .normal) σ w) : FW P n (.region id A false) Q σ w := FW.region h
theorem sr {id : Nat} {y : Code} (h : SQ P n A (List.range A.size) (FW P n y Q) σ w) : FW P n (.seq (.region id A false) y) Q σ w := FW.seq (FW.region h)
theorem sk (h : Q .normal σ w) : FW P n .skip Q σ w := FW.skip h
theorem bk {id : Nat} {c : Code} (h : FW P n c (inBlockQ id Q) σ w) : FW P n (.block id c) Q σ w := FW.block h
theorem rt (h : Q .ret σ w) : FW P n .ret Q σ w := FW.ret h
theorem ex {id : Nat} (h : Q (.exit id) σ w) : FW P n (.exit id) Q σ w := FW.exit h
theorem cT {c : Operand} {x y : Code} {b : Bool} (hc : ev σ c = .bool b) (hb : b = true) (h : FW P n x Q σ w) : FW P n (.cond c x y) Q σ w := FW.condT hc hb h
theorem cF {c : Operand} {x y : Code} {b : Bool} (hc : ev σ c = .bool b) (hb : b = false) (h : FW P n y Q σ w) : FW P n (.cond c x y) Q σ w := FW.condF hc hb h
theorem qc_spec {l : Array Bool} (h : qc A l i = true) : Region.noSelect A = true ∧ Region.free .any A l i = true ∧ (Region.ready .any A l).contains i = true := by
  unfold qc at h
  simp only [Bool.and_eq_true] at h
  exact h
theorem ap {fuel : Nat} {O : Obl} {l : Array Bool} (i : Nat) {o : Oper} {v : Value} (ho : at2 n A i σ = some o) (hc : qc A l i = true) (hO : Hold O w) (hx : ∀ w, (execOp (ev σ) o).run P w = .ok (.value v) w)
    (h : AQ P n A K fuel O (l.setIfInBounds i true) (σ.put o.dst v) w) : AQ P n A K (fuel + 1) O l σ w :=
  AQ.pure i (at2_spec ho).1 (qc_spec hc).1 (qc_spec hc).2.1 (qc_spec hc).2.2 (at2_spec ho).2 hO hx h
theorem am {fuel : Nat} {O : Obl} {l : Array Bool} (i : Nat) {d : Option Nat} (v : Value) (ho : mvAt n A i σ = some (d, v)) (hc : qc A l i = true) (hO : Hold O w)
    (h : AQ P n A K fuel O (l.setIfInBounds i true) (σ.put d v) w) : AQ P n A K (fuel + 1) O l σ w := by
  obtain ⟨o, h1, h2, rfl, h3⟩ := mvAt_spec (P := P) ho
  exact AQ.pure i h1 (qc_spec hc).1 (qc_spec hc).2.1 (qc_spec hc).2.2 h2 hO h3 h
theorem ak {fuel : Nat} {O : Obl} {l : Array Bool} (S : World → Prop) (i : Nat) {o : Oper} {v : Value} (ho : at2 n A i σ = some o) (hc : qc A l i = true) (hO : Hold O w) (hS : S w)
    (hx : ∀ w, S w → (execOp (ev σ) o).run P w = .ok (.value v) w) (h : Hold ((i, S) :: O) w → AQ P n A K fuel ((i, S) :: O) (l.setIfInBounds i true) (σ.put o.dst v) w) : AQ P n A K (fuel + 1) O l σ w :=
  AQ.take i (at2_spec ho).1 (qc_spec hc).1 (qc_spec hc).2.1 (qc_spec hc).2.2 (at2_spec ho).2 hO hS hx h
end
theorem si {α : Type} {a b : α} (h : some a = some b) : a = b := Option.some.inj h
end Sp
