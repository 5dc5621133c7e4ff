/-
  NUMBERS AS DIGITS, AND BACK: octet.Text and octet.Int on what the pattern's reader hands them.
-/
import Derived.Test.YtkkflfmonidepaaDoorP1
namespace Go.Proofs.YtkkflfmonidepaaDoor
open Sp
set_option maxRecDepth 100000
set_option maxHeartbeats 4000000

abbrev B (l : List UInt8) : ByteArray := ⟨l.toArray⟩
def dec (n : Nat) : List UInt8 := if n < 10 then [UInt8.ofNat (48 + n)] else dec (n / 10) ++ [UInt8.ofNat (48 + n % 10)]
termination_by n
decreasing_by omega
def ints (l : List UInt8) : List Int := l.map fun c => (c.toNat : Int)

theorem ofB_go : ∀ (l : List UInt8) (a : ByteArray), (ints l).foldl (fun r n => r.push (UInt8.ofNat n.toNat)) a = ⟨a.data ++ l.toArray⟩
  | [], a => by simp [ints]
  | c :: l, a => by
    simp only [ints, List.map_cons, List.foldl_cons]
    have h := ofB_go l (a.push (UInt8.ofNat ((c.toNat : Int)).toNat))
    rw [ints] at h
    rw [h]
    have hc : UInt8.ofNat ((c.toNat : Int)).toNat = c := by simp
    rw [hc]
    congr 1
    simp [ByteArray.push]
theorem ofB_ints (l : List UInt8) : ofB (ints l) = B l := by
  unfold ofB
  rw [ofB_go]
  congr 1
  show #[] ++ l.toArray = l.toArray
  simp

theorem dec_len : ∀ (m n : Nat), n < 10 ^ (m + 1) → (dec n).length ≤ m + 1
  | 0, n, h => by
    rw [dec, if_pos (by simpa using h)]
    simp
  | m + 1, n, h => by
    rw [dec]
    split
    · simp
    · have := dec_len m (n / 10) (by rw [Nat.pow_succ] at h; omega)
      simp; omega
theorem dec_pos (n : Nat) : 0 < (dec n).length := by
  rw [dec]; split <;> simp
theorem digs_at : ∀ d : Nat, d < 10 → lat digs (d : Int) = some (48 + d : Int) := by
  have h : ∀ d : Fin 10, lat digs ((d.val : Nat) : Int) = some (48 + (d.val : Nat) : Int) := by decide
  intro d hd
  exact h ⟨d, hd⟩
theorem u8_dig (d : Nat) (h : d < 10) : ((UInt8.ofNat (48 + d)).toNat : Int) = 48 + d := by
  rw [UInt8.toNat_ofNat']
  omega

theorem u64_id {n : Int} (h0 : 0 ≤ n) (h1 : n < 18446744073709551616) : u64 n = n := by
  unfold u64 Go.IntKind.wrap
  simp only [Go.IntKind.signed, Go.IntKind.bits]
  simp
  omega

theorem text_l0 : ∀ (k n i : Nat) (l : List Int), (dec n).length < k → n < 9223372036854775808 → l.length = 20 → (dec n).length ≤ i → i ≤ 20 →
    ∃ l', octet_Text.l0 k (n : Int) (i : Int) l = some (((i - (dec n).length : Nat) : Int), l') ∧ l'.length = 20 ∧ l'.drop (i - (dec n).length) = ints (dec n) ++ l.drop i
  | 0, _, _, _, h, _, _, _, _ => by omega
  | k + 1, n, i, l, hk, hn, hl, hd, hi => by
    rw [octet_Text.l0]
    have hp := dec_pos n
    have hm : ((n : Int).tmod 10) = ((n % 10 : Nat) : Int) := rfl
    have hq : ((n : Int).tdiv 10) = ((n / 10 : Nat) : Int) := rfl
    rw [hm, hq, digs_at (n % 10) (Nat.mod_lt n (by decide))]
    simp only [Option.bind_some]
    rw [i64_id (by omega) (by omega), show (i : Int) - 1 = ((i - 1 : Nat) : Int) by omega, lat_nat, List.getElem?_eq_getElem (by omega)]
    simp only [Option.bind_some]
    rw [u64_id (by omega) (by omega), Int.toNat_natCast]
    have hset : (l.set (i - 1) (48 + ((n % 10 : Nat) : Int))).drop (i - 1) = (48 + ((n % 10 : Nat) : Int)) :: l.drop i := by
      rw [List.drop_set, if_neg (by omega), Nat.sub_self, List.drop_eq_getElem_cons (show i - 1 < l.length by omega), List.set_cons_zero, show i - 1 + 1 = i by omega]
    by_cases hz : n / 10 = 0
    · rw [if_pos (by omega)]
      have hdec : dec n = [UInt8.ofNat (48 + n)] := by rw [dec, if_pos (by omega)]
      refine ⟨l.set (i - 1) (48 + ((n % 10 : Nat) : Int)), ?_, ?_, ?_⟩
      · rw [hdec]; rfl
      · rw [List.length_set]; exact hl
      · rw [hdec]
        simp only [List.length_singleton]
        rw [hset, show n % 10 = n by omega]
        simp only [ints, List.map_cons, List.map_nil, List.singleton_append]
        rw [u8_dig n (by omega)]
    · rw [if_neg (by omega)]
      have hdec : dec n = dec (n / 10) ++ [UInt8.ofNat (48 + n % 10)] := by rw [dec, if_neg (by omega)]
      have hlen : (dec n).length = (dec (n / 10)).length + 1 := by rw [hdec]; simp
      obtain ⟨l', e, h1, h2⟩ := text_l0 k (n / 10) (i - 1) (l.set (i - 1) (48 + ((n % 10 : Nat) : Int))) (by omega) (by omega) (by rw [List.length_set]; exact hl) (by omega) (by omega)
      refine ⟨l', ?_, h1, ?_⟩
      · rw [e, hlen]
        congr 3
        omega
      · rw [hlen, show i - ((dec (n / 10)).length + 1) = i - 1 - (dec (n / 10)).length by omega, h2, hset, hdec]
        simp only [ints, List.map_append, List.map_cons, List.map_nil, List.append_assoc, List.singleton_append]
        rw [u8_dig (n % 10) (Nat.mod_lt n (by decide))]

theorem text_ok {k n : Nat} (hk : 20 < k) (hn : n < 9223372036854775808) : octet_Text.f k (n : Int) = some (B (dec n)) := by
  have hd := dec_len 18 n (by omega)
  obtain ⟨l', e, h1, h2⟩ := text_l0 k n 20 [0, 0, 0, 0, 0, 0, 0, 0, 0, 0, 0, 0, 0, 0, 0, 0, 0, 0, 0, 0] (by omega) hn rfl (by omega) (Nat.le_refl _)
  rw [octet_Text.f, if_neg (by omega), u64_id (by omega) (by omega)]
  simp only [Option.bind_some]
  rw [show (20 : Int) = ((20 : Nat) : Int) from rfl, e]
  simp only [Option.bind_some]
  rw [if_neg (by omega)]
  have hc : cutL l' ((20 - (dec n).length : Nat) : Int) = some (ints (dec n)) := by
    unfold cutL
    rw [if_pos ⟨by omega, by omega⟩, Int.toNat_natCast, h2]
    simp
  rw [hc]
  simp only [Option.bind_some, ofB_ints]

/-! ### Back -/

theorem value_l0 (d : Nat) (hd : d < 10) : ∀ (k j : Nat), j ≤ d → 16 < k + j → octet_value.l0 k ((48 + d : Nat) : Int) (j : Int) = some (.inl (d : Int))
  | 0, j, hj, hk => by omega
  | k + 1, j, hj, hk => by
    rw [octet_value.l0, if_pos (by omega), digs_at j (by omega)]
    simp only [Option.bind_some]
    by_cases e : j = d
    · subst e
      rw [if_pos (by omega)]
      have : u8 (j : Int) = (j : Int) := by
        unfold u8 Go.IntKind.wrap
        simp only [Go.IntKind.signed, Go.IntKind.bits]
        simp
        omega
      rw [this]
    · rw [if_neg (by omega), i64_id (by omega) (by omega), show (j : Int) + 1 = ((j + 1 : Nat) : Int) by omega]
      exact value_l0 d hd k (j + 1) (by omega) (by omega)
theorem value_ok {k d : Nat} (hk : 16 < k) (hd : d < 10) : octet_value.f k ((48 + d : Nat) : Int) = some (d : Int) := by
  rw [octet_value.f]
  have h := value_l0 d hd k 0 (Nat.zero_le _) (by omega)
  rw [show ((0 : Nat) : Int) = 0 from rfl] at h
  rw [h]; rfl

def dig (c : UInt8) : Prop := 48 ≤ c.toNat ∧ c.toNat ≤ 57
def nv (a : Nat) (l : List UInt8) : Nat := l.foldl (fun a c => 10 * a + (c.toNat - 48)) a
theorem nv_le : ∀ (l : List UInt8) (a : Nat), a ≤ nv a l
  | [], a => Nat.le_refl _
  | c :: l, a => by
    have := nv_le l (10 * a + (c.toNat - 48))
    simp only [nv, List.foldl_cons] at this ⊢
    omega
theorem nv_dec (n : Nat) : nv 0 (dec n) = n := by
  induction n using Nat.strongRecOn with
  | ind n ih =>
    rw [dec]
    split
    · rename_i h
      simp only [nv, List.foldl_cons, List.foldl_nil]
      have := u8_dig n h
      omega
    · have h1 := ih (n / 10) (by omega)
      unfold nv at h1 ⊢
      rw [List.foldl_append, h1]
      simp only [List.foldl_cons, List.foldl_nil]
      have := u8_dig (n % 10) (Nat.mod_lt n (by decide))
      omega
theorem dec_dig (n : Nat) : ∀ c ∈ dec n, dig c := by
  induction n using Nat.strongRecOn with
  | ind n ih =>
    rw [dec]
    split
    · rename_i h
      intro c hc
      rw [List.mem_singleton] at hc; subst hc
      have := u8_dig n h
      unfold dig; omega
    · intro c hc
      rcases List.mem_append.1 hc with hc | hc
      · exact ih (n / 10) (by omega) c hc
      · rw [List.mem_singleton] at hc; subst hc
        have := u8_dig (n % 10) (Nat.mod_lt n (by decide))
        unfold dig; omega

theorem sat_B (l : List UInt8) (i : Nat) : sat (B l) (i : Int) = (l[i]?).map fun c => (c.toNat : Int) := by
  unfold sat
  rw [if_pos (by omega), Int.toNat_natCast]
  congr 1
  by_cases h : i < l.length
  · have h' : i < (B l).size := by simp [B, ByteArray.size, h]
    rw [getElem?_pos (B l) i h', List.getElem?_eq_getElem h]
    rfl
  · have h' : ¬ i < (B l).size := by simp [B, ByteArray.size]; omega
    rw [getElem?_neg (B l) i h', List.getElem?_eq_none (by omega)]

theorem int_l0 (l : List UInt8) (hd : ∀ c ∈ l, dig c) (hl : l.length ≤ 1000000) : ∀ (k a i : Nat), i ≤ l.length → l.length + 20 < k + i → a ≤ 42949672959 →
    (nv a (l.drop i) ≤ 4294967295 → octet_Int.l0 k (B l) (a : Int) (i : Int) = some (.inr ((nv a (l.drop i) : Nat) : Int))) ∧
    (octet_Int.l0 k (B l) (a : Int) (i : Int) = some (.inl (0, false)) ∨ ∃ m : Nat, m ≤ 42949672959 ∧ octet_Int.l0 k (B l) (a : Int) (i : Int) = some (.inr (m : Int)))
  | 0, _, _, h, h2, _ => by omega
  | k + 1, a, i, hi, hk, ha => by
    rw [octet_Int.l0]
    have hsz : (B l).size = l.length := by simp [B, ByteArray.size]
    rw [hsz]
    by_cases hlt : i < l.length
    · rw [if_pos (by omega), sat_B, List.getElem?_eq_getElem hlt]
      simp only [Option.map_some, Option.bind_some]
      obtain ⟨d1, d2⟩ := hd l[i] (List.getElem_mem hlt)
      rw [show ((l[i].toNat : Nat) : Int) = ((48 + (l[i].toNat - 48) : Nat) : Int) by omega, value_ok (by omega) (by omega)]
      simp only [Option.bind_some]
      rw [if_neg (by omega)]
      have hdr : l.drop i = l[i] :: l.drop (i + 1) := List.drop_eq_getElem_cons hlt
      have hnv : nv a (l.drop i) = nv (10 * a + (l[i].toNat - 48)) (l.drop (i + 1)) := by rw [hdr]; rfl
      rw [hnv]
      have hle := nv_le (l.drop (i + 1)) (10 * a + (l[i].toNat - 48))
      by_cases hbig : (a : Int) > 4294967295
      · rw [if_pos hbig]
        exact ⟨fun h => by omega, .inl rfl⟩
      · rw [if_neg hbig]
        rw [i64_id (n := 10 * (a : Int)) (by omega) (by omega), i64_id (n := (((l[i].toNat - 48 : Nat)) : Int)) (by omega) (by omega), i64_id (by omega) (by omega), i64_id (by omega) (by omega)]
        rw [show 10 * (a : Int) + ((l[i].toNat - 48 : Nat) : Int) = ((10 * a + (l[i].toNat - 48) : Nat) : Int) by omega, show (i : Int) + 1 = ((i + 1 : Nat) : Int) by omega]
        exact int_l0 l hd hl k (10 * a + (l[i].toNat - 48)) (i + 1) (by omega) (by omega) (by omega)
    · rw [if_neg (by omega)]
      have hdr : l.drop i = [] := List.drop_eq_nil_of_le (by omega)
      rw [hdr]
      exact ⟨fun _ => rfl, .inr ⟨a, ha, rfl⟩⟩

theorem B_inj {a b : List UInt8} (h : B a = B b) : a = b := by
  have := congrArg ByteArray.data h
  simpa [B] using this

/-- Of digits: a number of 32 bits whose digits they are; or none. -/
theorem int_ok {k : Nat} {l : List UInt8} (hd : ∀ c ∈ l, dig c) (hne : l ≠ []) (hl : l.length ≤ 1000000) (hk : l.length + 30 < k) :
    ∃ n ok, octet_Int.f k (B l) = some (n, ok) ∧ (ok = true → ∃ m : Nat, n = m ∧ m ≤ 4294967295 ∧ l = dec m) := by
  obtain ⟨_, h⟩ := int_l0 l hd hl k 0 0 (Nat.zero_le _) (by omega) (by omega)
  rw [octet_Int.f]
  rw [show ((0 : Nat) : Int) = 0 from rfl] at h
  rcases h with h | ⟨m, hm, h⟩
  · rw [h]
    exact ⟨0, false, rfl, fun h => by cases h⟩
  · rw [h]
    simp only [Option.bind_some]
    have hne' : ¬ B l = ⟨#[]⟩ := fun e => hne (B_inj (b := []) e)
    rw [if_neg hne']
    by_cases hbig : (m : Int) > 4294967295
    · rw [if_pos hbig]
      exact ⟨0, false, rfl, fun h => by cases h⟩
    · rw [if_neg hbig, text_ok (by omega) (by omega)]
      simp only [Option.bind_some]
      by_cases he : B (dec m) = B l
      · rw [if_pos he]
        exact ⟨m, true, rfl, fun _ => ⟨m, rfl, by omega, (B_inj he).symm⟩⟩
      · rw [if_neg he]
        exact ⟨0, false, rfl, fun h => by cases h⟩
theorem int_dec {k n : Nat} (hn : n ≤ 4294967295) (hk : 100 < k) : octet_Int.f k (B (dec n)) = some ((n : Int), true) := by
  have hlen := dec_len 18 n (by omega)
  have hp := dec_pos n
  obtain ⟨h, _⟩ := int_l0 (dec n) (dec_dig n) (by omega) k 0 0 (Nat.zero_le _) (by omega) (by omega)
  rw [List.drop_zero, nv_dec] at h
  rw [octet_Int.f]
  rw [show ((0 : Nat) : Int) = 0 from rfl] at h
  rw [h hn]
  simp only [Option.bind_some]
  have hne' : ¬ B (dec n) = ⟨#[]⟩ := fun e => by
    have := B_inj (b := []) e
    rw [this] at hp
    exact absurd hp (by decide)
  rw [if_neg hne', if_neg (by omega), text_ok (by omega) (by omega)]
  simp
end Go.Proofs.YtkkflfmonidepaaDoor
