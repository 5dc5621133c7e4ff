/-
  THE SIGNS OF A TEXT: what regex.signs gives is what is read off its bytes one by one.
-/
import Derived.Test.YtkkflfmonidepaaDoorP6
namespace Go.Proofs.YtkkflfmonidepaaDoor
open Sp
set_option maxRecDepth 100000
set_option maxHeartbeats 4000000

def punctI (r : Int) : Bool := r == 124 || r == 40 || r == 41 || r == 91 || r == 93 || r == 94 || r == 36 || r == 46 || r == 42 || r == 43 || r == 63 || r == 45 || r == 44
def numOf (l : List UInt8) : Option Nat := if nv 0 l ≤ 4294967295 ∧ dec (nv 0 l) = l then some (nv 0 l) else none
def flushS (pend : List UInt8) (acc : List T_regex_sign) : Option (List T_regex_sign) :=
  if pend = [] then some acc else (numOf pend).map fun m => acc ++ [⟨0, (m : Int), true⟩]
def lexS : List UInt8 → List UInt8 → List T_regex_sign → Option (List T_regex_sign)
  | [], pend, acc => flushS pend acc
  | c :: r, pend, acc =>
    if 48 ≤ c.toNat ∧ c.toNat ≤ 57 then lexS r (pend ++ [c]) acc
    else (flushS pend acc).bind fun acc' =>
      if c.toNat = 32 ∨ c.toNat = 95 then lexS r [] (acc' ++ [⟨32, 0, false⟩])
      else if punctI c.toNat then lexS r [] (acc' ++ [⟨(c.toNat : Int), 0, false⟩])
      else none

theorem B_size (l : List UInt8) : (B l).size = l.length := by simp [B, ByteArray.size]
theorem B_get (l : List UInt8) (p : Nat) (h : p < l.length) : (B l).get! p = l[p] := by
  have h' : p < (B l).size := by rw [B_size]; exact h
  show (B l).data[p]! = _
  simp [B, h]
theorem rune_low (l : List UInt8) (p : Nat) (h : p < l.length) (hc : l[p].toNat < 128) : runeAt (B l) p = (l[p].toNat : Int) ∧ runeW (B l) p = 1 := by
  unfold runeAt runeW Go.Utf8.decode
  simp only [Nat.add_zero, B_get l p h]
  rw [if_pos hc]
  exact ⟨rfl, rfl⟩
theorem rune_high (l : List UInt8) (p : Nat) (h : p < l.length) (hc : ¬ l[p].toNat < 128) : 128 ≤ runeAt (B l) p := by
  unfold runeAt Go.Utf8.decode
  simp only [Nat.add_zero, B_get l p h]
  rw [if_neg hc]
  split
  · split
    · rename_i hx
      show (128 : Int) ≤ ((_ : Nat) : Int)
      exact Int.ofNat_le.2 hx
    · simp [Go.Utf8.runeError]
  · split
    · split
      · rename_i hx
        simp only [Bool.and_eq_true, decide_eq_true_eq] at hx
        have h1 := hx.1
        show (128 : Int) ≤ ((_ : Nat) : Int)
        exact Int.ofNat_le.2 (Nat.le_trans (by decide) h1)
      · simp [Go.Utf8.runeError]
    · split
      · split
        · rename_i hx
          simp only [Bool.and_eq_true, decide_eq_true_eq] at hx
          have h1 := hx.1
          show (128 : Int) ≤ ((_ : Nat) : Int)
          exact Int.ofNat_le.2 (Nat.le_trans (by decide) h1)
        · simp [Go.Utf8.runeError]
      · simp [Go.Utf8.runeError]

theorem B_extract (l : List UInt8) (a b : Nat) : (B l).extract a b = B ((l.take b).drop a) := by
  apply ByteArray.ext
  rw [ByteArray.data_extract]
  simp [B, List.drop_take]

theorem u32_id {n : Int} (h0 : 0 ≤ n) (h1 : n < 4294967296) : u32 n = n := by
  unfold u32 Go.IntKind.wrap
  simp only [Go.IntKind.signed, Go.IntKind.bits]
  simp
  omega

def from_ (p : Nat) (pend : List UInt8) : Int := if pend = [] then -1 else ((p - pend.length : Nat) : Int)

theorem flush_eq {k : Nat} {l pend : List UInt8} {acc : List T_regex_sign} {p : Nat} (hp : p ≤ l.length) (hl : l.length ≤ 100000) (hpe : (l.take p).drop (p - pend.length) = pend) (hlen : pend.length ≤ p) (hd : ∀ c ∈ pend, dig c) (hk : 200000 ≤ k) (ha : acc.length ≤ 1000000) :
    ∃ ok acc', regex_signs_1.f k (p : Int) (from_ p pend) (B l) acc = some (ok, -1, acc') ∧ (ok = true → flushS pend acc = some acc') ∧ (ok = false → flushS pend acc = none) := by
  rw [regex_signs_1.f]
  by_cases h0 : pend = []
  · subst h0
    rw [if_pos (by simp [from_])]
    exact ⟨true, acc, by simp [from_], fun _ => by simp [flushS], fun h => by cases h⟩
  · have hf : from_ p pend = ((p - pend.length : Nat) : Int) := by simp [from_, h0]
    rw [hf, if_neg (by omega)]
    have hs : scutLR (B l) ((p - pend.length : Nat) : Int) (p : Int) = some (B pend) := by
      unfold scutLR
      rw [if_pos ⟨by omega, by omega, by rw [B_size]; omega⟩, Int.toNat_natCast, Int.toNat_natCast, B_extract, hpe]
    rw [hs]
    simp only [Option.bind_some]
    obtain ⟨n, ok, e, h1⟩ := int_ok (k := k) hd h0 (by omega) (by omega)
    rw [e]
    simp only [Option.bind_some]
    have hap : Sp.app 12 acc [⟨0, u32 n, true⟩] = some (acc ++ [⟨0, u32 n, true⟩]) := app_small (by simp; omega) (by decide)
    rw [hap]
    refine ⟨ok, _, rfl, fun hok => ?_, fun hok => ?_⟩
    · obtain ⟨m, rfl, hm, rfl⟩ := h1 hok
      rw [u32_id (by omega) (by omega)]
      simp only [flushS, if_neg h0, numOf, nv_dec]
      simp [hm]
    · simp only [flushS, if_neg h0, numOf]
      rw [if_neg]
      · rfl
      · rintro ⟨hm, hdec⟩
        have := int_dec (k := k) hm (by omega)
        rw [hdec, e] at this
        rw [hok] at this
        cases this

/-- What becomes of the loop's end. -/
def fin (K : Nat) (x : ByteArray) (o : Option (Sum ((List T_regex_sign) × Bool) (Nat × Int × (List T_regex_sign)))) : Option ((List T_regex_sign) × Bool) :=
  o.bind fun o => match o with | .inl r => some r | .inr (_, n19, l20) => ((regex_signs_1.f K (x.size : Int) n19 x l20).bind fun y367 => (some (y367.2.2, y367.1)))

def LexOk (l pend : List UInt8) (p : Nat) (acc : List T_regex_sign) (o : Option ((List T_regex_sign) × Bool)) : Prop :=
  ∃ sg ok, o = some (sg, ok) ∧ (ok = true → lexS (l.drop p) pend acc = some sg) ∧ (ok = false → lexS (l.drop p) pend acc = none)

theorem signs_l0 (K : Nat) (hK : 200000 ≤ K) (l : List UInt8) (hl : l.length ≤ 100000) : ∀ (k p : Nat) (pend : List UInt8) (acc : List T_regex_sign), p ≤ l.length → 200000 + l.length < k + p →
    (l.take p).drop (p - pend.length) = pend → pend.length ≤ p → (∀ c ∈ pend, dig c) → acc.length + pend.length ≤ p →
    LexOk l pend p acc (fin K (B l) (regex_signs.l0 k (B l) p (from_ p pend) acc))
  | 0, p, _, _, hp, h, _, _, _, _ => by omega
  | k + 1, p, pend, acc, hp, hk, hpe, hlen, hd, ha => by
    rw [regex_signs.l0, B_size]
    by_cases hlt : p < l.length
    · rw [if_pos hlt]
      have hdr : l.drop p = l[p] :: l.drop (p + 1) := List.drop_eq_getElem_cons hlt
      have htk : l.take (p + 1) = l.take p ++ [l[p]] := by rw [List.take_succ_eq_append_getElem hlt]
      obtain ⟨ok, acc', ef, hf1, hf2⟩ := flush_eq (k := k) hp hl hpe hlen hd (by omega) (by omega) (acc := acc)
      by_cases hdg : 48 ≤ l[p].toNat ∧ l[p].toNat ≤ 57
      · obtain ⟨r1, r2⟩ := rune_low l p hlt (by omega)
        rw [r1, r2, if_pos (by omega), if_pos (by omega)]
        have hfrom : (if from_ p pend < 0 then some ((p : Nat) : Int) else some (from_ p pend)) = some (from_ (p + 1) (pend ++ [l[p]])) := by
          by_cases h0 : pend = []
          · subst h0
            simp [from_]
          · simp only [from_, if_neg h0]
            rw [if_neg (by omega)]
            simp <;> omega
        rw [hfrom]
        simp only [Option.bind_some]
        have h := signs_l0 K hK l hl k (p + 1) (pend ++ [l[p]]) acc (by omega) (by omega) (by
          rw [htk, List.length_append, List.length_singleton, show p + 1 - (pend.length + 1) = p - pend.length by omega, List.drop_append, hpe, List.length_take]
          congr 1
          rw [show p - pend.length - min p l.length = 0 by omega]; rfl) (by simp; omega) (fun c hc => by
            rcases List.mem_append.1 hc with hc | hc
            · exact hd c hc
            · rw [List.mem_singleton] at hc; subst hc; exact hdg) (by simp; omega)
        obtain ⟨sg, ok2, e, h1, h2⟩ := h
        have hls : lexS (l.drop p) pend acc = lexS (l.drop (p + 1)) (pend ++ [l[p]]) acc := by rw [hdr, lexS, if_pos hdg]
        exact ⟨sg, ok2, e, fun h => by rw [hls]; exact h1 h, fun h => by rw [hls]; exact h2 h⟩
      · have hls : lexS (l.drop p) pend acc = (flushS pend acc).bind fun acc' =>
            if l[p].toNat = 32 ∨ l[p].toNat = 95 then lexS (l.drop (p + 1)) [] (acc' ++ [⟨32, 0, false⟩])
            else if punctI l[p].toNat then lexS (l.drop (p + 1)) [] (acc' ++ [⟨(l[p].toNat : Int), 0, false⟩])
            else none := by rw [hdr, lexS, if_neg hdg]
        have hal : acc'.length ≤ p := by
          cases ok with
          | true =>
            have := hf1 rfl
            unfold flushS at this
            split at this
            · obtain rfl := Option.some.inj this; omega
            · rename_i h0
              obtain ⟨m, _, hm⟩ := Option.map_eq_some_iff.1 this
              rw [← hm]
              have := List.length_pos_iff.2 h0
              simp; omega
          | false =>
            rw [regex_signs_1.f] at ef
            by_cases hneg : from_ p pend < 0
            · rw [if_pos hneg] at ef
              simp at ef
            · rw [if_neg hneg] at ef
              obtain ⟨_, _, ef⟩ := obx ef
              obtain ⟨_, _, ef⟩ := obx ef
              obtain ⟨a, ea, ef⟩ := obx ef
              obtain ⟨_, _, ea⟩ := app_ok ea
              simp only [Option.some.injEq, Prod.mk.injEq] at ef
              rw [← ef.2.2, ea]
              have h0 : pend ≠ [] := by
                rintro rfl
                exact hneg (by simp [from_])
              have := List.length_pos_iff.2 h0
              simp; omega
        -- the loop goes on behind a sign
        have next : ∀ (x : T_regex_sign), lexS (l.drop p) pend acc = (flushS pend acc).bind (fun a => lexS (l.drop (p + 1)) [] (a ++ [x])) → ok = true → LexOk l pend p acc (fin K (B l) ((Sp.app 12 acc' [x]).bind fun a => regex_signs.l0 k (B l) (p + 1) (-1) a)) := by
          intro x hx hok
          have hap : Sp.app 12 acc' [x] = some (acc' ++ [x]) := app_small (by simp; omega) (by decide)
          rw [hap]
          simp only [Option.bind_some]
          have h := signs_l0 K hK l hl k (p + 1) [] (acc' ++ [x]) (by omega) (by omega) (by simp) (by simp) (fun _ h => by cases h) (by simp; omega)
          obtain ⟨sg, ok2, e, h1, h2⟩ := h
          have hff := hf1 hok
          rw [hff] at hx
          simp only [Option.bind_some] at hx
          exact ⟨sg, ok2, e, fun h => by rw [hx]; exact h1 h, fun h => by rw [hx]; exact h2 h⟩
        have stop : (lexS (l.drop p) pend acc = none) → LexOk l pend p acc (fin K (B l) (some (.inl ([], false)))) := fun h => ⟨[], false, rfl, fun h => (by cases h), fun _ => h⟩
        have nok : ok = false → lexS (l.drop p) pend acc = none := fun h => by rw [hls, hf2 h]; rfl
        by_cases hlow : l[p].toNat < 128
        · obtain ⟨r1, r2⟩ := rune_low l p hlt hlow
          rw [r1, r2]
          have hblank : (l[p].toNat = 32 ∨ l[p].toNat = 95) → lexS (l.drop p) pend acc = (flushS pend acc).bind (fun a => lexS (l.drop (p + 1)) [] (a ++ [⟨32, 0, false⟩])) := fun h => by
            rw [hls]
            congr 1
            funext a
            rw [if_pos h]
          have hpunct : ¬ (l[p].toNat = 32 ∨ l[p].toNat = 95) → punctI (l[p].toNat : Int) = true → lexS (l.drop p) pend acc = (flushS pend acc).bind (fun a => lexS (l.drop (p + 1)) [] (a ++ [⟨(l[p].toNat : Int), 0, false⟩])) := fun h h' => by
            rw [hls]
            congr 1
            funext a
            rw [if_neg h, if_pos h']
          have hother : ¬ (l[p].toNat = 32 ∨ l[p].toNat = 95) → punctI (l[p].toNat : Int) = false → lexS (l.drop p) pend acc = none := fun h h' => by
            rw [hls]
            cases flushS pend acc with
            | none => rfl
            | some a => simp only [Option.bind_some, if_neg h, h']; rfl
          generalize hc : l[p].toNat = c at *
          rw [ef]
          simp only [Option.bind_some]
          have body : LexOk l pend p acc (fin K (B l) (if ok = true then ((if (c : Int) = 32 then (some ((c : Int) == 32)) else (some ((c : Int) == 95))).bind fun b39 => (if b39 = true then ((Sp.app 12 acc' [(T_regex_sign.mk 32 0 false)]).bind fun l49 => (regex_signs.l0 k (B l) (p + 1) (-1) l49)) else (if (c : Int) = 124 then ((Sp.app 12 acc' [(T_regex_sign.mk (c : Int) 0 false)]).bind fun l60 => (regex_signs.l0 k (B l) (p + 1) (-1) l60)) else (if (c : Int) = 40 then ((Sp.app 12 acc' [(T_regex_sign.mk (c : Int) 0 false)]).bind fun l71 => (regex_signs.l0 k (B l) (p + 1) (-1) l71)) else (if (c : Int) = 41 then ((Sp.app 12 acc' [(T_regex_sign.mk (c : Int) 0 false)]).bind fun l82 => (regex_signs.l0 k (B l) (p + 1) (-1) l82)) else (if (c : Int) = 91 then ((Sp.app 12 acc' [(T_regex_sign.mk (c : Int) 0 false)]).bind fun l93 => (regex_signs.l0 k (B l) (p + 1) (-1) l93)) else (if (c : Int) = 93 then ((Sp.app 12 acc' [(T_regex_sign.mk (c : Int) 0 false)]).bind fun l104 => (regex_signs.l0 k (B l) (p + 1) (-1) l104)) else (if (c : Int) = 94 then ((Sp.app 12 acc' [(T_regex_sign.mk (c : Int) 0 false)]).bind fun l115 => (regex_signs.l0 k (B l) (p + 1) (-1) l115)) else (if (c : Int) = 36 then ((Sp.app 12 acc' [(T_regex_sign.mk (c : Int) 0 false)]).bind fun l126 => (regex_signs.l0 k (B l) (p + 1) (-1) l126)) else (if (c : Int) = 46 then ((Sp.app 12 acc' [(T_regex_sign.mk (c : Int) 0 false)]).bind fun l137 => (regex_signs.l0 k (B l) (p + 1) (-1) l137)) else (if (c : Int) = 42 then ((Sp.app 12 acc' [(T_regex_sign.mk (c : Int) 0 false)]).bind fun l148 => (regex_signs.l0 k (B l) (p + 1) (-1) l148)) else (if (c : Int) = 43 then ((Sp.app 12 acc' [(T_regex_sign.mk (c : Int) 0 false)]).bind fun l159 => (regex_signs.l0 k (B l) (p + 1) (-1) l159)) else (if (c : Int) = 63 then ((Sp.app 12 acc' [(T_regex_sign.mk (c : Int) 0 false)]).bind fun l170 => (regex_signs.l0 k (B l) (p + 1) (-1) l170)) else (if (c : Int) = 45 then ((Sp.app 12 acc' [(T_regex_sign.mk (c : Int) 0 false)]).bind fun l181 => (regex_signs.l0 k (B l) (p + 1) (-1) l181)) else (if (c : Int) = 44 then ((Sp.app 12 acc' [(T_regex_sign.mk (c : Int) 0 false)]).bind fun l192 => (regex_signs.l0 k (B l) (p + 1) (-1) l192)) else (some (.inl ([], false)))))))))))))))))) else (some (.inl ([], false))))) := by
            by_cases hok : ok = true
            · rw [if_pos hok]
              by_cases hb : c = 32 ∨ c = 95
              · have e : (if (c : Int) = 32 then (some ((c : Int) == 32)) else (some ((c : Int) == 95))) = some true := by
                  rcases hb with rfl | rfl <;> rfl
                rw [e]
                simp only [Option.bind_some, if_true]
                exact next _ (hblank hb) hok
              · have e : (if (c : Int) = 32 then (some ((c : Int) == 32)) else (some ((c : Int) == 95))) = some false := by
                  rw [if_neg (by omega)]
                  congr 1
                  simp; omega
                rw [e]
                simp only [Option.bind_some, Bool.false_eq_true, if_false]
                cases hpp : punctI (c : Int) with
                | true =>
                  have hn := next _ (hpunct hb hpp) hok
                  simp only [punctI, Bool.or_eq_true, beq_iff_eq] at hpp
                  rcases hpp with (((((((((((h | h) | h) | h) | h) | h) | h) | h) | h) | h) | h) | h) | h <;> (rw [h] at hn ⊢; exact hn)
                | false =>
                  have hnone := hother hb hpp
                  simp only [punctI, Bool.or_eq_false_iff, beq_eq_false_iff_ne, ne_eq] at hpp
                  obtain ⟨⟨⟨⟨⟨⟨⟨⟨⟨⟨⟨⟨q1, q2⟩, q3⟩, q4⟩, q5⟩, q6⟩, q7⟩, q8⟩, q9⟩, q10⟩, q11⟩, q12⟩, q13⟩ := hpp
                  simp only [if_neg q1, if_neg q2, if_neg q3, if_neg q4, if_neg q5, if_neg q6, if_neg q7, if_neg q8, if_neg q9, if_neg q10, if_neg q11, if_neg q12, if_neg q13]
                  exact stop hnone
            · rw [if_neg hok]
              exact stop (nok (by simpa using hok))
          by_cases h48 : (c : Int) ≥ 48
          · rw [if_pos h48, if_neg (by omega)]
            exact body
          · rw [if_neg h48]
            exact body
        · have hr := rune_high l p hlt hlow
          have hnone : lexS (l.drop p) pend acc = none := by
            rw [hls]
            cases flushS pend acc with
            | none => rfl
            | some a =>
              have h1 : ¬ (l[p].toNat = 32 ∨ l[p].toNat = 95) := by omega
              have h2 : punctI (l[p].toNat : Int) = false := by
                simp only [punctI, Bool.or_eq_false_iff, beq_eq_false_iff_ne, ne_eq]
                omega
              simp only [Option.bind_some, if_neg h1, h2]; rfl
          generalize runeAt (B l) p = c at *
          rw [if_pos (show c ≥ 48 by omega), if_neg (show ¬ c ≤ 57 by omega), ef, Option.bind_some]
          by_cases hok : ok = true
          · have e : ((c : Int) == 95) = false := by simp; omega
            rw [if_pos hok, if_neg (show ¬ c = 32 by omega), e, Option.bind_some, if_neg (show ¬ false = true by decide), if_neg (show ¬ c = 124 by omega), if_neg (show ¬ c = 40 by omega), if_neg (show ¬ c = 41 by omega), if_neg (show ¬ c = 91 by omega), if_neg (show ¬ c = 93 by omega), if_neg (show ¬ c = 94 by omega), if_neg (show ¬ c = 36 by omega), if_neg (show ¬ c = 46 by omega), if_neg (show ¬ c = 42 by omega), if_neg (show ¬ c = 43 by omega), if_neg (show ¬ c = 63 by omega), if_neg (show ¬ c = 45 by omega), if_neg (show ¬ c = 44 by omega)]
            exact stop hnone
          · rw [if_neg hok]
            exact stop hnone
    · rw [if_neg hlt]
      have hpl : p = l.length := by omega
      have hdr : l.drop p = [] := List.drop_eq_nil_of_le (by omega)
      obtain ⟨ok, acc', ef, hf1, hf2⟩ := flush_eq (k := K) hp hl hpe hlen hd (by omega) (by omega) (acc := acc)
      unfold fin
      simp only [Option.bind_some]
      rw [B_size, ← hpl, ef]
      exact ⟨acc', ok, rfl, fun h => by rw [hdr, lexS]; exact hf1 h, fun h => by rw [hdr, lexS]; exact hf2 h⟩

theorem signs_ok {k : Nat} {l : List UInt8} (hk : 400000 ≤ k) (hl : l.length ≤ 100000) : ∃ sg ok, regex_signs.f k (B l) = some (sg, ok) ∧ (ok = true → lexS l [] [] = some sg) ∧ (ok = false → lexS l [] [] = none) := by
  have h := signs_l0 k (by omega) l hl k 0 [] [] (Nat.zero_le _) (by omega) (by simp) (by simp) (fun _ h => by cases h) (by simp)
  obtain ⟨sg, ok, e, h1, h2⟩ := h
  exact ⟨sg, ok, by rw [regex_signs.f]; exact e, h1, h2⟩

theorem flush_sgs {pend : List UInt8} {acc r : List T_regex_sign} (h : flushS pend acc = some r) (hs : sgs acc) : sgs r ∧ r.length ≤ acc.length + pend.length := by
  unfold flushS at h
  split at h
  · obtain rfl := Option.some.inj h
    exact ⟨hs, by omega⟩
  · rename_i h0
    obtain ⟨m, hm, rfl⟩ := Option.map_eq_some_iff.1 h
    have hm' : m ≤ 4294967295 := by
      unfold numOf at hm
      split at hm
      · rename_i hh
        obtain rfl := Option.some.inj hm
        exact hh.1
      · cases hm
    refine ⟨fun x hx => ?_, ?_⟩
    · rcases List.mem_append.1 hx with hx | hx
      · exact hs x hx
      · rw [List.mem_singleton] at hx; subst hx
        exact ⟨fun _ => ⟨⟨by show (0 : Int) ≤ (m : Int); omega, by show (m : Int) < 4294967296; omega⟩, rfl⟩, fun h => by cases h⟩
    · have := List.length_pos_iff.2 h0
      simp; omega
theorem lex_sgs : ∀ (l pend : List UInt8) (acc r : List T_regex_sign), lexS l pend acc = some r → sgs acc → sgs r ∧ r.length ≤ acc.length + pend.length + l.length
  | [], pend, acc, r, h, hs => by
    rw [lexS] at h
    have := flush_sgs h hs
    exact ⟨this.1, by simpa using this.2⟩
  | c :: l, pend, acc, r, h, hs => by
    rw [lexS] at h
    split at h
    · have := lex_sgs l _ _ _ h hs
      refine ⟨this.1, ?_⟩
      have h2 := this.2
      simp at h2 ⊢; omega
    · obtain ⟨a, ha, h⟩ := obx h
      obtain ⟨f1, f2⟩ := flush_sgs ha hs
      have addx : ∀ x : T_regex_sign, signOk x → sgs (a ++ [x]) := fun x hx y hy => by
        rcases List.mem_append.1 hy with hy | hy
        · exact f1 y hy
        · rw [List.mem_singleton] at hy; subst hy; exact hx
      split at h
      · have := lex_sgs l _ _ _ h (addx _ ⟨fun h => (by cases h), fun _ => by decide⟩)
        refine ⟨this.1, ?_⟩
        have h2 := this.2
        simp at h2 ⊢; omega
      · split at h
        · rename_i hp
          have := lex_sgs l _ _ _ h (addx _ ⟨fun h => (by cases h), fun _ h0 => by
            simp only at h0
            rw [h0] at hp
            exact absurd hp (by decide)⟩)
          refine ⟨this.1, ?_⟩
          have h2 := this.2
          simp at h2 ⊢; omega
        · cases h
end Go.Proofs.YtkkflfmonidepaaDoor
