/- Roots in digits: what the document reckons of the primes, in plain numbers. -/
import Derived.Test.YtjfjbanoikbnoaaDoorShaQ
namespace Go.Proofs.YtjfjbanoikbnoaaDoor.RT

/-- Digits of 2^24, the lowest first. -/
def val : List UInt64 → Nat
  | [] => 0
  | d :: r => d.toNat + 16777216 * val r
def low (l : List UInt64) : Prop := ∀ d ∈ l, d.toNat < 16777216
theorem val_lt : ∀ l : List UInt64, low l → val l < 16777216 ^ l.length
  | [], _ => by simp [val]
  | d :: r, h => by
    have h1 := h d (by simp)
    have h2 := val_lt r (fun x hx => h x (by simp [hx]))
    rw [val, List.length_cons, Nat.pow_succ]
    omega
theorem val_set : ∀ (l : List UInt64) (j : Nat) (x : UInt64), j < l.length → val (l.set j x) + (l.getD j 0).toNat * 16777216 ^ j = val l + x.toNat * 16777216 ^ j
  | [], j, x, h => by simp at h
  | d :: r, 0, x, _ => by simp [val]; omega
  | d :: r, j + 1, x, h => by
    have ih := val_set r j x (by simpa using h)
    simp only [List.set_cons_succ, val, List.getD_cons_succ, Nat.pow_succ]
    have e1 : ∀ a : Nat, a * (16777216 ^ j * 16777216) = 16777216 * (a * 16777216 ^ j) := fun a => by
      rw [← Nat.mul_assoc, Nat.mul_comm]
    rw [e1, e1]
    omega

theorem val_snoc (l : List UInt64) (n : Nat) : val (l.take (n + 1)) = val (l.take n) + (l.getD n 0).toNat * 16777216 ^ n := by
  induction n generalizing l with
  | zero => cases l <;> simp [val]
  | succ n ih =>
    cases l with
    | nil => simp [val]
    | cons d r =>
      simp only [List.take_succ_cons, val, List.getD_cons_succ, Nat.pow_succ]
      rw [ih, Nat.mul_add, show (r.getD n 0).toNat * (16777216 ^ n * 16777216) = 16777216 * ((r.getD n 0).toNat * 16777216 ^ n) by ac_rfl]
      omega
/-- One product more. -/
def mulStep (a b t : List UInt64) (i k : Nat) : List UInt64 := t.set (i + k) (t.getD (i + k) 0 + a.getD i 0 * b.getD k 0)
def inner (a b : List UInt64) (i : Nat) (t : List UInt64) : Nat → List UInt64
  | 0 => t
  | n + 1 => mulStep a b (inner a b i t n) i n
def outer (a b : List UInt64) : Nat → List UInt64
  | 0 => List.replicate 14 0
  | n + 1 => inner a b n (outer a b n) (14 - n)
/-- What is carried: the digits, and what goes on. -/
def cs (t : List UInt64) : Nat → List UInt64 × UInt64
  | 0 => (t, 0)
  | n + 1 => ((cs t n).1.set n (((cs t n).1.getD n 0 + (cs t n).2) &&& 16777215), ((cs t n).1.getD n 0 + (cs t n).2) >>> 24)
def times (a b : List UInt64) : List UInt64 := (cs (outer a b 14) 14).1
theorem inner_length (a b : List UInt64) (i : Nat) (t : List UInt64) (n : Nat) : (inner a b i t n).length = t.length := by
  induction n with
  | zero => rfl
  | succ n ih => rw [inner, mulStep, List.length_set, ih]
theorem outer_length (a b : List UInt64) (n : Nat) : (outer a b n).length = 14 := by
  induction n with
  | zero => rfl
  | succ n ih => rw [outer, inner_length, ih]
theorem cs_length (t : List UInt64) (n : Nat) : (cs t n).1.length = t.length := by
  induction n with
  | zero => rfl
  | succ n ih => rw [cs]; simp [ih]

theorem getD_low {l : List UInt64} (h : low l) (i : Nat) : (l.getD i 0).toNat < 16777216 := by
  by_cases hi : i < l.length
  · rw [List.getD_eq_getElem?_getD, List.getElem?_eq_getElem hi]; exact h _ (List.getElem_mem hi)
  · rw [List.getD_eq_getElem?_getD, List.getElem?_eq_none (by omega)]; decide
/-- All digits are small enough for so many products more. -/
def cap (l : List UInt64) (m : Nat) : Prop := ∀ j, (l.getD j 0).toNat ≤ m * 281474976710656
theorem getD_set (l : List UInt64) (i j : Nat) (x : UInt64) : (l.set i x).getD j 0 = if i = j ∧ j < l.length then x else l.getD j 0 := by
  simp only [List.getD_eq_getElem?_getD, List.getElem?_set]
  by_cases h : i = j
  · subst h
    by_cases h2 : i < l.length
    · simp [h2]
    · simp [h2]
  · simp [h]
theorem mulStep_val {a b t : List UInt64} (ha : low a) (hb : low b) {i k m : Nat} (hk : i + k < t.length) (hc : (t.getD (i + k) 0).toNat ≤ m * 281474976710656) (hm : m ≤ 100) :
    val (mulStep a b t i k) = val t + (a.getD i 0).toNat * (b.getD k 0).toNat * 16777216 ^ (i + k) ∧ ((mulStep a b t i k).getD (i + k) 0).toNat ≤ (m + 1) * 281474976710656 := by
  have h1 := getD_low ha i
  have h2 := getD_low hb k
  have h3 : (a.getD i 0).toNat * (b.getD k 0).toNat < 281474976710656 := by
    generalize (a.getD i 0).toNat = x at *
    generalize (b.getD k 0).toNat = y at *
    have := Nat.mul_le_mul (show x ≤ 16777215 by omega) (show y ≤ 16777215 by omega)
    omega
  have hx : (t.getD (i + k) 0 + a.getD i 0 * b.getD k 0).toNat = (t.getD (i + k) 0).toNat + (a.getD i 0).toNat * (b.getD k 0).toNat := by
    rw [UInt64.toNat_add, UInt64.toNat_mul, Nat.mod_eq_of_lt (a := (a.getD i 0).toNat * _) (by omega), Nat.mod_eq_of_lt (by omega)]
  have hv := val_set t (i + k) (t.getD (i + k) 0 + a.getD i 0 * b.getD k 0) hk
  rw [hx, Nat.add_mul] at hv
  refine ⟨by unfold mulStep; omega, ?_⟩
  unfold mulStep
  rw [getD_set, if_pos ⟨rfl, hk⟩, hx]
  omega

theorem inner_val {a b t : List UInt64} (ha : low a) (hb : low b) {i m : Nat} (ht : t.length = 14) (hm : m ≤ 99) (hc : cap t m) : ∀ n, i + n ≤ 14 →
    val (inner a b i t n) = val t + (a.getD i 0).toNat * 16777216 ^ i * val (b.take n) ∧ cap (inner a b i t n) (m + 1) ∧ ∀ j, i + n ≤ j → (inner a b i t n).getD j 0 = t.getD j 0 := by
  intro n
  induction n with
  | zero => intro _; exact ⟨by simp [inner, val], fun j => Nat.le_trans (hc j) (Nat.mul_le_mul_right _ (Nat.le_succ m)), fun _ _ => rfl⟩
  | succ n ih =>
    intro hn
    obtain ⟨h1, h2, h3⟩ := ih (by omega)
    have hl : i + n < (inner a b i t n).length := by rw [inner_length, ht]; omega
    have hcc : ((inner a b i t n).getD (i + n) 0).toNat ≤ m * 281474976710656 := by rw [h3 _ (Nat.le_refl _)]; exact hc _
    obtain ⟨g1, g2⟩ := mulStep_val ha hb hl hcc (by omega)
    have hoth : ∀ j, j ≠ i + n → (mulStep a b (inner a b i t n) i n).getD j 0 = (inner a b i t n).getD j 0 := fun j hj => by
      unfold mulStep; rw [getD_set, if_neg (by omega)]
    refine ⟨?_, fun j => ?_, fun j hj => ?_⟩
    · rw [inner, g1, h1, Nat.add_assoc]
      congr 1
      have hb1 := val_snoc b n
      rw [hb1, Nat.mul_add, Nat.pow_add]
      congr 1
      ac_rfl
    · by_cases hj : j = i + n
      · subst hj; rw [inner]; exact g2
      · rw [inner, hoth j hj]; exact h2 j
    · rw [inner, hoth j (by omega), h3 j (by omega)]

theorem cs_val {t : List UInt64} {m : Nat} (ht : t.length = 14) (hm : m ≤ 60) (hc : cap t m) : ∀ n, n ≤ 14 →
    val (cs t n).1 + (cs t n).2.toNat * 16777216 ^ n = val t ∧ (cs t n).2.toNat < 4294967296 ∧ (∀ j, j < n → ((cs t n).1.getD j 0).toNat < 16777216) ∧ ∀ j, n ≤ j → (cs t n).1.getD j 0 = t.getD j 0 := by
  intro n
  induction n with
  | zero => intro _; exact ⟨by simp [cs], by simp [cs], fun j h => absurd h (Nat.not_lt_zero _), fun _ _ => rfl⟩
  | succ n ih =>
    intro hn
    obtain ⟨h1, h2, h3, h4⟩ := ih (by omega)
    have hl : n < (cs t n).1.length := by rw [cs_length, ht]; omega
    have hcn := hc n
    rw [← h4 n (Nat.le_refl _)] at hcn
    have hv := val_set (cs t n).1 n (((cs t n).1.getD n 0 + (cs t n).2) &&& 16777215) hl
    have hx : ((cs t n).1.getD n 0 + (cs t n).2).toNat = ((cs t n).1.getD n 0).toNat + (cs t n).2.toNat := by
      rw [UInt64.toNat_add, Nat.mod_eq_of_lt (by omega)]
    have hlo : (((cs t n).1.getD n 0 + (cs t n).2) &&& 16777215).toNat = (((cs t n).1.getD n 0).toNat + (cs t n).2.toNat) % 16777216 := by
      rw [UInt64.toNat_and, hx]; exact Nat.and_two_pow_sub_one_eq_mod _ 24
    have hhi : (((cs t n).1.getD n 0 + (cs t n).2) >>> 24).toNat = (((cs t n).1.getD n 0).toNat + (cs t n).2.toNat) / 16777216 := by
      rw [UInt64.toNat_shiftRight, hx, Nat.shiftRight_eq_div_pow]; rfl
    rw [hlo] at hv
    generalize ((cs t n).1.getD n 0).toNat = d at *
    refine ⟨?_, ?_, fun j hj => ?_, fun j hj => ?_⟩
    · simp only [cs]
      rw [hhi, Nat.pow_succ]
      have e := Nat.div_add_mod (d + (cs t n).2.toNat) 16777216
      generalize (d + (cs t n).2.toNat) / 16777216 = q at *
      generalize (d + (cs t n).2.toNat) % 16777216 = r at *
      have e2 : (16777216 * q + r) * 16777216 ^ n = (d + (cs t n).2.toNat) * 16777216 ^ n := by rw [e]
      rw [Nat.add_mul, Nat.add_mul] at e2
      rw [show q * (16777216 ^ n * 16777216) = 16777216 * q * 16777216 ^ n by ac_rfl]
      omega
    · simp only [cs]; rw [hhi]; omega
    · simp only [cs]; rw [getD_set]
      by_cases hjn : n = j
      · rw [if_pos ⟨hjn, by rw [cs_length, ht]; omega⟩, hlo]; omega
      · rw [if_neg (by omega)]; exact h3 j (by omega)
    · simp only [cs]; rw [getD_set, if_neg (by omega)]; exact h4 j (by omega)

theorem outer_val {a b : List UInt64} (ha : low a) (hb : low b) : ∀ n, n ≤ 14 → (∃ q, val (outer a b n) + q * 16777216 ^ 14 = val (a.take n) * val b) ∧ cap (outer a b n) n := by
  intro n
  induction n with
  | zero => intro _; exact ⟨⟨0, by simp [outer, val]⟩, fun j => by
      have : ∀ j, ((List.replicate 14 (0 : UInt64)).getD j 0).toNat = 0 := fun j => by
        rw [List.getD_eq_getElem?_getD, List.getElem?_replicate]
        split <;> rfl
      rw [outer, this]; omega⟩
  | succ n ih =>
    intro hn
    obtain ⟨⟨q, h1⟩, h2⟩ := ih (by omega)
    obtain ⟨g1, g2, _⟩ := inner_val (i := n) ha hb (outer_length a b n) (by omega) h2 (14 - n) (by omega)
    refine ⟨⟨q + (a.getD n 0).toNat * val (b.drop (14 - n)), ?_⟩, g2⟩
    have ht := val_snoc
    have hd : ∀ (l : List UInt64) (m : Nat), m ≤ l.length → val l = val (l.take m) + 16777216 ^ m * val (l.drop m) := by
      intro l m
      induction m generalizing l with
      | zero => intro _; simp [val]
      | succ m ih =>
        intro h
        cases l with
        | nil => simp at h
        | cons d r =>
          simp only [List.take_succ_cons, List.drop_succ_cons, val, Nat.pow_succ]
          rw [ih r (by simpa using h), Nat.mul_add, show 16777216 ^ m * 16777216 * val (r.drop m) = 16777216 * (16777216 ^ m * val (r.drop m)) by ac_rfl]
          omega
    have hbb : val b = val (b.take (14 - n)) + 16777216 ^ (14 - n) * val (b.drop (14 - n)) := by
      by_cases hbl : 14 - n ≤ b.length
      · exact hd b _ hbl
      · rw [List.drop_eq_nil_of_le (by omega), List.take_of_length_le (by omega)]; simp [val]
    have hp : (16777216 : Nat) ^ n * 16777216 ^ (14 - n) = 16777216 ^ 14 := by rw [← Nat.pow_add]; congr 1; omega
    rw [outer, g1, ht]
    generalize 16777216 ^ 14 = Q at *
    rw [Nat.add_mul (val (a.take n)), ← h1, Nat.add_mul q]
    rw [show (a.getD n 0).toNat * 16777216 ^ n * val b = (a.getD n 0).toNat * 16777216 ^ n * val (b.take (14 - n)) + (a.getD n 0).toNat * val (b.drop (14 - n)) * Q by
      rw [← hp]; exact (congrArg _ hbb).trans (by rw [Nat.mul_add]; congr 1; ac_rfl)]
    omega
theorem times_val {a b : List UInt64} (ha : low a) (hb : low b) (hal : a.length = 14) : (times a b).length = 14 ∧ low (times a b) ∧ val (times a b) = val a * val b % 16777216 ^ 14 := by
  obtain ⟨⟨q, h1⟩, h2⟩ := outer_val ha hb 14 (Nat.le_refl _)
  obtain ⟨g1, _, g3, _⟩ := cs_val (outer_length a b 14) (by omega) h2 14 (Nat.le_refl _)
  have hl : (times a b).length = 14 := by unfold times; rw [cs_length, outer_length]
  have hlow : low (times a b) := fun d hd => by
    obtain ⟨i, hi, rfl⟩ := List.getElem_of_mem hd
    have := g3 i (by rw [hl] at hi; exact hi)
    rw [List.getD_eq_getElem?_getD, List.getElem?_eq_getElem (by exact hi)] at this
    exact this
  refine ⟨hl, hlow, ?_⟩
  have hlt := val_lt _ hlow
  rw [hl] at hlt
  rw [List.take_of_length_le (by omega)] at h1
  have g1' : val (times a b) + (cs (outer a b 14) 14).2.toNat * 16777216 ^ 14 = val (outer a b 14) := g1
  rw [← h1, ← g1', Nat.add_mul_mod_self_right, Nat.add_mul_mod_self_right, Nat.mod_eq_of_lt hlt]

/-- Is one greater than another one, in its first n digits, from above? -/
def above (a b : List UInt64) : Nat → Bool
  | 0 => false
  | n + 1 => if a.getD n 0 ≠ b.getD n 0 then decide (a.getD n 0 > b.getD n 0) else above a b n
theorem above_val {a b : List UInt64} (ha : low a) (hb : low b) : ∀ n, n ≤ a.length → n ≤ b.length → above a b n = decide (val (b.take n) < val (a.take n)) := by
  intro n
  induction n with
  | zero => intro _ _; simp [above, val]
  | succ n ih =>
    intro h1 h2
    have la := val_lt (a.take n) (fun d hd => ha d (List.mem_of_mem_take hd))
    have lb := val_lt (b.take n) (fun d hd => hb d (List.mem_of_mem_take hd))
    rw [List.length_take, Nat.min_eq_left (by omega)] at la lb
    rw [above, val_snoc, val_snoc]
    by_cases he : a.getD n 0 = b.getD n 0
    · rw [if_neg (fun h => h he), ih (by omega) (by omega), he]
      congr 1
      simp
    · rw [if_pos he]
      have hne : (a.getD n 0).toNat ≠ (b.getD n 0).toNat := fun h => he (UInt64.toNat_inj.1 h)
      have hgt : decide (a.getD n 0 > b.getD n 0) = decide ((b.getD n 0).toNat < (a.getD n 0).toNat) := by
        rw [decide_eq_decide, gt_iff_lt, UInt64.lt_iff_toNat_lt]
      rw [hgt]
      clear hgt he ih
      generalize (a.getD n 0).toNat = x at *
      generalize (b.getD n 0).toNat = y at *
      generalize 16777216 ^ n = Q at *
      by_cases hxy : y < x
      · have := Nat.mul_le_mul_right Q (show y + 1 ≤ x by omega)
        rw [Nat.add_mul] at this
        rw [decide_eq_true hxy, decide_eq_true (by omega)]
      · have := Nat.mul_le_mul_right Q (show x + 1 ≤ y by omega)
        rw [Nat.add_mul] at this
        rw [decide_eq_false hxy, decide_eq_false (by omega)]
end Go.Proofs.YtjfjbanoikbnoaaDoor.RT
namespace Go.Proofs.YtjfjbanoikbnoaaDoor.RT
/-- One bit more. -/
def bitset (l : List UInt64) (n : Nat) : List UInt64 := l.set (n / 24) (l.getD (n / 24) 0 ||| (1 <<< UInt64.ofNat (n % 24)))
theorem val_split : ∀ (l : List UInt64) (m : Nat), m ≤ l.length → val l = val (l.take m) + 16777216 ^ m * val (l.drop m) := by
  intro l m
  induction m generalizing l with
  | zero => intro _; simp [val]
  | succ m ih =>
    intro h
    cases l with
    | nil => simp at h
    | cons d r =>
      simp only [List.take_succ_cons, List.drop_succ_cons, val, Nat.pow_succ]
      rw [ih r (by simpa using h), Nat.mul_add, show 16777216 ^ m * 16777216 * val (r.drop m) = 16777216 * (16777216 ^ m * val (r.drop m)) by ac_rfl]
      omega
theorem bit_free (V lo d R q r : Nat) (hV : V = lo + 16777216 ^ q * (d + 16777216 * R)) (hlo : lo < 16777216 ^ q) (hr : r < 24) (h : V % 2 ^ (24 * q + r + 1) = 0) : d % 2 ^ (r + 1) = 0 := by
  have e1 : (2 : Nat) ^ (24 * q + r + 1) = 16777216 ^ q * 2 ^ (r + 1) := by
    rw [show 24 * q + r + 1 = 24 * q + (r + 1) by omega, Nat.pow_add, Nat.pow_mul]
  rw [e1] at h
  obtain ⟨k, hk⟩ := Nat.dvd_of_mod_eq_zero h
  generalize 16777216 ^ q = Q at *
  have hl0 : lo = 0 := by
    have h1 : lo % Q = 0 := by
      have h2 : (lo + Q * (d + 16777216 * R)) % Q = 0 := by rw [← hV, hk, Nat.mul_assoc]; exact Nat.mul_mod_right _ _
      rwa [Nat.add_mul_mod_self_left] at h2
    rwa [Nat.mod_eq_of_lt hlo] at h1
  rw [hl0, Nat.zero_add, hk, Nat.mul_assoc] at hV
  have hQ : 0 < Q := by omega
  have h3 : 2 ^ (r + 1) * k = d + 16777216 * R := Nat.eq_of_mul_eq_mul_left hQ hV
  have e2 : (16777216 : Nat) = 2 ^ (r + 1) * 2 ^ (23 - r) := by rw [← Nat.pow_add, show r + 1 + (23 - r) = 24 by omega]
  have h4 : d = 2 ^ (r + 1) * k - 2 ^ (r + 1) * (2 ^ (23 - r) * R) := by rw [← Nat.mul_assoc, ← e2]; omega
  rw [h4, ← Nat.mul_sub]
  exact Nat.mul_mod_right _ _
theorem bitset_val {l : List UInt64} (hl : low l) (hn : l.length = 14) {n : Nat} (hb : n < 72) (h : val l % 2 ^ (n + 1) = 0) :
    (bitset l n).length = 14 ∧ low (bitset l n) ∧ val (bitset l n) = val l + 2 ^ n := by
  have hq : n / 24 < l.length := by omega
  have hsp := val_split l (n / 24) (by omega)
  rw [List.drop_eq_getElem_cons hq, val] at hsp
  have hlt := val_lt (l.take (n / 24)) (fun d hd => hl d (List.mem_of_mem_take hd))
  rw [List.length_take, Nat.min_eq_left (by omega)] at hlt
  have hg : l.getD (n / 24) 0 = l[n / 24] := by rw [List.getD_eq_getElem?_getD, List.getElem?_eq_getElem hq]; rfl
  have hd := bit_free _ _ _ _ _ (n % 24) hsp hlt (by omega) (by rw [show 24 * (n / 24) + n % 24 + 1 = n + 1 by omega]; exact h)
  rw [← hg] at hd
  have hdl := getD_low hl (n / 24)
  have hone : ((1 : UInt64) <<< UInt64.ofNat (n % 24)).toNat = 2 ^ (n % 24) := by
    rw [UInt64.toNat_shiftLeft, UInt64.toNat_ofNat', Nat.mod_eq_of_lt (a := n % 24) (by omega), Nat.mod_eq_of_lt (a := n % 24) (by omega), Nat.shiftLeft_eq]
    have : (2 : Nat) ^ (n % 24) < 2 ^ 24 := Nat.pow_lt_pow_right (by omega) (by omega)
    rw [show (1 : UInt64).toNat = 1 from rfl, Nat.one_mul, Nat.mod_eq_of_lt (by omega)]
  have hor : (l.getD (n / 24) 0 ||| (1 <<< UInt64.ofNat (n % 24))).toNat = (l.getD (n / 24) 0).toNat + 2 ^ (n % 24) := by
    rw [UInt64.toNat_or, hone]
    obtain ⟨k, hk⟩ := Nat.dvd_of_mod_eq_zero hd
    rw [hk, ← Nat.two_pow_add_eq_or_of_lt (Nat.pow_lt_pow_right (by omega) (by omega))]
  have hup : (l.getD (n / 24) 0).toNat + 2 ^ (n % 24) < 16777216 := by
    obtain ⟨k, hk⟩ := Nat.dvd_of_mod_eq_zero hd
    rw [hk] at hdl ⊢
    have e2 : (16777216 : Nat) = 2 ^ (n % 24 + 1) * 2 ^ (23 - n % 24) := by rw [← Nat.pow_add, show n % 24 + 1 + (23 - n % 24) = 24 by omega]
    rw [e2] at hdl ⊢
    have hk1 : k < 2 ^ (23 - n % 24) := Nat.lt_of_mul_lt_mul_left hdl
    have h5 := Nat.mul_le_mul_left (2 ^ (n % 24 + 1)) (show k + 1 ≤ 2 ^ (23 - n % 24) from hk1)
    have h6 : (2 : Nat) ^ (n % 24) < 2 ^ (n % 24 + 1) := Nat.pow_lt_pow_right (by omega) (by omega)
    rw [Nat.mul_add] at h5
    omega
  refine ⟨by unfold bitset; rw [List.length_set, hn], fun d hd => ?_, ?_⟩
  · unfold bitset at hd
    rcases List.mem_or_eq_of_mem_set hd with h1 | h1
    · exact hl d h1
    · rw [h1, hor]; exact hup
  · have hv := val_set l (n / 24) (l.getD (n / 24) 0 ||| (1 <<< UInt64.ofNat (n % 24))) hq
    rw [hor, Nat.add_mul] at hv
    have e3 : (2 : Nat) ^ n = 2 ^ (n % 24) * 16777216 ^ (n / 24) := by
      rw [show (16777216 : Nat) = 2 ^ 24 from rfl, ← Nat.pow_mul, ← Nat.pow_add]; congr 1; omega
    unfold bitset
    rw [e3]
    omega

/-- The root's bits from above: what stands when n of the 71 bits are told. -/
def rootN (aim e : Nat) : Nat → Nat
  | 0 => 0
  | n + 1 => if (rootN aim e n + 2 ^ (70 - n)) ^ e ≤ aim then rootN aim e n + 2 ^ (70 - n) else rootN aim e n
theorem rootN_bits (aim e : Nat) : ∀ n, n ≤ 71 → rootN aim e n % 2 ^ (71 - n) = 0 ∧ rootN aim e n + 2 ^ (71 - n) ≤ 2 ^ 71 := by
  intro n
  induction n with
  | zero => intro _; simp [rootN]
  | succ n ih =>
    intro hn
    obtain ⟨h1, h2⟩ := ih (by omega)
    rw [show 71 - n = (70 - n) + 1 by omega, Nat.pow_succ] at h1 h2
    rw [show 71 - (n + 1) = 70 - n by omega]
    obtain ⟨k, hk⟩ := Nat.dvd_of_mod_eq_zero h1
    have h3 : rootN aim e n % 2 ^ (70 - n) = 0 := by rw [hk, Nat.mul_assoc]; exact Nat.mul_mod_right _ _
    rw [rootN]
    split
    · exact ⟨by rw [Nat.add_mod_right]; exact h3, by omega⟩
    · exact ⟨h3, by omega⟩
theorem or_disj (a b i : Nat) (hb : b < 2 ^ i) : b ||| a * 2 ^ i = b + a * 2 ^ i := by
  rw [Nat.mul_comm, Nat.or_comm, ← Nat.two_pow_add_eq_or_of_lt hb, Nat.add_comm]
theorem join3 {l : List UInt64} (hl : low l) (hn : l.length = 14) : (l.getD 0 0 ||| (l.getD 1 0 <<< 24)) ||| (l.getD 2 0 <<< 48) = UInt64.ofNat (val l) := by
  apply UInt64.toNat_inj.1
  have h0 := getD_low hl 0
  have h1 := getD_low hl 1
  have h2 := getD_low hl 2
  match l, hn with
  | d0 :: d1 :: d2 :: r, _ =>
    simp only [List.getD_cons_zero, List.getD_cons_succ] at *
    rw [UInt64.toNat_ofNat', UInt64.toNat_or, UInt64.toNat_or, UInt64.toNat_shiftLeft, UInt64.toNat_shiftLeft]
    simp only [val, show (24 : UInt64).toNat % 64 = 24 from rfl, show (48 : UInt64).toNat % 64 = 48 from rfl, Nat.shiftLeft_eq]
    rw [Nat.mod_eq_of_lt (a := d1.toNat * 2 ^ 24) (by omega), or_disj _ _ 24 (by omega), show d2.toNat * 2 ^ 48 % 2 ^ 64 = d2.toNat % 65536 * 2 ^ 48 by omega, or_disj _ _ 48 (by omega)]
    omega
def primes : List Nat := [2, 3, 5, 7, 11, 13, 17, 19, 23, 29, 31, 37, 41, 43, 47, 53, 59, 61, 67, 71, 73, 79, 83, 89, 97, 101, 103, 107, 109, 113, 127, 131, 137, 139, 149, 151, 157, 163, 167, 173, 179, 181, 191, 193, 197, 199, 211, 223, 227, 229, 233, 239, 241, 251, 257, 263, 269, 271, 277, 281, 283, 293, 307, 311, 313, 317, 331, 337, 347, 349, 353, 359, 367, 373, 379, 383, 389, 397, 401, 409]
/-- The primes below a number. -/
def pr : Nat → List Nat
  | 0 => []
  | p + 1 => if 2 ≤ p ∧ (pr p).all (fun q => p % q != 0) then pr p ++ [p] else pr p
theorem pr_410 : pr 410 = primes := by decide +kernel
theorem pr_mono (p : Nat) : (pr p).length ≤ (pr (p + 1)).length := by
  rw [pr]; split
  · simp
  · exact Nat.le_refl _
theorem pr_409 : (pr 409).length = 79 := by decide +kernel
theorem pr_small {p : Nat} (h : p ≤ 409) : (pr p).length < 80 := by
  have : ∀ k, p + k = 409 → (pr p).length ≤ 79 := by
    intro k
    induction k generalizing p with
    | zero => intro hk; rw [show p = 409 by omega, pr_409]; exact Nat.le_refl _
    | succ k ih => intro hk; exact Nat.le_trans (pr_mono p) (ih (p := p + 1) (by omega) (by omega))
  have := this (409 - p) (by omega)
  omega
end Go.Proofs.YtjfjbanoikbnoaaDoor.RT
namespace Go.Proofs.YtjfjbanoikbnoaaDoor.RT
theorem cubes : ∀ k, k < 80 → SH.K.getD k 0 = UInt64.ofNat (rootN (primes.getD k 0 * 2 ^ 192) 3 71) := by decide +kernel
theorem squares : [SH.init.a, SH.init.b, SH.init.c, SH.init.d, SH.init.e, SH.init.f, SH.init.g, SH.init.h] = (primes.take 8).map fun p => UInt64.ofNat (rootN (p * 2 ^ 128) 2 71) := by decide +kernel
end Go.Proofs.YtjfjbanoikbnoaaDoor.RT
