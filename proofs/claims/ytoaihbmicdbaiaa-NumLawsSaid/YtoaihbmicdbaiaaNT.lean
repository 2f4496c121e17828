/- Plain number theory: powers modulo a number, primes by Lucas and Pratt, the prime 2^255 - 19, and that 2 generates its residues. -/
import Derived.Test.YtoaihbmicdbaiaaRows
namespace Go.Proofs.Ytoaihbmicdbaiaa.NT

theorem pigeon : ∀ (n : Nat) (f : Nat → Nat), (∀ i, i < n → f i < n) → (∀ i j, i < n → j < n → f i = f j → i = j) → ∀ y, y < n → ∃ i, i < n ∧ f i = y
  | 0, _, _, _, y, h => absurd h (Nat.not_lt_zero y)
  | n + 1, f, hf, hi, y, hy => by
    have hm := hf n (by omega)
    by_cases hmn : f n = n
    · by_cases hyn : y = n
      · exact ⟨n, by omega, by omega⟩
      · obtain ⟨i, h1, h2⟩ := pigeon n f (fun i h => by
          have h1 := hf i (by omega)
          have h2 : f i ≠ n := fun e => by have := hi i n (by omega) (by omega) (by omega); omega
          omega) (fun i j h1 h2 h => hi i j (by omega) (by omega) h) y (by omega)
        exact ⟨i, by omega, h2⟩
    · obtain hg := pigeon n (fun i => if f i = n then f n else f i) (fun i h => by
          have h1 := hf i (by omega)
          split <;> omega) (fun i j h1 h2 h => by
          split at h <;> split at h
          · exact hi i j (by omega) (by omega) (by omega)
          · have := hi n j (by omega) (by omega) h; omega
          · have := hi i n (by omega) (by omega) h; omega
          · exact hi i j (by omega) (by omega) h)
      by_cases hyn : y = n
      · obtain ⟨i, h1, h2⟩ := hg (f n) (by omega)
        split at h2
        · exact ⟨i, by omega, by omega⟩
        · have := hi i n (by omega) (by omega) h2; omega
      · by_cases hyf : y = f n
        · exact ⟨n, by omega, by omega⟩
        · obtain ⟨i, h1, h2⟩ := hg y (by omega)
          split at h2
          · omega
          · exact ⟨i, by omega, h2⟩

/-- A power modulo a number, by squaring. -/
def powm : Nat → Nat → Nat → Nat → Nat
  | 0, _, _, n => 1 % n
  | f + 1, b, e, n => if e = 0 then 1 % n else if e % 2 = 1 then b * powm f (b * b % n) (e / 2) n % n else powm f (b * b % n) (e / 2) n

theorem pow_sq (b e : Nat) : b ^ e = (if e % 2 = 1 then b else 1) * (b * b) ^ (e / 2) := by
  have h : e = 2 * (e / 2) + e % 2 := by omega
  have h2 : (b * b) ^ (e / 2) = b ^ (2 * (e / 2)) := by rw [Nat.pow_mul, Nat.pow_two]
  rw [h2]
  split
  · rename_i h1
    rw [← Nat.pow_succ']
    congr 1; omega
  · rename_i h1
    have h0 : e % 2 = 0 := by omega
    rw [Nat.one_mul]
    congr 1; omega

theorem powm_eq : ∀ (f b e n : Nat), e < 2 ^ f → powm f b e n = b ^ e % n
  | 0, b, e, n, h => by
    have : e = 0 := by simpa using h
    subst this
    simp [powm]
  | f + 1, b, e, n, h => by
    unfold powm
    split
    · rename_i h0; subst h0; simp
    · have hf : e / 2 < 2 ^ f := by rw [Nat.pow_succ] at h; omega
      rw [powm_eq f _ _ n hf]
      have hs := pow_sq b e
      have hm : (b * b % n) ^ (e / 2) % n = (b * b) ^ (e / 2) % n := (Nat.pow_mod (b * b) (e / 2) n).symm
      split
      · rename_i h1
        rw [if_pos h1] at hs
        rw [hs, hm, Nat.mul_mod, Nat.mod_mod, ← Nat.mul_mod]
      · rename_i h1
        rw [if_neg h1, Nat.one_mul] at hs
        rw [hs, hm]

def Prime (n : Nat) : Prop := 2 ≤ n ∧ ∀ d, d ∣ n → d = 1 ∨ d = n

theorem exists_prime : ∀ (k n : Nat), n ≤ k → 2 ≤ n → ∃ q, Prime q ∧ q ∣ n
  | 0, n, h, h2 => by omega
  | k + 1, n, h, h2 => by
    by_cases hp : ∀ d, d ∣ n → d = 1 ∨ d = n
    · exact ⟨n, ⟨h2, hp⟩, Nat.dvd_refl _⟩
    · obtain ⟨d, hd⟩ := Classical.not_forall.1 hp
      obtain ⟨hd1, hd2⟩ := Classical.not_imp.1 hd
      have hdn : d ≤ n := Nat.le_of_dvd (by omega) hd1
      have hd0 : d ≠ 0 := fun e => by subst e; have := Nat.eq_zero_of_zero_dvd hd1; omega
      obtain ⟨q, hq1, hq2⟩ := exists_prime k d (by omega) (by omega)
      exact ⟨q, hq1, Nat.dvd_trans hq2 hd1⟩

theorem Prime.coprime {q m : Nat} (h : Prime q) (hm : ¬ q ∣ m) : Nat.Coprime q m := by
  rcases h.2 (Nat.gcd q m) (Nat.gcd_dvd_left q m) with h1 | h1
  · exact h1
  · exact absurd (h1 ▸ Nat.gcd_dvd_right q m) hm
theorem Prime.dvd_mul {q a b : Nat} (h : Prime q) (hd : q ∣ a * b) : q ∣ a ∨ q ∣ b := by
  by_cases ha : q ∣ a
  · exact .inl ha
  · exact .inr ((h.coprime ha).dvd_of_dvd_mul_left hd)
theorem Prime.dvd_prod {q : Nat} (h : Prime q) : ∀ (l : List Nat), q ∣ l.prod → ∃ a ∈ l, q ∣ a
  | [], hd => by
    have h1 := Nat.le_of_dvd (by decide) hd
    have := h.1
    simp at h1; omega
  | a :: l, hd => by
    rw [List.prod_cons] at hd
    rcases h.dvd_mul hd with h1 | h1
    · exact ⟨a, by simp, h1⟩
    · obtain ⟨b, hb, h2⟩ := h.dvd_prod l h1
      exact ⟨b, by simp [hb], h2⟩

/-- Powers that are 1. -/
theorem pow_gcd {g n : Nat} (hn : 1 < n) : ∀ (a b : Nat), g ^ a % n = 1 → g ^ b % n = 1 → g ^ (Nat.gcd a b) % n = 1 := by
  intro a b
  induction a, b using Nat.gcd.induction with
  | H0 b => intro _ h; simpa using h
  | H1 a b ha ih =>
    intro h1 h2
    rw [Nat.gcd_rec]
    refine ih ?_ h1
    have e : g ^ b % n = g ^ (b % a) % n := by
      have e1 : g ^ b = g ^ (a * (b / a)) * g ^ (b % a) := by rw [← Nat.pow_add, Nat.div_add_mod]
      rw [e1, Nat.pow_mul, Nat.mul_mod, Nat.pow_mod, h1, Nat.one_pow, Nat.mod_eq_of_lt hn, Nat.one_mul, Nat.mod_mod]
    rw [← e]; exact h2

/-- LUCAS: the powers of g are just the numbers from 1 to n - 1. -/
theorem lucas_log {n g : Nat} (fs : List Nat) (hn : 2 < n) (hprod : fs.prod = n - 1) (hp : ∀ q ∈ fs, Prime q) (h1 : g ^ (n - 1) % n = 1) (hq : ∀ q ∈ fs, g ^ ((n - 1) / q) % n ≠ 1) :
    ∀ a, 0 < a → a < n → ∃ k, k < n - 1 ∧ g ^ k % n = a := by
  have inv : ∀ t, t ≤ n - 1 → g ^ t % n * (g ^ (n - 1 - t) % n) % n = 1 := fun t ht => by
    rw [← Nat.mul_mod, ← Nat.pow_add, Nat.add_sub_cancel' ht]; exact h1
  have ord : ∀ t, 0 < t → t < n - 1 → g ^ t % n ≠ 1 := by
    intro t h0 ht e
    have hg := pow_gcd (by omega) t (n - 1) e h1
    have hd1 := Nat.gcd_dvd_right t (n - 1)
    have hd2 : Nat.gcd t (n - 1) ≤ t := Nat.le_of_dvd h0 (Nat.gcd_dvd_left t (n - 1))
    generalize hd : Nat.gcd t (n - 1) = d at *
    obtain ⟨c, hc⟩ := hd1
    have hd0 : d ≠ 0 := fun e => by subst e; simp at hc; omega
    have hc2 : 2 ≤ c := by
      rcases Nat.lt_or_ge c 2 with h | h
      · have : c = 0 ∨ c = 1 := by omega
        rcases this with rfl | rfl
        · simp at hc; omega
        · simp at hc; omega
      · exact h
    obtain ⟨q, hq1, hq2⟩ := exists_prime c c (Nat.le_refl _) hc2
    have hqn : q ∣ fs.prod := by rw [hprod, hc]; exact Nat.dvd_trans hq2 (Nat.dvd_mul_left c d)
    obtain ⟨q', hq', hqq⟩ := hq1.dvd_prod fs hqn
    have : q = q' := by
      rcases (hp q' hq').2 q hqq with h | h
      · have := hq1.1; omega
      · exact h
    subst this
    obtain ⟨c', hc'⟩ := hq2
    have hq0 : 0 < q := by have := hq1.1; omega
    have e2 : (n - 1) / q = d * c' := by
      rw [hc, hc', show d * (q * c') = (d * c') * q by rw [Nat.mul_comm q c', Nat.mul_assoc], Nat.mul_div_cancel _ hq0]
    refine hq q hq' ?_
    rw [e2, Nat.pow_mul, Nat.pow_mod, hg, Nat.one_pow, Nat.mod_eq_of_lt (by omega)]
  have pos : ∀ t, t ≤ n - 1 → 0 < g ^ t % n := fun t ht => by
    rcases Nat.eq_zero_or_pos (g ^ t % n) with h | h
    · have := inv t ht; rw [h] at this; simp at this
    · exact h
  intro a ha0 han
  obtain ⟨k, hk, e⟩ := pigeon (n - 1) (fun k => g ^ k % n - 1) (fun i hi => by
      have := Nat.mod_lt (g ^ i) (show 0 < n by omega)
      have := pos i (by omega)
      omega) (fun i j hi hj e => by
      have p1 := pos i (by omega)
      have p2 := pos j (by omega)
      have e' : g ^ i % n = g ^ j % n := by omega
      have key : ∀ i j, i < j → j < n - 1 → g ^ i % n = g ^ j % n → False := fun i j hij hj e => by
        have hi := inv i (by omega)
        have h3 : g ^ j = g ^ i * g ^ (j - i) := by rw [← Nat.pow_add]; congr 1; omega
        refine ord (j - i) (by omega) (by omega) ?_
        have h4 : g ^ (j - i) % n = (g ^ i % n * (g ^ (n - 1 - i) % n)) * (g ^ (j - i) % n) % n := by
          rw [Nat.mul_mod, hi, Nat.one_mul, Nat.mod_mod, Nat.mod_mod]
        rw [h4, Nat.mul_assoc, Nat.mul_comm (g ^ (n - 1 - i) % n), ← Nat.mul_assoc, Nat.mul_mod, ← Nat.mul_mod (g ^ i), ← h3, ← e, ← Nat.mul_mod, Nat.mul_mod, Nat.mod_mod, ← Nat.mul_mod, Nat.mul_mod, hi]
      rcases Nat.lt_trichotomy i j with h | h | h
      · exact (key i j h hj e').elim
      · exact h
      · exact (key j i h hi e'.symm).elim) (a - 1) (by omega)
  have := pos k (by omega)
  exact ⟨k, hk, by omega⟩

theorem lucas {n g : Nat} (fs : List Nat) (hn : 2 < n) (hprod : fs.prod = n - 1) (hp : ∀ q ∈ fs, Prime q) (h1 : g ^ (n - 1) % n = 1) (hq : ∀ q ∈ fs, g ^ ((n - 1) / q) % n ≠ 1) : Prime n := by
  refine ⟨by omega, fun d hd => ?_⟩
  rcases Nat.lt_or_ge d n with hlt | hge
  · left
    have hd0 : 0 < d := by
      rcases Nat.eq_zero_or_pos d with h | h
      · subst h; have := Nat.eq_zero_of_zero_dvd hd; omega
      · exact h
    obtain ⟨k, hk, e⟩ := lucas_log fs hn hprod hp h1 hq d hd0 hlt
    have h2 : g ^ k % n * (g ^ (n - 1 - k) % n) % n = 1 := by
      rw [← Nat.mul_mod, ← Nat.pow_add, Nat.add_sub_cancel' (by omega)]; exact h1
    rw [e] at h2
    have h3 : d ∣ 1 := by
      rw [← h2]
      exact (Nat.dvd_mod_iff hd).2 (Nat.dvd_mul_right d _)
    exact Nat.dvd_one.1 h3
  · right
    have := Nat.le_of_dvd (by omega) hd
    omega

/-- The test as a Bool, by powers that the kernel reckons. -/
def lucasB (n g : Nat) (fs : List Nat) : Bool := decide (2 < n) && fs.prod == n - 1 && decide (n < 2 ^ 256) && powm 256 g (n - 1) n == 1 && fs.all fun q => powm 256 g ((n - 1) / q) n != 1
theorem lucasB_spec {n g : Nat} {fs : List Nat} (h : lucasB n g fs = true) : 2 < n ∧ fs.prod = n - 1 ∧ g ^ (n - 1) % n = 1 ∧ ∀ q ∈ fs, g ^ ((n - 1) / q) % n ≠ 1 := by
  unfold lucasB at h
  simp only [Bool.and_eq_true, decide_eq_true_eq, beq_iff_eq, List.all_eq_true, bne_iff_ne] at h
  obtain ⟨⟨⟨⟨h1, h2⟩, h3⟩, h4⟩, h5⟩ := h
  rw [powm_eq _ _ _ _ (by omega)] at h4
  refine ⟨h1, h2, h4, fun q hq => ?_⟩
  have := h5 q hq
  have hle : (n - 1) / q ≤ n - 1 := Nat.div_le_self _ _
  rw [powm_eq _ _ _ _ (by omega)] at this
  exact this
theorem prime_of {n g : Nat} {fs : List Nat} (h : lucasB n g fs = true) (hp : ∀ q ∈ fs, Prime q) : Prime n := by
  obtain ⟨h1, h2, h3, h4⟩ := lucasB_spec h
  exact lucas fs h1 h2 hp h3 h4

/-- Small primes, by trial. -/
def smallB (n : Nat) : Bool := decide (2 ≤ n) && (List.range' 2 (n - 2)).all fun d => n % d != 0
theorem prime_small {n : Nat} (h : smallB n = true) : Prime n := by
  unfold smallB at h
  simp only [Bool.and_eq_true, decide_eq_true_eq, List.all_eq_true, bne_iff_ne] at h
  refine ⟨h.1, fun d hd => ?_⟩
  have hle := Nat.le_of_dvd (by omega) hd
  rcases Nat.lt_or_ge d 2 with h2 | h2
  · left
    rcases Nat.eq_zero_or_pos d with h3 | h3
    · subst h3; have := Nat.eq_zero_of_zero_dvd hd; omega
    · omega
  · right
    rcases Nat.lt_or_ge d n with h3 | h3
    · exact absurd (Nat.mod_eq_zero_of_dvd hd) (h.2 d (by simp [List.mem_range'_1]; omega))
    · omega

end Go.Proofs.Ytoaihbmicdbaiaa.NT
