/- Plain number theory: powers modulo a number, primes by Lucas and Pratt, the prime 2^255 - 19, and that 2 generates its residues. The prime 2^255 - 19, by Pratt's certificate; 2 generates its residues. Small lemmas on worlds, for the walks of this seat: a block that is put whole, draws, what is below. Laws for the walk: bits.Add64, bits.Sub64 (the model's own rows), with what they say as inequalities. Plain lemmas on numbers written in digits, the lowest first. The plain laws of numbers in four words, modulo 2^255 - 19. -/
import Derived.Test.YtceljjnohjnepaaDoorRows
import Derived.WalkKit
import Derived.WalkSpells
import Derived.WalkLawsBesides
import Derived.Deep.QuietTactic
import Derived.BigQuiet
import Derived.StillTailTactics
import Derived.Lib.MinMax
import Derived.Deep.RegionHeld3
namespace Go.Proofs.YtceljjnohjnepaaDoor.NT

set_option maxRecDepth 100000 in
theorem pigeon : ∀ (n : Nat) (f : Nat → Nat), (∀ i, i < n → f i < n) → (∀ i j, i < n → j < n → f i = f j → i = j) → ∀ y, y < n → ∃ i, i < n ∧ f i = y
  | 0, _, _, _, y, h => absurd h (Nat.not_lt_zero y)
  | n + 1, f, hf, hi, y, hy => by
    have hm := hf n (by omega)
    by_cases hmn : f n = n
    · by_cases hyn : y = n
      · exact ⟨n, by omega, by omega⟩
      · obtain ⟨i, h1, h2⟩ := pigeon n f (fun i h => by
          have h1 := hf i (by omega)
          have h2 : f i ≠ n := fun e => by have := hi i n (by omega) (by omega) (by omega); omega
          omega) (fun i j h1 h2 h => hi i j (by omega) (by omega) h) y (by omega)
        exact ⟨i, by omega, h2⟩
    · obtain hg := pigeon n (fun i => if f i = n then f n else f i) (fun i h => by
          have h1 := hf i (by omega)
          split <;> omega) (fun i j h1 h2 h => by
          split at h <;> split at h
          · exact hi i j (by omega) (by omega) (by omega)
          · have := hi n j (by omega) (by omega) h; omega
          · have := hi i n (by omega) (by omega) h; omega
          · exact hi i j (by omega) (by omega) h)
      by_cases hyn : y = n
      · obtain ⟨i, h1, h2⟩ := hg (f n) (by omega)
        split at h2
        · exact ⟨i, by omega, by omega⟩
        · have := hi i n (by omega) (by omega) h2; omega
      · by_cases hyf : y = f n
        · exact ⟨n, by omega, by omega⟩
        · obtain ⟨i, h1, h2⟩ := hg y (by omega)
          split at h2
          · omega
          · exact ⟨i, by omega, h2⟩

/-- A power modulo a number, by squaring. -/
def powm : Nat → Nat → Nat → Nat → Nat
  | 0, _, _, n => 1 % n
  | f + 1, b, e, n => if e = 0 then 1 % n else if e % 2 = 1 then b * powm f (b * b % n) (e / 2) n % n else powm f (b * b % n) (e / 2) n

set_option maxRecDepth 100000 in
theorem pow_sq (b e : Nat) : b ^ e = (if e % 2 = 1 then b else 1) * (b * b) ^ (e / 2) := by
  have h : e = 2 * (e / 2) + e % 2 := by omega
  have h2 : (b * b) ^ (e / 2) = b ^ (2 * (e / 2)) := by rw [Nat.pow_mul, Nat.pow_two]
  rw [h2]
  split
  · rename_i h1
    rw [← Nat.pow_succ']
    congr 1; omega
  · rename_i h1
    have h0 : e % 2 = 0 := by omega
    rw [Nat.one_mul]
    congr 1; omega

set_option maxRecDepth 100000 in
theorem powm_eq : ∀ (f b e n : Nat), e < 2 ^ f → powm f b e n = b ^ e % n
  | 0, b, e, n, h => by
    have : e = 0 := by simpa using h
    subst this
    simp [powm]
  | f + 1, b, e, n, h => by
    unfold powm
    split
    · rename_i h0; subst h0; simp
    · have hf : e / 2 < 2 ^ f := by rw [Nat.pow_succ] at h; omega
      rw [powm_eq f _ _ n hf]
      have hs := pow_sq b e
      have hm : (b * b % n) ^ (e / 2) % n = (b * b) ^ (e / 2) % n := (Nat.pow_mod (b * b) (e / 2) n).symm
      split
      · rename_i h1
        rw [if_pos h1] at hs
        rw [hs, hm, Nat.mul_mod, Nat.mod_mod, ← Nat.mul_mod]
      · rename_i h1
        rw [if_neg h1, Nat.one_mul] at hs
        rw [hs, hm]

def Prime (n : Nat) : Prop := 2 ≤ n ∧ ∀ d, d ∣ n → d = 1 ∨ d = n

set_option maxRecDepth 100000 in
theorem exists_prime : ∀ (k n : Nat), n ≤ k → 2 ≤ n → ∃ q, Prime q ∧ q ∣ n
  | 0, n, h, h2 => by omega
  | k + 1, n, h, h2 => by
    by_cases hp : ∀ d, d ∣ n → d = 1 ∨ d = n
    · exact ⟨n, ⟨h2, hp⟩, Nat.dvd_refl _⟩
    · obtain ⟨d, hd⟩ := Classical.not_forall.1 hp
      obtain ⟨hd1, hd2⟩ := Classical.not_imp.1 hd
      have hdn : d ≤ n := Nat.le_of_dvd (by omega) hd1
      have hd0 : d ≠ 0 := fun e => by subst e; have := Nat.eq_zero_of_zero_dvd hd1; omega
      obtain ⟨q, hq1, hq2⟩ := exists_prime k d (by omega) (by omega)
      exact ⟨q, hq1, Nat.dvd_trans hq2 hd1⟩

set_option maxRecDepth 100000 in
theorem Prime.coprime {q m : Nat} (h : Prime q) (hm : ¬ q ∣ m) : Nat.Coprime q m := by
  rcases h.2 (Nat.gcd q m) (Nat.gcd_dvd_left q m) with h1 | h1
  · exact h1
  · exact absurd (h1 ▸ Nat.gcd_dvd_right q m) hm
set_option maxRecDepth 100000 in
theorem Prime.dvd_mul {q a b : Nat} (h : Prime q) (hd : q ∣ a * b) : q ∣ a ∨ q ∣ b := by
  by_cases ha : q ∣ a
  · exact .inl ha
  · exact .inr ((h.coprime ha).dvd_of_dvd_mul_left hd)
set_option maxRecDepth 100000 in
theorem Prime.dvd_prod {q : Nat} (h : Prime q) : ∀ (l : List Nat), q ∣ l.prod → ∃ a ∈ l, q ∣ a
  | [], hd => by
    have h1 := Nat.le_of_dvd (by decide) hd
    have := h.1
    simp at h1; omega
  | a :: l, hd => by
    rw [List.prod_cons] at hd
    rcases h.dvd_mul hd with h1 | h1
    · exact ⟨a, by simp, h1⟩
    · obtain ⟨b, hb, h2⟩ := h.dvd_prod l h1
      exact ⟨b, by simp [hb], h2⟩

set_option maxRecDepth 100000 in
/-- Powers that are 1. -/
theorem pow_gcd {g n : Nat} (hn : 1 < n) : ∀ (a b : Nat), g ^ a % n = 1 → g ^ b % n = 1 → g ^ (Nat.gcd a b) % n = 1 := by
  intro a b
  induction a, b using Nat.gcd.induction with
  | H0 b => intro _ h; simpa using h
  | H1 a b ha ih =>
    intro h1 h2
    rw [Nat.gcd_rec]
    refine ih ?_ h1
    have e : g ^ b % n = g ^ (b % a) % n := by
      have e1 : g ^ b = g ^ (a * (b / a)) * g ^ (b % a) := by rw [← Nat.pow_add, Nat.div_add_mod]
      rw [e1, Nat.pow_mul, Nat.mul_mod, Nat.pow_mod, h1, Nat.one_pow, Nat.mod_eq_of_lt hn, Nat.one_mul, Nat.mod_mod]
    rw [← e]; exact h2

set_option maxRecDepth 100000 in
/-- LUCAS: the powers of g are just the numbers from 1 to n - 1. -/
theorem lucas_log {n g : Nat} (fs : List Nat) (hn : 2 < n) (hprod : fs.prod = n - 1) (hp : ∀ q ∈ fs, Prime q) (h1 : g ^ (n - 1) % n = 1) (hq : ∀ q ∈ fs, g ^ ((n - 1) / q) % n ≠ 1) :
    ∀ a, 0 < a → a < n → ∃ k, k < n - 1 ∧ g ^ k % n = a := by
  have inv : ∀ t, t ≤ n - 1 → g ^ t % n * (g ^ (n - 1 - t) % n) % n = 1 := fun t ht => by
    rw [← Nat.mul_mod, ← Nat.pow_add, Nat.add_sub_cancel' ht]; exact h1
  have ord : ∀ t, 0 < t → t < n - 1 → g ^ t % n ≠ 1 := by
    intro t h0 ht e
    have hg := pow_gcd (by omega) t (n - 1) e h1
    have hd1 := Nat.gcd_dvd_right t (n - 1)
    have hd2 : Nat.gcd t (n - 1) ≤ t := Nat.le_of_dvd h0 (Nat.gcd_dvd_left t (n - 1))
    generalize hd : Nat.gcd t (n - 1) = d at *
    obtain ⟨c, hc⟩ := hd1
    have hd0 : d ≠ 0 := fun e => by subst e; simp at hc; omega
    have hc2 : 2 ≤ c := by
      rcases Nat.lt_or_ge c 2 with h | h
      · have : c = 0 ∨ c = 1 := by omega
        rcases this with rfl | rfl
        · simp at hc; omega
        · simp at hc; omega
      · exact h
    obtain ⟨q, hq1, hq2⟩ := exists_prime c c (Nat.le_refl _) hc2
    have hqn : q ∣ fs.prod := by rw [hprod, hc]; exact Nat.dvd_trans hq2 (Nat.dvd_mul_left c d)
    obtain ⟨q', hq', hqq⟩ := hq1.dvd_prod fs hqn
    have : q = q' := by
      rcases (hp q' hq').2 q hqq with h | h
      · have := hq1.1; omega
      · exact h
    subst this
    obtain ⟨c', hc'⟩ := hq2
    have hq0 : 0 < q := by have := hq1.1; omega
    have e2 : (n - 1) / q = d * c' := by
      rw [hc, hc', show d * (q * c') = (d * c') * q by rw [Nat.mul_comm q c', Nat.mul_assoc], Nat.mul_div_cancel _ hq0]
    refine hq q hq' ?_
    rw [e2, Nat.pow_mul, Nat.pow_mod, hg, Nat.one_pow, Nat.mod_eq_of_lt (by omega)]
  have pos : ∀ t, t ≤ n - 1 → 0 < g ^ t % n := fun t ht => by
    rcases Nat.eq_zero_or_pos (g ^ t % n) with h | h
    · have := inv t ht; rw [h] at this; simp at this
    · exact h
  intro a ha0 han
  obtain ⟨k, hk, e⟩ := pigeon (n - 1) (fun k => g ^ k % n - 1) (fun i hi => by
      have := Nat.mod_lt (g ^ i) (show 0 < n by omega)
      have := pos i (by omega)
      omega) (fun i j hi hj e => by
      have p1 := pos i (by omega)
      have p2 := pos j (by omega)
      have e' : g ^ i % n = g ^ j % n := by omega
      have key : ∀ i j, i < j → j < n - 1 → g ^ i % n = g ^ j % n → False := fun i j hij hj e => by
        have hi := inv i (by omega)
        have h3 : g ^ j = g ^ i * g ^ (j - i) := by rw [← Nat.pow_add]; congr 1; omega
        refine ord (j - i) (by omega) (by omega) ?_
        have h4 : g ^ (j - i) % n = (g ^ i % n * (g ^ (n - 1 - i) % n)) * (g ^ (j - i) % n) % n := by
          rw [Nat.mul_mod, hi, Nat.one_mul, Nat.mod_mod, Nat.mod_mod]
        rw [h4, Nat.mul_assoc, Nat.mul_comm (g ^ (n - 1 - i) % n), ← Nat.mul_assoc, Nat.mul_mod, ← Nat.mul_mod (g ^ i), ← h3, ← e, ← Nat.mul_mod, Nat.mul_mod, Nat.mod_mod, ← Nat.mul_mod, Nat.mul_mod, hi]
      rcases Nat.lt_trichotomy i j with h | h | h
      · exact (key i j h hj e').elim
      · exact h
      · exact (key j i h hi e'.symm).elim) (a - 1) (by omega)
  have := pos k (by omega)
  exact ⟨k, hk, by omega⟩

set_option maxRecDepth 100000 in
theorem lucas {n g : Nat} (fs : List Nat) (hn : 2 < n) (hprod : fs.prod = n - 1) (hp : ∀ q ∈ fs, Prime q) (h1 : g ^ (n - 1) % n = 1) (hq : ∀ q ∈ fs, g ^ ((n - 1) / q) % n ≠ 1) : Prime n := by
  refine ⟨by omega, fun d hd => ?_⟩
  rcases Nat.lt_or_ge d n with hlt | hge
  · left
    have hd0 : 0 < d := by
      rcases Nat.eq_zero_or_pos d with h | h
      · subst h; have := Nat.eq_zero_of_zero_dvd hd; omega
      · exact h
    obtain ⟨k, hk, e⟩ := lucas_log fs hn hprod hp h1 hq d hd0 hlt
    have h2 : g ^ k % n * (g ^ (n - 1 - k) % n) % n = 1 := by
      rw [← Nat.mul_mod, ← Nat.pow_add, Nat.add_sub_cancel' (by omega)]; exact h1
    rw [e] at h2
    have h3 : d ∣ 1 := by
      rw [← h2]
      exact (Nat.dvd_mod_iff hd).2 (Nat.dvd_mul_right d _)
    exact Nat.dvd_one.1 h3
  · right
    have := Nat.le_of_dvd (by omega) hd
    omega

/-- The test as a Bool, by powers that the kernel reckons. -/
def lucasB (n g : Nat) (fs : List Nat) : Bool := decide (2 < n) && fs.prod == n - 1 && decide (n < 2 ^ 256) && powm 256 g (n - 1) n == 1 && fs.all fun q => powm 256 g ((n - 1) / q) n != 1
set_option maxRecDepth 100000 in
theorem lucasB_spec {n g : Nat} {fs : List Nat} (h : lucasB n g fs = true) : 2 < n ∧ fs.prod = n - 1 ∧ g ^ (n - 1) % n = 1 ∧ ∀ q ∈ fs, g ^ ((n - 1) / q) % n ≠ 1 := by
  unfold lucasB at h
  simp only [Bool.and_eq_true, decide_eq_true_eq, beq_iff_eq, List.all_eq_true, bne_iff_ne] at h
  obtain ⟨⟨⟨⟨h1, h2⟩, h3⟩, h4⟩, h5⟩ := h
  rw [powm_eq _ _ _ _ (by omega)] at h4
  refine ⟨h1, h2, h4, fun q hq => ?_⟩
  have := h5 q hq
  have hle : (n - 1) / q ≤ n - 1 := Nat.div_le_self _ _
  rw [powm_eq _ _ _ _ (by omega)] at this
  exact this
set_option maxRecDepth 100000 in
theorem prime_of {n g : Nat} {fs : List Nat} (h : lucasB n g fs = true) (hp : ∀ q ∈ fs, Prime q) : Prime n := by
  obtain ⟨h1, h2, h3, h4⟩ := lucasB_spec h
  exact lucas fs h1 h2 hp h3 h4

/-- Small primes, by trial. -/
def smallB (n : Nat) : Bool := decide (2 ≤ n) && (List.range' 2 (n - 2)).all fun d => n % d != 0
set_option maxRecDepth 100000 in
theorem prime_small {n : Nat} (h : smallB n = true) : Prime n := by
  unfold smallB at h
  simp only [Bool.and_eq_true, decide_eq_true_eq, List.all_eq_true, bne_iff_ne] at h
  refine ⟨h.1, fun d hd => ?_⟩
  have hle := Nat.le_of_dvd (by omega) hd
  rcases Nat.lt_or_ge d 2 with h2 | h2
  · left
    rcases Nat.eq_zero_or_pos d with h3 | h3
    · subst h3; have := Nat.eq_zero_of_zero_dvd hd; omega
    · omega
  · right
    rcases Nat.lt_or_ge d n with h3 | h3
    · exact absurd (Nat.mod_eq_zero_of_dvd hd) (h.2 d (by simp [List.mem_range'_1]; omega))
    · omega

end Go.Proofs.YtceljjnohjnepaaDoor.NT

namespace Go.Proofs.YtceljjnohjnepaaDoor.NT

set_option maxRecDepth 100000 in
theorem p2 : Prime 2 := prime_small (by decide +kernel)
set_option maxRecDepth 100000 in
theorem p3 : Prime 3 := prime_small (by decide +kernel)
set_option maxRecDepth 100000 in
theorem p17 : Prime 17 := prime_small (by decide +kernel)
set_option maxRecDepth 100000 in
theorem p479 : Prime 479 := prime_small (by decide +kernel)
set_option maxRecDepth 100000 in
theorem p32573 : Prime 32573 := prime_of (g := 2) (fs := [2, 2, 17, 479]) (by decide +kernel) (by
  intro q hq
  simp only [List.mem_cons, List.not_mem_nil, or_false] at hq
  rcases hq with rfl | rfl | rfl | rfl
  · exact p2
  · exact p2
  · exact p17
  · exact p479
  )
set_option maxRecDepth 100000 in
theorem p65147 : Prime 65147 := prime_of (g := 2) (fs := [2, 32573]) (by decide +kernel) (by
  intro q hq
  simp only [List.mem_cons, List.not_mem_nil, or_false] at hq
  rcases hq with rfl | rfl
  · exact p2
  · exact p32573
  )
set_option maxRecDepth 100000 in
theorem p353 : Prime 353 := prime_small (by decide +kernel)
set_option maxRecDepth 100000 in
theorem p59 : Prime 59 := prime_small (by decide +kernel)
set_option maxRecDepth 100000 in
theorem p487 : Prime 487 := prime_small (by decide +kernel)
set_option maxRecDepth 100000 in
theorem p57467 : Prime 57467 := prime_of (g := 2) (fs := [2, 59, 487]) (by decide +kernel) (by
  intro q hq
  simp only [List.mem_cons, List.not_mem_nil, or_false] at hq
  rcases hq with rfl | rfl | rfl
  · exact p2
  · exact p59
  · exact p487
  )
set_option maxRecDepth 100000 in
theorem p7 : Prime 7 := prime_small (by decide +kernel)
set_option maxRecDepth 100000 in
theorem p131 : Prime 131 := prime_small (by decide +kernel)
set_option maxRecDepth 100000 in
theorem p132049 : Prime 132049 := prime_of (g := 26) (fs := [2, 2, 2, 2, 3, 3, 7, 131]) (by decide +kernel) (by
  intro q hq
  simp only [List.mem_cons, List.not_mem_nil, or_false] at hq
  rcases hq with rfl | rfl | rfl | rfl | rfl | rfl | rfl | rfl
  · exact p2
  · exact p2
  · exact p2
  · exact p2
  · exact p3
  · exact p3
  · exact p7
  · exact p131
  )
set_option maxRecDepth 100000 in
theorem p43 : Prime 43 := prime_small (by decide +kernel)
set_option maxRecDepth 100000 in
theorem p23 : Prime 23 := prime_small (by decide +kernel)
set_option maxRecDepth 100000 in
theorem p3727 : Prime 3727 := prime_of (g := 3) (fs := [2, 3, 3, 3, 3, 23]) (by decide +kernel) (by
  intro q hq
  simp only [List.mem_cons, List.not_mem_nil, or_false] at hq
  rcases hq with rfl | rfl | rfl | rfl | rfl | rfl
  · exact p2
  · exact p3
  · exact p3
  · exact p3
  · exact p3
  · exact p23
  )
set_option maxRecDepth 100000 in
theorem p1923133 : Prime 1923133 := prime_of (g := 2) (fs := [2, 2, 3, 43, 3727]) (by decide +kernel) (by
  intro q hq
  simp only [List.mem_cons, List.not_mem_nil, or_false] at hq
  rcases hq with rfl | rfl | rfl | rfl | rfl
  · exact p2
  · exact p2
  · exact p3
  · exact p43
  · exact p3727
  )
set_option maxRecDepth 100000 in
theorem p31 : Prime 31 := prime_small (by decide +kernel)
set_option maxRecDepth 100000 in
theorem p107 : Prime 107 := prime_small (by decide +kernel)
set_option maxRecDepth 100000 in
theorem p223 : Prime 223 := prime_small (by decide +kernel)
set_option maxRecDepth 100000 in
theorem p173 : Prime 173 := prime_small (by decide +kernel)
set_option maxRecDepth 100000 in
theorem p4153 : Prime 4153 := prime_of (g := 5) (fs := [2, 2, 2, 3, 173]) (by decide +kernel) (by
  intro q hq
  simp only [List.mem_cons, List.not_mem_nil, or_false] at hq
  rcases hq with rfl | rfl | rfl | rfl | rfl
  · exact p2
  · exact p2
  · exact p2
  · exact p3
  · exact p173
  )
set_option maxRecDepth 100000 in
theorem p5 : Prime 5 := prime_small (by decide +kernel)
set_option maxRecDepth 100000 in
theorem p41 : Prime 41 := prime_small (by decide +kernel)
set_option maxRecDepth 100000 in
theorem p1723 : Prime 1723 := prime_of (g := 3) (fs := [2, 3, 7, 41]) (by decide +kernel) (by
  intro q hq
  simp only [List.mem_cons, List.not_mem_nil, or_false] at hq
  rcases hq with rfl | rfl | rfl | rfl
  · exact p2
  · exact p3
  · exact p7
  · exact p41
  )
set_option maxRecDepth 100000 in
theorem p430751 : Prime 430751 := prime_of (g := 17) (fs := [2, 5, 5, 5, 1723]) (by decide +kernel) (by
  intro q hq
  simp only [List.mem_cons, List.not_mem_nil, or_false] at hq
  rcases hq with rfl | rfl | rfl | rfl | rfl
  · exact p2
  · exact p5
  · exact p5
  · exact p5
  · exact p1723
  )
set_option maxRecDepth 100000 in
theorem p31757755568855353 : Prime 31757755568855353 := prime_of (g := 10) (fs := [2, 2, 2, 3, 31, 107, 223, 4153, 430751]) (by decide +kernel) (by
  intro q hq
  simp only [List.mem_cons, List.not_mem_nil, or_false] at hq
  rcases hq with rfl | rfl | rfl | rfl | rfl | rfl | rfl | rfl | rfl
  · exact p2
  · exact p2
  · exact p2
  · exact p3
  · exact p31
  · exact p107
  · exact p223
  · exact p4153
  · exact p430751
  )
set_option maxRecDepth 100000 in
theorem p19 : Prime 19 := prime_small (by decide +kernel)
set_option maxRecDepth 100000 in
theorem p83 : Prime 83 := prime_small (by decide +kernel)
set_option maxRecDepth 100000 in
theorem p9463 : Prime 9463 := prime_of (g := 3) (fs := [2, 3, 19, 83]) (by decide +kernel) (by
  intro q hq
  simp only [List.mem_cons, List.not_mem_nil, or_false] at hq
  rcases hq with rfl | rfl | rfl | rfl
  · exact p2
  · exact p3
  · exact p19
  · exact p83
  )
set_option maxRecDepth 100000 in
theorem p37853 : Prime 37853 := prime_of (g := 2) (fs := [2, 2, 9463]) (by decide +kernel) (by
  intro q hq
  simp only [List.mem_cons, List.not_mem_nil, or_false] at hq
  rcases hq with rfl | rfl | rfl
  · exact p2
  · exact p2
  · exact p9463
  )
set_option maxRecDepth 100000 in
theorem p75707 : Prime 75707 := prime_of (g := 2) (fs := [2, 37853]) (by decide +kernel) (by
  intro q hq
  simp only [List.mem_cons, List.not_mem_nil, or_false] at hq
  rcases hq with rfl | rfl
  · exact p2
  · exact p37853
  )
set_option maxRecDepth 100000 in
theorem p13 : Prime 13 := prime_small (by decide +kernel)
set_option maxRecDepth 100000 in
theorem p29 : Prime 29 := prime_small (by decide +kernel)
set_option maxRecDepth 100000 in
theorem p2437 : Prime 2437 := prime_of (g := 2) (fs := [2, 2, 3, 7, 29]) (by decide +kernel) (by
  intro q hq
  simp only [List.mem_cons, List.not_mem_nil, or_false] at hq
  rcases hq with rfl | rfl | rfl | rfl | rfl
  · exact p2
  · exact p2
  · exact p3
  · exact p7
  · exact p29
  )
set_option maxRecDepth 100000 in
theorem p97 : Prime 97 := prime_small (by decide +kernel)
set_option maxRecDepth 100000 in
theorem p419 : Prime 419 := prime_small (by decide +kernel)
set_option maxRecDepth 100000 in
theorem p569003 : Prime 569003 := prime_of (g := 2) (fs := [2, 7, 97, 419]) (by decide +kernel) (by
  intro q hq
  simp only [List.mem_cons, List.not_mem_nil, or_false] at hq
  rcases hq with rfl | rfl | rfl | rfl
  · exact p2
  · exact p7
  · exact p97
  · exact p419
  )
set_option maxRecDepth 100000 in
theorem p2773320623 : Prime 2773320623 := prime_of (g := 5) (fs := [2, 2437, 569003]) (by decide +kernel) (by
  intro q hq
  simp only [List.mem_cons, List.not_mem_nil, or_false] at hq
  rcases hq with rfl | rfl | rfl
  · exact p2
  · exact p2437
  · exact p569003
  )
set_option maxRecDepth 100000 in
theorem p72106336199 : Prime 72106336199 := prime_of (g := 7) (fs := [2, 13, 2773320623]) (by decide +kernel) (by
  intro q hq
  simp only [List.mem_cons, List.not_mem_nil, or_false] at hq
  rcases hq with rfl | rfl | rfl
  · exact p2
  · exact p13
  · exact p2773320623
  )
set_option maxRecDepth 100000 in
theorem p47 : Prime 47 := prime_small (by decide +kernel)
set_option maxRecDepth 100000 in
theorem p127 : Prime 127 := prime_small (by decide +kernel)
set_option maxRecDepth 100000 in
theorem p103 : Prime 103 := prime_small (by decide +kernel)
set_option maxRecDepth 100000 in
theorem p991 : Prime 991 := prime_small (by decide +kernel)
set_option maxRecDepth 100000 in
theorem p8574133 : Prime 8574133 := prime_of (g := 2) (fs := [2, 2, 3, 7, 103, 991]) (by decide +kernel) (by
  intro q hq
  simp only [List.mem_cons, List.not_mem_nil, or_false] at hq
  rcases hq with rfl | rfl | rfl | rfl | rfl | rfl
  · exact p2
  · exact p2
  · exact p3
  · exact p7
  · exact p103
  · exact p991
  )
set_option maxRecDepth 100000 in
theorem p1919519569386763 : Prime 1919519569386763 := prime_of (g := 2) (fs := [2, 3, 7, 19, 47, 47, 127, 8574133]) (by decide +kernel) (by
  intro q hq
  simp only [List.mem_cons, List.not_mem_nil, or_false] at hq
  rcases hq with rfl | rfl | rfl | rfl | rfl | rfl | rfl | rfl
  · exact p2
  · exact p3
  · exact p7
  · exact p19
  · exact p47
  · exact p47
  · exact p127
  · exact p8574133
  )
set_option maxRecDepth 100000 in
theorem p75445702479781427272750846543864801 : Prime 75445702479781427272750846543864801 := prime_of (g := 7) (fs := [2, 2, 2, 2, 2, 3, 3, 5, 5, 75707, 72106336199, 1919519569386763]) (by decide +kernel) (by
  intro q hq
  simp only [List.mem_cons, List.not_mem_nil, or_false] at hq
  rcases hq with rfl | rfl | rfl | rfl | rfl | rfl | rfl | rfl | rfl | rfl | rfl | rfl
  · exact p2
  · exact p2
  · exact p2
  · exact p2
  · exact p2
  · exact p3
  · exact p3
  · exact p5
  · exact p5
  · exact p75707
  · exact p72106336199
  · exact p1919519569386763
  )
set_option maxRecDepth 100000 in
theorem p74058212732561358302231226437062788676166966415465897661863160754340907 : Prime 74058212732561358302231226437062788676166966415465897661863160754340907 := prime_of (g := 2) (fs := [2, 3, 353, 57467, 132049, 1923133, 31757755568855353, 75445702479781427272750846543864801]) (by decide +kernel) (by
  intro q hq
  simp only [List.mem_cons, List.not_mem_nil, or_false] at hq
  rcases hq with rfl | rfl | rfl | rfl | rfl | rfl | rfl | rfl
  · exact p2
  · exact p3
  · exact p353
  · exact p57467
  · exact p132049
  · exact p1923133
  · exact p31757755568855353
  · exact p75445702479781427272750846543864801
  )
def P : Nat := 57896044618658097711785492504343953926634992332820282019728792003956564819949
set_option maxRecDepth 100000 in
theorem P_fs : ∀ q ∈ [2, 2, 3, 65147, 74058212732561358302231226437062788676166966415465897661863160754340907], Prime q := by
  intro q hq
  simp only [List.mem_cons, List.not_mem_nil, or_false] at hq
  rcases hq with rfl | rfl | rfl | rfl | rfl
  · exact p2
  · exact p2
  · exact p3
  · exact p65147
  · exact p74058212732561358302231226437062788676166966415465897661863160754340907
set_option maxRecDepth 100000 in
theorem P_lucas : lucasB P 2 [2, 2, 3, 65147, 74058212732561358302231226437062788676166966415465897661863160754340907] = true := by decide +kernel
set_option maxRecDepth 100000 in
theorem P_prime : Prime P := prime_of P_lucas P_fs
set_option maxRecDepth 100000 in
theorem P_log : ∀ a, 0 < a → a < P → ∃ k, k < P - 1 ∧ 2 ^ k % P = a := by
  obtain ⟨h1, h2, h3, h4⟩ := lucasB_spec P_lucas
  exact lucas_log _ h1 h2 P_fs h3 h4
set_option maxRecDepth 100000 in
theorem P_one : 2 ^ (P - 1) % P = 1 := (lucasB_spec P_lucas).2.2.1
set_option maxRecDepth 100000 in
theorem P_half : 2 ^ ((P - 1) / 2) % P = P - 1 := by
  rw [← powm_eq 256 2 ((P - 1) / 2) P (by decide +kernel)]
  decide +kernel

end Go.Proofs.YtceljjnohjnepaaDoor.NT

namespace Go.Proofs.YtceljjnohjnepaaDoor
open Go.RowKit
attribute [go_sem] World.cell?_alloc_some

/-- The world with block b put. -/
def blk (w : World) (b : Nat) (o : Obj) : World := { w with heap := w.heap.setIfInBounds b o }
section
variable {w : World} {b k : Nat} {c : Array Value} {T : TypeId} {fz : Nat × Nat} {v : Value} {o o' : Obj}
set_option maxRecDepth 100000 in
theorem lt_blk (h : w.heap[b]? = some o) : b < w.heap.size := by
  rcases Nat.lt_or_ge b w.heap.size with h' | h'
  · exact h'
  · simp [Array.getElem?_eq_none h'] at h
set_option maxRecDepth 100000 in
theorem cell_at (h : w.heap[b]? = some (.cells c T fz)) (k : Nat) : w.cell? ⟨b, k, none⟩ = c[k]? := by simp [World.cell?, h]
set_option maxRecDepth 100000 in
theorem free_at (h : w.heap[b]? = some (.cells c T (0, 0))) (k : Nat) : w.frozen? ⟨b, k, none⟩ = false := by simp [World.frozen?, h]
set_option maxRecDepth 100000 in
theorem setCell_blk (h : w.heap[b]? = some (.cells c T fz)) (k : Nat) (v : Value) : w.setCell ⟨b, k, none⟩ v = blk w b (.cells (c.setIfInBounds k v) T fz) := by
  unfold World.setCell blk
  have hlt := lt_blk h
  have h' : w.heap[b] = .cells c T fz := by simpa [Array.getElem?_eq_getElem hlt] using h
  congr 1
  apply Array.ext
  · simp
  · intro i h1 h2
    simp only [Array.size_modify] at h1
    rw [Array.getElem_modify, Array.getElem_setIfInBounds]
    · split
      · rename_i hi; subst hi; simp [h']
      · rfl
set_option maxRecDepth 100000 in
theorem blk_heap (h : b < w.heap.size) : (blk w b o).heap[b]? = some o := by simp [blk, h]
set_option maxRecDepth 100000 in
theorem blk_other (j : Nat) (h : j ≠ b) : (blk w b o).heap[j]? = w.heap[j]? := by
  unfold blk; rw [Array.getElem?_setIfInBounds_ne (by omega)]
set_option maxRecDepth 100000 in
theorem blk_size : (blk w b o).heap.size = w.heap.size := by simp [blk]
set_option maxRecDepth 100000 in
theorem blk_blk : blk (blk w b o) b o' = blk w b o' := by simp [blk]
set_option maxRecDepth 100000 in
theorem blk_self (h : w.heap[b]? = some o) : blk w b o = w := by
  unfold blk
  have hlt := lt_blk h
  have h' : w.heap[b] = o := by simpa [Array.getElem?_eq_getElem hlt] using h
  rw [← h', Array.setIfInBounds_def, dif_pos hlt, Array.set_getElem_self]
set_option maxRecDepth 100000 in
theorem blk_setCell (hb : b < w.heap.size) (k : Nat) (v : Value) : (blk w b (.cells c T fz)).setCell ⟨b, k, none⟩ v = blk w b (.cells (c.setIfInBounds k v) T fz) := by
  rw [setCell_blk (blk_heap hb), blk_blk]
set_option maxRecDepth 100000 in
@[go_sem] theorem setCell_drewN (w : World) (n : Nat) (a : Addr) (v : Value) : (w.drewN n).setCell a v = (w.setCell a v).drewN n := rfl
set_option maxRecDepth 100000 in
@[go_sem] theorem setCell_drew' (w : World) (a : Addr) (v : Value) : w.drew.setCell a v = (w.setCell a v).drew := rfl
set_option maxRecDepth 100000 in
theorem at_setCell (h : w.heap[b]? = some (.cells c T fz)) (k : Nat) (v : Value) : (w.setCell ⟨b, k, none⟩ v).heap[b]? = some (.cells (c.setIfInBounds k v) T fz) := by
  rw [setCell_blk h]; exact blk_heap (lt_blk h)
set_option maxRecDepth 100000 in
theorem at_setCell_other (h : w.heap[b]? = some o) {p : Addr} (hp : b ≠ p.block) (v : Value) : (w.setCell p v).heap[b]? = some o := (Below.heap_setCell w p v b hp).trans h
set_option maxRecDepth 100000 in
theorem blk_drew : (blk w b o).drew = blk w.drew b o := rfl
end

set_option maxRecDepth 100000 in
theorem hid {p : Prop} (h : p) : Hid p := h

/-- Some draws later. -/
def Dr (w w' : World) : Prop := ∃ n, w' = w.drewN n
set_option maxRecDepth 100000 in
theorem Dr.refl (w : World) : Dr w w := ⟨0, rfl⟩
set_option maxRecDepth 100000 in
theorem Dr.drew {w w' : World} (h : Dr w w') : Dr w w'.drew := by obtain ⟨n, rfl⟩ := h; exact ⟨n + 1, rfl⟩
set_option maxRecDepth 100000 in
theorem Dr.drewN {w w' : World} (h : Dr w w') (m : Nat) : Dr w (w'.drewN m) := by obtain ⟨n, rfl⟩ := h; exact ⟨n + m, World.drewN_drewN ..⟩

set_option maxRecDepth 100000 in
theorem dr_blk {W w' : World} {b : Nat} {o o' : Obj} (h : Dr (blk W b o) w') (e : o = o') : Dr (blk W b o') w' := e ▸ h

set_option maxRecDepth 100000 in
theorem Dr.heap {w w' : World} (h : Dr w w') : w'.heap = w.heap := by obtain ⟨n, rfl⟩ := h; rfl
set_option maxRecDepth 100000 in
theorem Dr.below {B : Nat} {w w' : World} (h : Dr w w') : Below B w w' := by obtain ⟨n, rfl⟩ := h; exact ⟨rfl, rfl, rfl, Nat.le_refl _, fun _ _ => rfl⟩
set_option maxRecDepth 100000 in
theorem below_blk {B : Nat} {w : World} {b : Nat} {o : Obj} (h : B ≤ b) : Below B w (blk w b o) :=
  ⟨rfl, rfl, rfl, by simp [blk], fun k hk => blk_other k (by omega)⟩
set_option maxRecDepth 100000 in
theorem dr_at {w w' : World} {b : Nat} {o : Obj} (h : Dr (blk w b o) w') (hb : b < w.heap.size) : w'.heap[b]? = some o := by rw [h.heap]; exact blk_heap hb
set_option maxRecDepth 100000 in
theorem dr_other {w w' : World} {b : Nat} {o : Obj} (h : Dr (blk w b o) w') (j : Nat) (hj : j ≠ b) : w'.heap[j]? = w.heap[j]? := by rw [h.heap]; exact blk_other j hj
set_option maxRecDepth 100000 in
theorem dr_size {w w' : World} {b : Nat} {o : Obj} (h : Dr (blk w b o) w') : w'.heap.size = w.heap.size := by rw [h.heap]; exact blk_size
set_option maxRecDepth 100000 in
theorem dr_below {B : Nat} {w w' : World} {b : Nat} {o : Obj} (h : Dr (blk w b o) w') (hb : B ≤ b) : Below B w w' := (below_blk hb).trans h.below
set_option maxRecDepth 100000 in
theorem alloc_at (w : World) (o : Obj) : (w.alloc o).heap[w.heap.size]? = some o := by
  show (w.heap.push o)[w.heap.size]? = _; simp
set_option maxRecDepth 100000 in
theorem alloc_at' {w : World} {n : Nat} (h : n = w.heap.size) (o : Obj) : (w.alloc o).heap[n]? = some o := by rw [h]; exact alloc_at w o
set_option maxRecDepth 100000 in
theorem alloc_old {w : World} {o o' : Obj} {b : Nat} (h : w.heap[b]? = some o) : (w.alloc o').heap[b]? = some o := by
  rw [Below.heap_alloc _ _ _ (lt_blk h)]; exact h
set_option maxRecDepth 100000 in
theorem alloc_below (B : Nat) (w : World) (o : Obj) (h : B ≤ w.heap.size) : Below B w (w.alloc o) := (Below.refl _ _).alloc h o

/-- But for block b, and for what is new, the world is as it was. -/
structure Only (b : Nat) (w w' : World) : Prop where
  os : w'.os = w.os
  tape : w'.tape = w.tape
  output : w'.output = w.output
  size : w.heap.size ≤ w'.heap.size
  block : ∀ k, k < w.heap.size → k ≠ b → w'.heap[k]? = w.heap[k]?
set_option maxRecDepth 100000 in
theorem Only.refl (b : Nat) (w : World) : Only b w w := ⟨rfl, rfl, rfl, Nat.le_refl _, fun _ _ _ => rfl⟩
set_option maxRecDepth 100000 in
theorem Only.trans {b : Nat} {a w w' : World} (h : Only b a w) (k : Only b w w') : Only b a w' :=
  ⟨k.os.trans h.os, k.tape.trans h.tape, k.output.trans h.output, Nat.le_trans h.size k.size, fun i hi hn => (k.block i (Nat.lt_of_lt_of_le hi h.size) hn).trans (h.block i hi hn)⟩
set_option maxRecDepth 100000 in
theorem Only.of_below {b : Nat} {w w' : World} (h : Below w.heap.size w w') : Only b w w' := ⟨h.os, h.tape, h.output, h.size, fun k hk _ => h.block k hk⟩
set_option maxRecDepth 100000 in
theorem Only.below {B b : Nat} {w w' : World} (h : Only b w w') (hb : B ≤ b) (hB : B ≤ w.heap.size) : Below B w w' := ⟨h.os, h.tape, h.output, h.size, fun k hk => h.block k (by omega) (by omega)⟩
set_option maxRecDepth 100000 in
theorem Only.alloc {b : Nat} {a w : World} (h : Only b a w) (o : Obj) : Only b a (w.alloc o) :=
  ⟨h.os, h.tape, h.output, Nat.le_trans h.size (by simp), fun i hi hn => (Below.heap_alloc w o i (Nat.lt_of_lt_of_le hi h.size)).trans (h.block i hi hn)⟩
set_option maxRecDepth 100000 in
theorem Only.drewN {b : Nat} {a w : World} (h : Only b a w) (n : Nat) : Only b a (w.drewN n) := ⟨h.os, h.tape, h.output, h.size, h.block⟩
set_option maxRecDepth 100000 in
theorem Only.drew {b : Nat} {a w : World} (h : Only b a w) : Only b a w.drew := ⟨h.os, h.tape, h.output, h.size, h.block⟩
set_option maxRecDepth 100000 in
theorem Only.blk {b : Nat} {a w : World} (h : Only b a w) {c : Nat} (hc : c = b ∨ a.heap.size ≤ c) (o : Obj) : Only b a (blk w c o) :=
  ⟨h.os, h.tape, h.output, Nat.le_trans h.size (by simp [Proofs.YtceljjnohjnepaaDoor.blk]), fun i hi hn => (blk_other i (by omega)).trans (h.block i hi hn)⟩
set_option maxRecDepth 100000 in
theorem Only.setCell {b : Nat} {a w : World} (h : Only b a w) {p : Addr} (hp : p.block = b ∨ a.heap.size ≤ p.block) (u : Value) : Only b a (w.setCell p u) :=
  ⟨h.os, h.tape, h.output, Nat.le_trans h.size (by simp [World.setCell]), fun i hi hn => (Below.heap_setCell w p u i (by omega)).trans (h.block i hi hn)⟩
set_option maxRecDepth 100000 in
theorem Only.cell {b : Nat} {w w' : World} (h : Only b w w') {p : Addr} (hp : p.block < w.heap.size) (hn : p.block ≠ b) : w'.cell? p = w.cell? p := World.cell?_of_block (w := w) (h.block p.block hp hn)
set_option maxRecDepth 100000 in
theorem below_new {w : World} (o : Obj) : Below w.heap.size w (w.alloc o) := alloc_below _ _ _ (Nat.le_refl _)
set_option maxRecDepth 100000 in
theorem below_alloc {W w : World} (h : Below W.heap.size W w) (o : Obj) : Below W.heap.size W (w.alloc o) := h.alloc h.size o
set_option maxRecDepth 100000 in
theorem below_blk' {W w : World} (h : Below W.heap.size W w) {b : Nat} (hb : W.heap.size ≤ b) (o : Obj) : Below W.heap.size W (blk w b o) := h.trans (below_blk hb)
set_option maxRecDepth 100000 in
theorem below_to {W w w' : World} (h : Below W.heap.size W w) (h' : Below w.heap.size w w') : Below W.heap.size W w' := h.trans (h'.mono h.size)

set_option maxRecDepth 100000 in
theorem still_tail {P : Program} {id : Nat} {Q : Exit → Act → World → Prop} {a : Act} {w : World} {l : List Oper} (n : Nat) (hm : P.follows .mixedOrders = true) (hB : Region.lexTailB .any l.toArray n = true)
    (h : wpStill P l.toArray w.drew (fun a' => wpList P l.toArray Q (l.drop n) a' w.drew) (l.take n) a) : (Code.region id l.toArray true).wp P Q a w := wp_region_still_tail n hm hB h

set_option maxRecDepth 100000 in
theorem rsame {P : Program} {f : FuncId} {args : Array Value} {w : World} {v : Value} (h : Calls P f args w fun e w' => e = .returned v ∧ w = w') :
   Calls P f args w fun e w' => e = .returned v ∧ w' = w := h.mono fun _ _ ⟨a, b⟩ => ⟨a, b.symm⟩

end Go.Proofs.YtceljjnohjnepaaDoor

namespace Go.Proofs.YtceljjnohjnepaaDoor
open Go.RowKit

set_option maxRecDepth 100000 in
theorem call_add64 (x y c : Int) (hx : 0 ≤ x) (hy : 0 ≤ y) (hc0 : 0 ≤ c) (hc : c ≤ 1) (w : World) :
    (callFunc 31 #[.int .u64 x, .int .u64 y, .int .u64 c]).run Tryd.prog w = .ok (.value (.tuple #[.int .u64 ((x + y + c) % 18446744073709551616), .int .u64 ((x + y + c) / 18446744073709551616)])) w := by
  rw [run_callFunc_extern (e := add64Entry) Tryd.func31 (by kernel_rfl) (by kernel_rfl) (by kernel_rfl) (by kernel_rfl), run_add64 x y c hx hy hc0 hc]
  rfl

def sub64Entry : Array Value → Sem Value := fun args => do
  let (x, y, b) ← Extern.MathBitsCarry.three "Sub64" args
  pure (Extern.MathBitsCarry.pair ((x + Extern.MathBitsCarry.m64 - y - b) % Extern.MathBitsCarry.m64) (if x < y + b then 1 else 0))

set_option maxRecDepth 100000 in
theorem run_sub64 {P : Program} (x y c : Int) (hx : 0 ≤ x) (hy : 0 ≤ y ∧ y < 18446744073709551616) (hc0 : 0 ≤ c) (hc : c ≤ 1) (w : World) :
    (sub64Entry #[.int .u64 x, .int .u64 y, .int .u64 c]).run P w = .ok (.tuple #[.int .u64 ((x - y - c) % 18446744073709551616), .int .u64 (if x < y + c then 1 else 0)]) w := by
  have key : ∀ k : Nat, k ≤ 1 → (sub64Entry #[.int .u64 x, .int .u64 y, .int .u64 (k : Int)]).run P w =
      .ok (Extern.MathBitsCarry.pair ((x.toNat + Extern.MathBitsCarry.m64 - y.toNat - k) % Extern.MathBitsCarry.m64) (if x.toNat < y.toNat + k then 1 else 0)) w := by
    intro k hk
    have : k = 0 ∨ k = 1 := by omega
    rcases this with rfl | rfl <;> rfl
  obtain ⟨k, rfl⟩ := Int.eq_ofNat_of_zero_le hc0
  rw [key k (by omega)]
  obtain ⟨X, rfl⟩ := Int.eq_ofNat_of_zero_le hx
  obtain ⟨Y, rfl⟩ := Int.eq_ofNat_of_zero_le hy.1
  simp only [Extern.MathBitsCarry.pair, Extern.MathBitsCarry.m64, Int.toNat_natCast]
  have e1 : (Int.ofNat ((X + 2 ^ 64 - Y - k) % 2 ^ 64)) = ((X : Int) - Y - k) % 18446744073709551616 := by
    simp only [Int.ofNat_eq_natCast]; omega
  have e2 : (Int.ofNat (if X < Y + k then 1 else 0)) = if (X : Int) < Y + k then 1 else 0 := by
    split <;> split <;> first | rfl | omega
  rw [e1, e2]

set_option maxRecDepth 100000 in
theorem call_sub64 (x y c : Int) (hx : 0 ≤ x) (hy : 0 ≤ y ∧ y < 18446744073709551616) (hc0 : 0 ≤ c) (hc : c ≤ 1) (w : World) :
    (callFunc 51 #[.int .u64 x, .int .u64 y, .int .u64 c]).run Tryd.prog w = .ok (.value (.tuple #[.int .u64 ((x - y - c) % 18446744073709551616), .int .u64 (if x < y + c then 1 else 0)])) w := by
  rw [run_callFunc_extern (e := sub64Entry) Tryd.func51 (by kernel_rfl) (by kernel_rfl) (by kernel_rfl) (by kernel_rfl), run_sub64 x y c hx hy hc0 hc]
  rfl

section
variable {ops : Array Oper} {rest : List Oper} {o : Oper} {a : Act} {w : World} {Q : Exit → Act → World → Prop}
set_option maxRecDepth 100000 in
theorem wpList_extern {P : Program} {f : FuncId} {p q r : Operand} {ts : Array TypeId} {v : Value} (hg : o.guard = none) (ho : o.op = .call ⟨.value (.func f), #[p, q, r], ts⟩)
    (hr : (callFunc f #[a.eval p, a.eval q, a.eval r]).run P w = .ok (.value v) w) (h : wpList P ops Q rest (a.put o.dst v) w) : wpList P ops Q (o :: rest) a w := by
  refine wpList_plain hg fun K hK => ?_
  unfold Oper.wp
  have e : (execOp a.eval o).run P w = .ok (.value v) w := by
    simp only [execOp, ho]
    simp [go_sem, Act.eval] at hr ⊢
    simpa using hr
  rw [e]
  exact hK _ _ h

set_option maxRecDepth 100000 in
theorem wpList_add64 {p q r : Operand} {ts : Array TypeId} (hg : o.guard = none) (ho : o.op = .call ⟨.value (.func 31), #[p, q, r], ts⟩) (x y c : Int) (ex : a.eval p = .int .u64 x) (ey : a.eval q = .int .u64 y) (ec : a.eval r = .int .u64 c)
    (hx : 0 ≤ x) (hy : 0 ≤ y) (hc0 : 0 ≤ c) (hc : c ≤ 1) (hb : x < 18446744073709551616 ∧ y < 18446744073709551616)
    (h : ∀ lo hi : Int, 0 ≤ lo → lo < 18446744073709551616 → 0 ≤ hi → hi ≤ 1 → lo + 18446744073709551616 * hi ≤ x + y + c → x + y + c ≤ lo + 18446744073709551616 * hi →
      wpList Tryd.prog ops Q rest (a.put o.dst (.tuple #[.int .u64 lo, .int .u64 hi])) w) : wpList Tryd.prog ops Q (o :: rest) a w :=
  wpList_extern hg ho (by rw [ex, ey, ec]; exact call_add64 x y c hx hy hc0 hc w) (h _ _ (by omega) (by omega) (by omega) (by omega) (by omega) (by omega))

set_option maxRecDepth 100000 in
theorem wpList_sub64 {p q r : Operand} {ts : Array TypeId} (hg : o.guard = none) (ho : o.op = .call ⟨.value (.func 51), #[p, q, r], ts⟩) (x y c : Int) (ex : a.eval p = .int .u64 x) (ey : a.eval q = .int .u64 y) (ec : a.eval r = .int .u64 c)
    (hx : 0 ≤ x) (hy : 0 ≤ y) (hc0 : 0 ≤ c) (hc : c ≤ 1) (hb : x < 18446744073709551616 ∧ y < 18446744073709551616)
    (h : ∀ lo hi : Int, 0 ≤ lo → lo < 18446744073709551616 → 0 ≤ hi → hi ≤ 1 → lo + y + c ≤ x + 18446744073709551616 * hi → x + 18446744073709551616 * hi ≤ lo + y + c →
      wpList Tryd.prog ops Q rest (a.put o.dst (.tuple #[.int .u64 lo, .int .u64 hi])) w) : wpList Tryd.prog ops Q (o :: rest) a w :=
  wpList_extern hg ho (by rw [ex, ey, ec]; exact call_sub64 x y c hx ⟨hy, hb.2⟩ hc0 hc w) (h _ _ (by omega) (by omega) (by split <;> omega) (by split <;> omega) (by split <;> omega) (by split <;> omega))
end

set_option maxRecDepth 100000 in
set_option maxHeartbeats 400000 in
theorem mul64_any (x y : Int) (w : World) (hx : 0 ≤ x ∧ x < 18446744073709551616) (hy : 0 ≤ y ∧ y < 18446744073709551616) :
    Calls Tryd.prog 30 #[.int .u64 x, .int .u64 y] w fun e w' => e = .returned (.tuple #[.int .u64 (x * y / 18446744073709551616), .int .u64 (x * y % 18446744073709551616)]) ∧ w = w' := by
  have E := hid (mul64_arith x y hx.1 hx.2 hy.1 hy.2)
  go_enter Tryd.func30, Tryd.ntmps30
  go_wp2
  go_ret2
  refine ⟨?_, rfl⟩
  rw [← E.out]
  simp only [and_low32 x hx.1 hx.2, and_low32 y hy.1 hy.2, IntKind.wrap_u64, Array.getD]
  simp only [and_low32 (_ % 18446744073709551616) (Int.emod_nonneg _ (by decide)) (Int.emod_lt_of_pos _ (by decide))]
  rfl

set_option maxRecDepth 100000 in
/-- The same with names for the two words. -/
theorem mul64_facts (x y : Int) (hx : 0 ≤ x ∧ x < 18446744073709551616) (hy : 0 ≤ y ∧ y < 18446744073709551616) :
    ∃ hi lo : Int, x * y / 18446744073709551616 = hi ∧ x * y % 18446744073709551616 = lo ∧ 0 ≤ hi ∧ hi ≤ 18446744073709551614 ∧ 0 ≤ lo ∧ lo < 18446744073709551616 ∧ x * y = lo + 18446744073709551616 * hi ∧ lo + 18446744073709551616 * hi ≤ 340282366920938463426481119284349108225 := by
  have h1 : x * y ≤ 18446744073709551615 * 18446744073709551615 := Int.mul_le_mul (by omega) (by omega) hy.1 (by omega)
  have h2 : 0 ≤ x * y := Int.mul_nonneg hx.1 hy.1
  exact ⟨_, _, rfl, rfl, by omega, by omega, by omega, by omega, by omega, by omega⟩

/-- A number below 2^256 in four words. -/
def quad (n : Nat) : Array Value := #[.int .u64 ((n % 18446744073709551616 : Nat) : Int), .int .u64 ((n / 18446744073709551616 % 18446744073709551616 : Nat) : Int),
  .int .u64 ((n / 340282366920938463463374607431768211456 % 18446744073709551616 : Nat) : Int), .int .u64 ((n / 6277101735386680763835789423207666416102355444464034512896 % 18446744073709551616 : Nat) : Int)]
/-- What four words are. -/
structure W4 (n : Nat) (a0 a1 a2 a3 : Int) : Prop where
  l0 : 0 ≤ a0
  l1 : 0 ≤ a1
  l2 : 0 ≤ a2
  l3 : 0 ≤ a3
  u0 : a0 < 18446744073709551616
  u1 : a1 < 18446744073709551616
  u2 : a2 < 18446744073709551616
  u3 : a3 < 18446744073709551616
  eq : a0 + 18446744073709551616 * a1 + 340282366920938463463374607431768211456 * a2 + 6277101735386680763835789423207666416102355444464034512896 * a3 = n
set_option maxRecDepth 100000 in
theorem quad_w4 (n : Nat) (h : n < 115792089237316195423570985008687907853269984665640564039457584007913129639936) : ∃ a0 a1 a2 a3 : Int, quad n = #[.int .u64 a0, .int .u64 a1, .int .u64 a2, .int .u64 a3] ∧ W4 n a0 a1 a2 a3 :=
  ⟨_, _, _, _, rfl, by constructor <;> omega⟩
set_option maxRecDepth 100000 in
theorem W4.quad {n : Nat} {a0 a1 a2 a3 : Int} (h : W4 n a0 a1 a2 a3) : quad n = #[.int .u64 a0, .int .u64 a1, .int .u64 a2, .int .u64 a3] := by
  obtain ⟨h1, h2, h3, h4, h5, h6, h7, h8, h9⟩ := h
  unfold Proofs.YtceljjnohjnepaaDoor.quad
  congr 1
  simp only [List.cons.injEq, Value.int.injEq, true_and, and_true]
  omega

set_option maxRecDepth 100000 in
theorem and1_shr (x r : Nat) (hx : x < 18446744073709551616) : bits .and .u64 ((x : Int) / (2 : Int) ^ r) 1 = ((x / 2 ^ r % 2 : Nat) : Int) := by
  have e : ((x : Int) / (2 : Int) ^ r) = ((x / 2 ^ r : Nat) : Int) := by rw [Int.natCast_ediv, Int.natCast_pow]; rfl
  have hle : x / 2 ^ r ≤ x := Nat.div_le_self _ _
  rw [e, show (1 : Int) = ((1 : Nat) : Int) from rfl, u64_and_nat _ _ (by omega) (by decide), nat_mask1]

set_option maxRecDepth 100000 in
theorem or_byte (x c r : Nat) (hx : x < 2 ^ (8 * r)) (hc : c < 256) (hr : r < 8) :
    bits .or .u64 (x : Int) (IntKind.u64.wrap (IntKind.u64.wrap (c : Int) * (2 : Int) ^ (r * 8))) = ((x + c * 2 ^ (8 * r) : Nat) : Int) := by
  have h2 : 2 ^ (8 * r) ≤ 2 ^ 56 := Nat.pow_le_pow_right (by decide) (by omega)
  have h1 : c * 2 ^ (8 * r) ≤ 255 * 2 ^ (8 * r) := Nat.mul_le_mul_right _ (by omega)
  have e1 : IntKind.u64.wrap (c : Int) = (c : Int) := IntWalk.u64_in _ (by omega)
  have e2 : ((c : Int) * (2 : Int) ^ (r * 8)) = ((c * 2 ^ (8 * r) : Nat) : Int) := by
    rw [Nat.mul_comm r 8, Int.natCast_mul, Int.natCast_pow]; rfl
  rw [e1, e2, IntWalk.u64_in _ (by omega), u64_or_nat _ _ (by omega) (by omega), Nat.or_comm, nat_join (8 * r) _ _ (Nat.mul_mod_left _ _) hx, Nat.add_comm]

set_option maxRecDepth 100000 in
theorem or1_facts (a b : Int) (_ha : 0 ≤ a) (hb : 0 ≤ b ∧ b ≤ 1) :
    ∃ x : Int, bits .or .u64 (IntKind.u64.wrap (a * 2)) b = x ∧ 0 ≤ x ∧ x < 18446744073709551616 ∧ x ≤ a * 2 % 18446744073709551616 + b ∧ a * 2 % 18446744073709551616 + b ≤ x := by
  refine ⟨_, rfl, ?_⟩
  rw [IntKind.wrap_u64, u64_or _ _ (Int.emod_nonneg _ (by decide)) (Int.emod_lt_of_pos _ (by decide)) hb.1 (by omega), nat_join 1 _ _ (by omega) (by omega)]
  omega

end Go.Proofs.YtceljjnohjnepaaDoor

namespace Go.Proofs.YtceljjnohjnepaaDoor.DG

/-- What digits are, the lowest first. -/
def val (B : Nat) : List Nat → Nat
  | [] => 0
  | x :: xs => x + B * val B xs
/-- So many digits of a number, the lowest first. -/
def digs (B : Nat) : Nat → Nat → List Nat
  | _, 0 => []
  | n, k + 1 => n % B :: digs B (n / B) k
def All (B : Nat) (l : List Nat) : Prop := ∀ x ∈ l, x < B

variable {B : Nat}
set_option maxRecDepth 100000 in
theorem digs_length (n k : Nat) : (digs B n k).length = k := by
  induction k generalizing n with
  | zero => rfl
  | succ k ih => simp [digs, ih]
set_option maxRecDepth 100000 in
theorem digs_all (hB : 0 < B) (n k : Nat) : All B (digs B n k) := by
  induction k generalizing n with
  | zero => intro x h; simp [digs] at h
  | succ k ih =>
    intro x h
    simp only [digs, List.mem_cons] at h
    rcases h with rfl | h
    · exact Nat.mod_lt _ hB
    · exact ih _ x h
set_option maxRecDepth 100000 in
theorem val_digs (n k : Nat) : val B (digs B n k) = n % B ^ k := by
  induction k generalizing n with
  | zero => simp [digs, val, Nat.mod_one]
  | succ k ih =>
    simp only [digs, val, ih]
    rw [Nat.pow_succ', Nat.mod_mul]
set_option maxRecDepth 100000 in
theorem val_lt {l : List Nat} (h : All B l) : val B l < B ^ l.length := by
  induction l with
  | nil => simp [val]
  | cons x xs ih =>
    have h1 := ih (fun y hy => h y (by simp [hy]))
    have h2 := h x (by simp)
    simp only [val, List.length_cons, Nat.pow_succ']
    have h3 : B * (val B xs + 1) ≤ B * B ^ xs.length := Nat.mul_le_mul_left B h1
    rw [Nat.mul_add] at h3
    omega
set_option maxRecDepth 100000 in
theorem digs_val {l : List Nat} (h : All B l) : digs B (val B l) l.length = l := by
  induction l with
  | nil => rfl
  | cons x xs ih =>
    have h1 := ih (fun y hy => h y (by simp [hy]))
    have h2 := h x (by simp)
    simp only [val, List.length_cons, digs]
    rw [Nat.add_mul_mod_self_left, Nat.mod_eq_of_lt h2, Nat.add_mul_div_left _ _ (by omega), Nat.div_eq_of_lt h2, Nat.zero_add, h1]
set_option maxRecDepth 100000 in
theorem val_inj {l m : List Nat} (hl : All B l) (hm : All B m) (hlen : l.length = m.length) (h : val B l = val B m) : l = m := by
  rw [← digs_val hl, ← digs_val hm, h, hlen]
set_option maxRecDepth 100000 in
theorem val_append (l m : List Nat) : val B (l ++ m) = val B l + B ^ l.length * val B m := by
  induction l with
  | nil => simp [val]
  | cons x xs ih => simp only [List.cons_append, val, ih, List.length_cons, Nat.pow_succ', Nat.mul_add, Nat.mul_assoc]; omega
set_option maxRecDepth 100000 in
theorem val_set {l : List Nat} {j : Nat} (hj : j < l.length) (v : Nat) : val B (l.set j v) + l.getD j 0 * B ^ j = val B l + v * B ^ j := by
  induction l generalizing j with
  | nil => simp at hj
  | cons x xs ih =>
    cases j with
    | zero => simp [val]; omega
    | succ j =>
      have h1 := ih (j := j) (by simpa using hj)
      simp only [List.set_cons_succ, val, List.getD_cons_succ, Nat.pow_succ']
      have h2 : B * (val B (xs.set j v) + xs.getD j 0 * B ^ j) = B * (val B xs + v * B ^ j) := by rw [h1]
      rw [Nat.mul_add, Nat.mul_add] at h2
      rw [show xs.getD j 0 * (B * B ^ j) = B * (xs.getD j 0 * B ^ j) by rw [Nat.mul_left_comm], show v * (B * B ^ j) = B * (v * B ^ j) by rw [Nat.mul_left_comm]]
      omega
set_option maxRecDepth 100000 in
theorem val_digit {l : List Nat} (h : All B l) (j : Nat) (hj : j < l.length) : val B l / B ^ j % B = l.getD j 0 := by
  induction l generalizing j with
  | nil => simp at hj
  | cons x xs ih =>
    have h2 := h x (by simp)
    cases j with
    | zero => simp [val, Nat.add_mul_mod_self_left, Nat.mod_eq_of_lt h2]
    | succ j =>
      have h1 := ih (fun y hy => h y (by simp [hy])) j (by simpa using hj)
      simp only [val, List.getD_cons_succ, Nat.pow_succ']
      rw [← Nat.div_div_eq_div_mul, Nat.add_mul_div_left _ _ (by omega), Nat.div_eq_of_lt h2, Nat.zero_add, h1]
set_option maxRecDepth 100000 in
theorem digs_getD (n : Nat) {k j : Nat} (hj : j < k) : (digs B n k).getD j 0 = n / B ^ j % B := by
  induction k generalizing n j with
  | zero => omega
  | succ k ih =>
    cases j with
    | zero => simp [digs]
    | succ j =>
      simp only [digs, List.getD_cons_succ]
      rw [ih _ (by omega), Nat.pow_succ', Nat.div_div_eq_div_mul]
set_option maxRecDepth 100000 in
/-- A bit of a number, told by its digit of 2^w. -/
theorem bit_digit {w : Nat} {l : List Nat} (h : All (2 ^ w) l) (i : Nat) (hw : 0 < w) (hi : i < w * l.length) : val (2 ^ w) l / 2 ^ i % 2 = l.getD (i / w) 0 / 2 ^ (i % w) % 2 := by
  have hq : i / w < l.length := Nat.div_lt_of_lt_mul hi
  have h1 := val_digit h (i / w) hq
  have h2 : 2 ^ i = (2 ^ w) ^ (i / w) * 2 ^ (i % w) := by rw [← Nat.pow_mul, ← Nat.pow_add, Nat.div_add_mod]
  rw [h2, ← Nat.div_div_eq_div_mul, ← h1]
  generalize val (2 ^ w) l / (2 ^ w) ^ (i / w) = n
  have hr : i % w < w := Nat.mod_lt _ hw
  have h3 : 2 ^ w = 2 ^ (i % w) * (2 * 2 ^ (w - 1 - i % w)) := by rw [← Nat.pow_succ', ← Nat.pow_add]; congr 1; omega
  rw [h3, Nat.mod_mul, Nat.add_mul_div_left _ _ (Nat.two_pow_pos _), Nat.div_eq_of_lt (Nat.mod_lt _ (Nat.two_pow_pos _)), Nat.zero_add, Nat.mod_mul_right_mod]
set_option maxRecDepth 100000 in
theorem All.getD {l : List Nat} (h : All B l) {j : Nat} (hj : j < l.length) : l.getD j 0 < B := by
  have : l.getD j 0 = l[j] := by simp [hj]
  rw [this]; exact h _ (List.getElem_mem _)
set_option maxRecDepth 100000 in
theorem val_nil : val B [] = 0 := rfl
set_option maxRecDepth 100000 in
theorem val_replicate (k : Nat) : val B (List.replicate k 0) = 0 := by
  induction k with
  | zero => rfl
  | succ k ih => simp [List.replicate_succ, val, ih]

/-- A number of bytes, the lowest first. -/
def bytesNat (l : List UInt8) : Nat := val 256 (l.map (·.toNat))
set_option maxRecDepth 100000 in
theorem bytes_all (l : List UInt8) : All 256 (l.map (·.toNat)) := by
  intro x h
  obtain ⟨c, _, rfl⟩ := List.mem_map.1 h
  exact c.toNat_lt
set_option maxRecDepth 100000 in
theorem bytesNat_lt (l : List UInt8) : bytesNat l < 256 ^ l.length := by
  have := val_lt (bytes_all l); simpa [bytesNat] using this
def natBytes (n k : Nat) : List UInt8 := (digs 256 n k).map UInt8.ofNat
set_option maxRecDepth 100000 in
theorem natBytes_length (n k : Nat) : (natBytes n k).length = k := by simp [natBytes, digs_length]
set_option maxRecDepth 100000 in
theorem natBytes_map (n k : Nat) : (natBytes n k).map (·.toNat) = digs 256 n k := by
  unfold natBytes
  rw [List.map_map]
  conv => rhs; rw [← List.map_id (digs 256 n k)]
  refine List.map_congr_left fun x hx => ?_
  have := digs_all (B := 256) (by decide) n k x hx
  simp [Nat.mod_eq_of_lt this]
set_option maxRecDepth 100000 in
theorem bytesNat_natBytes (n k : Nat) : bytesNat (natBytes n k) = n % 256 ^ k := by
  unfold bytesNat; rw [natBytes_map, val_digs]
set_option maxRecDepth 100000 in
theorem natBytes_bytesNat (l : List UInt8) : natBytes (bytesNat l) l.length = l := by
  unfold natBytes bytesNat
  have h := digs_val (bytes_all l)
  rw [List.length_map] at h
  rw [h, List.map_map]
  conv => rhs; rw [← List.map_id l]
  exact List.map_congr_left fun x _ => by simp
set_option maxRecDepth 100000 in
theorem bytesNat_inj {l m : List UInt8} (hlen : l.length = m.length) (h : bytesNat l = bytesNat m) : l = m := by
  rw [← natBytes_bytesNat l, ← natBytes_bytesNat m, h, hlen]
set_option maxRecDepth 100000 in
theorem natBytes_inj {n m k : Nat} (hn : n < 256 ^ k) (hm : m < 256 ^ k) (h : natBytes n k = natBytes m k) : n = m := by
  have h1 := bytesNat_natBytes n k
  have h2 := bytesNat_natBytes m k
  rw [Nat.mod_eq_of_lt hn] at h1
  rw [Nat.mod_eq_of_lt hm] at h2
  rw [← h1, ← h2, h]

end Go.Proofs.YtceljjnohjnepaaDoor.DG

namespace Go.Proofs.YtceljjnohjnepaaDoor
open Go.RowKit

def pP : Nat := 57896044618658097711785492504343953926634992332820282019728792003956564819949
def p2 : Nat := 115792089237316195423570985008687907853269984665640564039457584007913129639936
def plusN (a n : Nat) : Nat := (a + n) % p2 + 38 * ((a + n) / p2)
def addN (a b : Nat) : Nat := plusN ((a + b) % p2) (38 * ((a + b) / p2))
def subN (a b : Nat) : Nat :=
  ((a + p2 - b) % p2 + p2 - 38 * (if a < b then 1 else 0)) % p2 - 38 * (if (a + p2 - b) % p2 < 38 * (if a < b then 1 else 0) then 1 else 0)
def foldN (t : Nat) : Nat := t % p2 + 38 * (t / p2)
def mulN (a b : Nat) : Nat := plusN (foldN (a * b) % p2) (38 * (foldN (a * b) / p2))

set_option maxRecDepth 100000 in
theorem p2_eq : p2 = 2 * pP + 38 := rfl
set_option maxRecDepth 100000 in
theorem fold_mod (t : Nat) : foldN t % pP = t % pP := by
  unfold foldN
  have h := Nat.div_add_mod t p2
  have e : t = (t % p2 + 38 * (t / p2)) + pP * (2 * (t / p2)) := by
    conv => lhs; rw [← h, p2_eq]
    rw [Nat.add_mul, ← Nat.mul_assoc pP 2, Nat.mul_comm pP 2]
    rw [← p2_eq]; omega
  conv => rhs; rw [e]
  rw [Nat.add_mul_mod_self_left]
set_option maxRecDepth 100000 in
theorem plus_lt {a n : Nat} (ha : a < p2) (hn : n ≤ 10000) : plusN a n < p2 := by unfold plusN p2 at *; omega
set_option maxRecDepth 100000 in
theorem plus_mod (a n : Nat) : plusN a n % pP = (a + n) % pP := fold_mod (a + n)
set_option maxRecDepth 100000 in
theorem add_lt {a b : Nat} (ha : a < p2) (hb : b < p2) : addN a b < p2 := plus_lt (Nat.mod_lt _ (by decide)) (by
  have : (a + b) / p2 < 2 := Nat.div_lt_of_lt_mul (by omega)
  omega)
set_option maxRecDepth 100000 in
theorem add_mod (a b : Nat) : addN a b % pP = (a + b) % pP := by
  unfold addN
  rw [plus_mod]; exact fold_mod (a + b)
set_option maxRecDepth 100000 in
theorem sub_lt {a b : Nat} (_ : a < p2) (_ : b < p2) : subN a b < p2 := by
  unfold subN
  have : ((a + p2 - b) % p2 + p2 - 38 * (if a < b then 1 else 0)) % p2 < p2 := Nat.mod_lt _ (by decide)
  omega
set_option maxRecDepth 100000 in
theorem sub_key {a b M P : Nat} (hM : M = 2 * P + 38) (hP : 100 < P) (ha : a < M) (hb : b < M) :
    ∃ k, (((a + M - b) % M + M - 38 * (if a < b then 1 else 0)) % M - 38 * (if (a + M - b) % M < 38 * (if a < b then 1 else 0) then 1 else 0)) + b + k * P = a + 4 * P := by
  by_cases h : a < b
  · rw [if_pos h]
    have e1 : (a + M - b) % M = a + M - b := Nat.mod_eq_of_lt (by omega)
    rw [e1]
    by_cases h2 : a + M - b < 38 * 1
    · rw [if_pos h2]
      have e2 : (a + M - b + M - 38 * 1) % M = a + M - b + M - 38 * 1 := Nat.mod_eq_of_lt (by omega)
      rw [e2]
      exact ⟨0, by omega⟩
    · rw [if_neg h2]
      have e2 : (a + M - b + M - 38 * 1) % M = a + M - b - 38 := by
        rw [show a + M - b + M - 38 * 1 = (a + M - b - 38) + M by omega, Nat.add_mod_right, Nat.mod_eq_of_lt (by omega)]
      rw [e2]
      exact ⟨2, by omega⟩
  · rw [if_neg h]
    simp only [Nat.mul_zero, Nat.not_lt_zero, if_false, Nat.sub_zero]
    have e1 : (a + M - b) % M = a - b := by rw [show a + M - b = (a - b) + M by omega, Nat.add_mod_right, Nat.mod_eq_of_lt (by omega)]
    rw [e1, Nat.add_mod_right, Nat.mod_eq_of_lt (by omega)]
    exact ⟨4, by omega⟩
set_option maxRecDepth 100000 in
theorem sub_mod {a b : Nat} (ha : a < p2) (hb : b < p2) : (subN a b + b) % pP = a % pP := by
  obtain ⟨k, hk⟩ := sub_key (P := pP) p2_eq (by decide) ha hb
  have hk' : subN a b + b + k * pP = a + 4 * pP := hk
  have h1 := congrArg (· % pP) hk'
  simpa [Nat.add_mul_mod_self_right] using h1
set_option maxRecDepth 100000 in
theorem mul_foldlt {a b : Nat} (ha : a < p2) (hb : b < p2) : foldN (a * b) / p2 ≤ 38 := by
  have h1 : a * b < p2 * p2 := Nat.mul_lt_mul'' ha hb
  have h2 : a * b / p2 < p2 := Nat.div_lt_of_lt_mul h1
  have h3 : foldN (a * b) < 39 * p2 := by
    unfold foldN
    have := Nat.mod_lt (a * b) (show 0 < p2 by decide)
    omega
  have h4 : foldN (a * b) / p2 < 39 := Nat.div_lt_of_lt_mul (Nat.lt_of_lt_of_eq h3 (Nat.mul_comm _ _))
  omega
set_option maxRecDepth 100000 in
theorem mul_lt {a b : Nat} (ha : a < p2) (hb : b < p2) : mulN a b < p2 := plus_lt (Nat.mod_lt _ (by decide)) (by have := mul_foldlt ha hb; omega)
set_option maxRecDepth 100000 in
theorem mul_mod (a b : Nat) : mulN a b % pP = a * b % pP := by
  unfold mulN
  rw [plus_mod]
  have := fold_mod (foldN (a * b))
  unfold foldN at this ⊢
  rw [this]
  exact fold_mod (a * b)

set_option maxRecDepth 100000 in
/-- Four words, without their sum. -/
theorem w4_of {n : Nat} {a0 a1 a2 a3 : Int} (h0 : 0 ≤ a0 ∧ a0 < 18446744073709551616) (h1 : 0 ≤ a1 ∧ a1 < 18446744073709551616) (h2 : 0 ≤ a2 ∧ a2 < 18446744073709551616) (h3 : 0 ≤ a3 ∧ a3 < 18446744073709551616)
    (h : a0 + 18446744073709551616 * a1 + 340282366920938463463374607431768211456 * a2 + 6277101735386680763835789423207666416102355444464034512896 * a3 = n) : W4 n a0 a1 a2 a3 :=
  ⟨h0.1, h1.1, h2.1, h3.1, h0.2, h1.2, h2.2, h3.2, h⟩
set_option maxRecDepth 100000 in
theorem four_lt {a0 a1 a2 a3 : Int} (l0 : 0 ≤ a0) (l1 : 0 ≤ a1) (l2 : 0 ≤ a2) (l3 : 0 ≤ a3) (u0 : a0 < 18446744073709551616) (u1 : a1 < 18446744073709551616) (u2 : a2 < 18446744073709551616) (u3 : a3 < 18446744073709551616) :
    0 ≤ a0 + 18446744073709551616 * a1 + 340282366920938463463374607431768211456 * a2 + 6277101735386680763835789423207666416102355444464034512896 * a3 ∧
    a0 + 18446744073709551616 * a1 + 340282366920938463463374607431768211456 * a2 + 6277101735386680763835789423207666416102355444464034512896 * a3 < 115792089237316195423570985008687907853269984665640564039457584007913129639936 := by omega
set_option maxRecDepth 100000 in
theorem add_sum {a0 a1 a2 a3 b0 b1 b2 b3 d0 d1 d2 d3 e0 e1 e2 e3 : Int} (h0 : d0 + 18446744073709551616 * e0 = a0 + b0) (h1 : d1 + 18446744073709551616 * e1 = a1 + b1 + e0)
    (h2 : d2 + 18446744073709551616 * e2 = a2 + b2 + e1) (h3 : d3 + 18446744073709551616 * e3 = a3 + b3 + e2) :
    (d0 + 18446744073709551616 * d1 + 340282366920938463463374607431768211456 * d2 + 6277101735386680763835789423207666416102355444464034512896 * d3) + 115792089237316195423570985008687907853269984665640564039457584007913129639936 * e3 =
      (a0 + 18446744073709551616 * a1 + 340282366920938463463374607431768211456 * a2 + 6277101735386680763835789423207666416102355444464034512896 * a3) + (b0 + 18446744073709551616 * b1 + 340282366920938463463374607431768211456 * b2 + 6277101735386680763835789423207666416102355444464034512896 * b3) := by omega
set_option maxRecDepth 100000 in
/-- Splitting a sum with its carry. -/
theorem split_carry {X : Nat} {D e : Int} (h : D + 115792089237316195423570985008687907853269984665640564039457584007913129639936 * e = X) (h0 : 0 ≤ D) (h1 : D < 115792089237316195423570985008687907853269984665640564039457584007913129639936) (_he : 0 ≤ e) :
    D = ((X % p2 : Nat) : Int) ∧ e = ((X / p2 : Nat) : Int) := by
  unfold p2
  omega

set_option maxRecDepth 100000 in
/-- 'plus': the law of its four sums. -/
theorem plus_law {n a : Nat} {a0 a1 a2 a3 d0 d1 d2 d3 e0 e1 e2 e3 : Int} (ha : W4 a a0 a1 a2 a3) (hn : n ≤ 10000)
    (d0l : 0 ≤ d0) (d0u : d0 < 18446744073709551616) (d1l : 0 ≤ d1) (d1u : d1 < 18446744073709551616) (d2l : 0 ≤ d2) (d2u : d2 < 18446744073709551616) (d3l : 0 ≤ d3) (d3u : d3 < 18446744073709551616)
    (e3l : 0 ≤ e3) (e3u : e3 ≤ 1)
    (p0 : d0 + 18446744073709551616 * e0 ≤ a0 + (n : Int) + 0) (q0 : a0 + (n : Int) + 0 ≤ d0 + 18446744073709551616 * e0)
    (p1 : d1 + 18446744073709551616 * e1 ≤ a1 + 0 + e0) (q1 : a1 + 0 + e0 ≤ d1 + 18446744073709551616 * e1)
    (p2' : d2 + 18446744073709551616 * e2 ≤ a2 + 0 + e1) (q2 : a2 + 0 + e1 ≤ d2 + 18446744073709551616 * e2)
    (p3 : d3 + 18446744073709551616 * e3 ≤ a3 + 0 + e2) (q3 : a3 + 0 + e2 ≤ d3 + 18446744073709551616 * e3) :
    0 ≤ d0 + 38 * e3 ∧ d0 + 38 * e3 < 18446744073709551616 ∧ W4 (plusN a n) (d0 + 38 * e3) d1 d2 d3 := by
  obtain ⟨l0, l1, l2, l3, u0, u1, u2, u3, hv⟩ := ha
  have s := add_sum (a0 := a0) (a1 := a1) (a2 := a2) (a3 := a3) (b0 := n) (b1 := 0) (b2 := 0) (b3 := 0) (d0 := d0) (d1 := d1) (d2 := d2) (d3 := d3) (e0 := e0) (e1 := e1) (e2 := e2) (e3 := e3) (by omega) (by omega) (by omega) (by omega)
  have b := four_lt d0l d1l d2l d3l d0u d1u d2u d3u
  rw [hv] at s
  clear p0 q0 p1 q1 p2' q2 p3 q3
  have hsp := split_carry (X := a + n) (D := d0 + 18446744073709551616 * d1 + 340282366920938463463374607431768211456 * d2 + 6277101735386680763835789423207666416102355444464034512896 * d3) (e := e3) (by rw [s]; simp) b.1 b.2 e3l
  have hA : (a : Int) < 115792089237316195423570985008687907853269984665640564039457584007913129639936 := by rw [← hv]; exact (four_lt l0 l1 l2 l3 u0 u1 u2 u3).2
  have hd : 0 ≤ d0 + 38 * e3 ∧ d0 + 38 * e3 < 18446744073709551616 := by
    refine ⟨by omega, ?_⟩
    obtain h | h : e3 = 0 ∨ e3 = 1 := by omega
    · omega
    · subst h
      clear hsp b
      omega
  refine ⟨hd.1, hd.2, w4_of hd ⟨d1l, d1u⟩ ⟨d2l, d2u⟩ ⟨d3l, d3u⟩ ?_⟩
  have e : ((plusN a n : Nat) : Int) = (((a + n) % p2 : Nat) : Int) + 38 * (((a + n) / p2 : Nat) : Int) := by unfold plusN; push_cast; rfl
  rw [e, ← hsp.1, ← hsp.2]
  omega
end Go.Proofs.YtceljjnohjnepaaDoor
