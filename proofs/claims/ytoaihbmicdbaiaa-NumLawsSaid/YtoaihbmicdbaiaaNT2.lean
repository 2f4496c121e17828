/- The prime 2^255 - 19, by Pratt's certificate; 2 generates its residues. -/
import Derived.Test.YtoaihbmicdbaiaaNT
namespace Go.Proofs.Ytoaihbmicdbaiaa.NT

theorem p2 : Prime 2 := prime_small (by decide +kernel)
theorem p3 : Prime 3 := prime_small (by decide +kernel)
theorem p17 : Prime 17 := prime_small (by decide +kernel)
theorem p479 : Prime 479 := prime_small (by decide +kernel)
theorem p32573 : Prime 32573 := prime_of (g := 2) (fs := [2, 2, 17, 479]) (by decide +kernel) (by
  intro q hq
  simp only [List.mem_cons, List.not_mem_nil, or_false] at hq
  rcases hq with rfl | rfl | rfl | rfl
  · exact p2
  · exact p2
  · exact p17
  · exact p479
  )
theorem p65147 : Prime 65147 := prime_of (g := 2) (fs := [2, 32573]) (by decide +kernel) (by
  intro q hq
  simp only [List.mem_cons, List.not_mem_nil, or_false] at hq
  rcases hq with rfl | rfl
  · exact p2
  · exact p32573
  )
theorem p353 : Prime 353 := prime_small (by decide +kernel)
theorem p59 : Prime 59 := prime_small (by decide +kernel)
theorem p487 : Prime 487 := prime_small (by decide +kernel)
theorem p57467 : Prime 57467 := prime_of (g := 2) (fs := [2, 59, 487]) (by decide +kernel) (by
  intro q hq
  simp only [List.mem_cons, List.not_mem_nil, or_false] at hq
  rcases hq with rfl | rfl | rfl
  · exact p2
  · exact p59
  · exact p487
  )
theorem p7 : Prime 7 := prime_small (by decide +kernel)
theorem p131 : Prime 131 := prime_small (by decide +kernel)
theorem p132049 : Prime 132049 := prime_of (g := 26) (fs := [2, 2, 2, 2, 3, 3, 7, 131]) (by decide +kernel) (by
  intro q hq
  simp only [List.mem_cons, List.not_mem_nil, or_false] at hq
  rcases hq with rfl | rfl | rfl | rfl | rfl | rfl | rfl | rfl
  · exact p2
  · exact p2
  · exact p2
  · exact p2
  · exact p3
  · exact p3
  · exact p7
  · exact p131
  )
theorem p43 : Prime 43 := prime_small (by decide +kernel)
theorem p23 : Prime 23 := prime_small (by decide +kernel)
theorem p3727 : Prime 3727 := prime_of (g := 3) (fs := [2, 3, 3, 3, 3, 23]) (by decide +kernel) (by
  intro q hq
  simp only [List.mem_cons, List.not_mem_nil, or_false] at hq
  rcases hq with rfl | rfl | rfl | rfl | rfl | rfl
  · exact p2
  · exact p3
  · exact p3
  · exact p3
  · exact p3
  · exact p23
  )
theorem p1923133 : Prime 1923133 := prime_of (g := 2) (fs := [2, 2, 3, 43, 3727]) (by decide +kernel) (by
  intro q hq
  simp only [List.mem_cons, List.not_mem_nil, or_false] at hq
  rcases hq with rfl | rfl | rfl | rfl | rfl
  · exact p2
  · exact p2
  · exact p3
  · exact p43
  · exact p3727
  )
theorem p31 : Prime 31 := prime_small (by decide +kernel)
theorem p107 : Prime 107 := prime_small (by decide +kernel)
theorem p223 : Prime 223 := prime_small (by decide +kernel)
theorem p173 : Prime 173 := prime_small (by decide +kernel)
theorem p4153 : Prime 4153 := prime_of (g := 5) (fs := [2, 2, 2, 3, 173]) (by decide +kernel) (by
  intro q hq
  simp only [List.mem_cons, List.not_mem_nil, or_false] at hq
  rcases hq with rfl | rfl | rfl | rfl | rfl
  · exact p2
  · exact p2
  · exact p2
  · exact p3
  · exact p173
  )
theorem p5 : Prime 5 := prime_small (by decide +kernel)
theorem p41 : Prime 41 := prime_small (by decide +kernel)
theorem p1723 : Prime 1723 := prime_of (g := 3) (fs := [2, 3, 7, 41]) (by decide +kernel) (by
  intro q hq
  simp only [List.mem_cons, List.not_mem_nil, or_false] at hq
  rcases hq with rfl | rfl | rfl | rfl
  · exact p2
  · exact p3
  · exact p7
  · exact p41
  )
theorem p430751 : Prime 430751 := prime_of (g := 17) (fs := [2, 5, 5, 5, 1723]) (by decide +kernel) (by
  intro q hq
  simp only [List.mem_cons, List.not_mem_nil, or_false] at hq
  rcases hq with rfl | rfl | rfl | rfl | rfl
  · exact p2
  · exact p5
  · exact p5
  · exact p5
  · exact p1723
  )
theorem p31757755568855353 : Prime 31757755568855353 := prime_of (g := 10) (fs := [2, 2, 2, 3, 31, 107, 223, 4153, 430751]) (by decide +kernel) (by
  intro q hq
  simp only [List.mem_cons, List.not_mem_nil, or_false] at hq
  rcases hq with rfl | rfl | rfl | rfl | rfl | rfl | rfl | rfl | rfl
  · exact p2
  · exact p2
  · exact p2
  · exact p3
  · exact p31
  · exact p107
  · exact p223
  · exact p4153
  · exact p430751
  )
theorem p19 : Prime 19 := prime_small (by decide +kernel)
theorem p83 : Prime 83 := prime_small (by decide +kernel)
theorem p9463 : Prime 9463 := prime_of (g := 3) (fs := [2, 3, 19, 83]) (by decide +kernel) (by
  intro q hq
  simp only [List.mem_cons, List.not_mem_nil, or_false] at hq
  rcases hq with rfl | rfl | rfl | rfl
  · exact p2
  · exact p3
  · exact p19
  · exact p83
  )
theorem p37853 : Prime 37853 := prime_of (g := 2) (fs := [2, 2, 9463]) (by decide +kernel) (by
  intro q hq
  simp only [List.mem_cons, List.not_mem_nil, or_false] at hq
  rcases hq with rfl | rfl | rfl
  · exact p2
  · exact p2
  · exact p9463
  )
theorem p75707 : Prime 75707 := prime_of (g := 2) (fs := [2, 37853]) (by decide +kernel) (by
  intro q hq
  simp only [List.mem_cons, List.not_mem_nil, or_false] at hq
  rcases hq with rfl | rfl
  · exact p2
  · exact p37853
  )
theorem p13 : Prime 13 := prime_small (by decide +kernel)
theorem p29 : Prime 29 := prime_small (by decide +kernel)
theorem p2437 : Prime 2437 := prime_of (g := 2) (fs := [2, 2, 3, 7, 29]) (by decide +kernel) (by
  intro q hq
  simp only [List.mem_cons, List.not_mem_nil, or_false] at hq
  rcases hq with rfl | rfl | rfl | rfl | rfl
  · exact p2
  · exact p2
  · exact p3
  · exact p7
  · exact p29
  )
theorem p97 : Prime 97 := prime_small (by decide +kernel)
theorem p419 : Prime 419 := prime_small (by decide +kernel)
theorem p569003 : Prime 569003 := prime_of (g := 2) (fs := [2, 7, 97, 419]) (by decide +kernel) (by
  intro q hq
  simp only [List.mem_cons, List.not_mem_nil, or_false] at hq
  rcases hq with rfl | rfl | rfl | rfl
  · exact p2
  · exact p7
  · exact p97
  · exact p419
  )
theorem p2773320623 : Prime 2773320623 := prime_of (g := 5) (fs := [2, 2437, 569003]) (by decide +kernel) (by
  intro q hq
  simp only [List.mem_cons, List.not_mem_nil, or_false] at hq
  rcases hq with rfl | rfl | rfl
  · exact p2
  · exact p2437
  · exact p569003
  )
theorem p72106336199 : Prime 72106336199 := prime_of (g := 7) (fs := [2, 13, 2773320623]) (by decide +kernel) (by
  intro q hq
  simp only [List.mem_cons, List.not_mem_nil, or_false] at hq
  rcases hq with rfl | rfl | rfl
  · exact p2
  · exact p13
  · exact p2773320623
  )
theorem p47 : Prime 47 := prime_small (by decide +kernel)
theorem p127 : Prime 127 := prime_small (by decide +kernel)
theorem p103 : Prime 103 := prime_small (by decide +kernel)
theorem p991 : Prime 991 := prime_small (by decide +kernel)
theorem p8574133 : Prime 8574133 := prime_of (g := 2) (fs := [2, 2, 3, 7, 103, 991]) (by decide +kernel) (by
  intro q hq
  simp only [List.mem_cons, List.not_mem_nil, or_false] at hq
  rcases hq with rfl | rfl | rfl | rfl | rfl | rfl
  · exact p2
  · exact p2
  · exact p3
  · exact p7
  · exact p103
  · exact p991
  )
theorem p1919519569386763 : Prime 1919519569386763 := prime_of (g := 2) (fs := [2, 3, 7, 19, 47, 47, 127, 8574133]) (by decide +kernel) (by
  intro q hq
  simp only [List.mem_cons, List.not_mem_nil, or_false] at hq
  rcases hq with rfl | rfl | rfl | rfl | rfl | rfl | rfl | rfl
  · exact p2
  · exact p3
  · exact p7
  · exact p19
  · exact p47
  · exact p47
  · exact p127
  · exact p8574133
  )
theorem p75445702479781427272750846543864801 : Prime 75445702479781427272750846543864801 := prime_of (g := 7) (fs := [2, 2, 2, 2, 2, 3, 3, 5, 5, 75707, 72106336199, 1919519569386763]) (by decide +kernel) (by
  intro q hq
  simp only [List.mem_cons, List.not_mem_nil, or_false] at hq
  rcases hq with rfl | rfl | rfl | rfl | rfl | rfl | rfl | rfl | rfl | rfl | rfl | rfl
  · exact p2
  · exact p2
  · exact p2
  · exact p2
  · exact p2
  · exact p3
  · exact p3
  · exact p5
  · exact p5
  · exact p75707
  · exact p72106336199
  · exact p1919519569386763
  )
theorem p74058212732561358302231226437062788676166966415465897661863160754340907 : Prime 74058212732561358302231226437062788676166966415465897661863160754340907 := prime_of (g := 2) (fs := [2, 3, 353, 57467, 132049, 1923133, 31757755568855353, 75445702479781427272750846543864801]) (by decide +kernel) (by
  intro q hq
  simp only [List.mem_cons, List.not_mem_nil, or_false] at hq
  rcases hq with rfl | rfl | rfl | rfl | rfl | rfl | rfl | rfl
  · exact p2
  · exact p3
  · exact p353
  · exact p57467
  · exact p132049
  · exact p1923133
  · exact p31757755568855353
  · exact p75445702479781427272750846543864801
  )
def P : Nat := 57896044618658097711785492504343953926634992332820282019728792003956564819949
theorem P_fs : ∀ q ∈ [2, 2, 3, 65147, 74058212732561358302231226437062788676166966415465897661863160754340907], Prime q := by
  intro q hq
  simp only [List.mem_cons, List.not_mem_nil, or_false] at hq
  rcases hq with rfl | rfl | rfl | rfl | rfl
  · exact p2
  · exact p2
  · exact p3
  · exact p65147
  · exact p74058212732561358302231226437062788676166966415465897661863160754340907
theorem P_lucas : lucasB P 2 [2, 2, 3, 65147, 74058212732561358302231226437062788676166966415465897661863160754340907] = true := by decide +kernel
theorem P_prime : Prime P := prime_of P_lucas P_fs
theorem P_log : ∀ a, 0 < a → a < P → ∃ k, k < P - 1 ∧ 2 ^ k % P = a := by
  obtain ⟨h1, h2, h3, h4⟩ := lucasB_spec P_lucas
  exact lucas_log _ h1 h2 P_fs h3 h4
theorem P_one : 2 ^ (P - 1) % P = 1 := (lucasB_spec P_lucas).2.2.1
theorem P_half : 2 ^ ((P - 1) / 2) % P = P - 1 := by
  rw [← powm_eq 256 2 ((P - 1) / 2) P (by decide +kernel)]
  decide +kernel

end Go.Proofs.Ytoaihbmicdbaiaa.NT
