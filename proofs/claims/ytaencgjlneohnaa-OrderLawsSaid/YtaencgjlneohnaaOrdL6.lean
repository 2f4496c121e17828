/- The law OrderLaws: the walk. -/
import Derived.Test.YtaencgjlneohnaaOrdL5
import Derived.Test.YtaencgjlneohnaaGHO
namespace Go.Proofs.Ytaencgjlneohnaa
open Go.RowKit DG

theorem ma_comm (a b c : Nat) : ma a b c = ma b a c := by unfold ma; rw [Nat.mul_comm]
theorem ma_one (a b : Nat) : ma a 1 b = ma b 1 a := by unfold ma; rw [Nat.mul_one, Nat.mul_one, Nat.add_comm]
theorem ma_zero (a b : Nat) (h : b < ordL) : ma a 0 b = b := by unfold ma; rw [Nat.mul_zero, Nat.zero_add, Nat.mod_eq_of_lt h]
theorem ma_assoc (a b c : Nat) : ma (ma a b 0) c 0 = ma a (ma b c 0) 0 := by
  unfold ma; simp only [Nat.add_zero]
  rw [Nat.mod_mul_mod, Nat.mul_mod_mod, Nat.mul_assoc]
theorem ma_dist (a b c : Nat) : ma a (ma b 1 c) 0 = ma a b (ma a c 0) := by
  unfold ma; simp only [Nat.add_zero, Nat.mul_one]
  rw [Nat.mul_mod_mod, Nat.add_mod_mod, Nat.mul_add]
theorem SMT (a b : Nat) (W : World) (ha : a < ordL) (hb : b < ordL) (h : a = b) :
    Calls Try.prog 12 #[.agg #[.int .u64 (q0 a), .int .u64 (q1 a), .int .u64 (q2 a), .int .u64 (q3 a)], .agg #[.int .u64 (q0 b), .int .u64 (q1 b), .int .u64 (q2 b), .int .u64 (q3 b)]] W
      fun e w' => e = .returned (.bool true) ∧ Below W.heap.size W w' := by
  subst h
  have := SM a a W ha ha
  rw [show eqB a a = true from decide_eq_true rfl] at this
  exact this
theorem nat_can (s : ByteArray) (h : ofE s = 0) : (natBytes (ofV s) 32 == s.toList) = canB s := by
  unfold ofE at h
  have hs : s.size = 32 ∨ s.size = 64 := by
    apply Decidable.byContradiction
    intro hh
    rw [if_neg hh] at h
    exact absurd h (by decide)
  unfold ofV
  rw [if_pos hs]
  by_cases h32 : s.size = 32
  · unfold canB
    rw [toList_data, Bool.eq_iff_iff, beq_iff_eq, decide_eq_true_eq]
    have hl : s.data.toList.length = 32 := by simpa using h32
    constructor
    · intro h
      have h1 := bytesNat_natBytes (bytesNat s.data.toList % ordL) 32
      rw [h, Nat.mod_eq_of_lt (a := bytesNat s.data.toList % ordL) (b := 256 ^ 32) (Nat.lt_trans (Nat.mod_lt _ (by decide)) (by decide))] at h1
      exact ⟨h32, by rw [h1]; exact Nat.mod_lt _ (by decide)⟩
    · rintro ⟨_, h⟩
      rw [Nat.mod_eq_of_lt h]
      have := natBytes_bytesNat s.data.toList
      rwa [hl] at this
  · have hcan : canB s = false := by unfold canB; exact decide_eq_false (fun h => h32 h.1)
    rw [hcan, beq_eq_false_iff_ne]
    intro h
    have := congrArg List.length h
    rw [natBytes_length, toList_data] at this
    simp at this
    omega
theorem CanB (n : Nat) (W : World) (hn : n < ordL) : Calls Try.prog 9 #[.string ⟨(natBytes n 32).toArray⟩] W fun e w' => e = .returned (.bool true) ∧ Below W.heap.size W w' := by
  have h := Canonical_any ⟨(natBytes n 32).toArray⟩ W (by show (natBytes n 32).toArray.size ≤ _; simp [natBytes_length])
  have : canB ⟨(natBytes n 32).toArray⟩ = true := by
    unfold canB
    refine decide_eq_true ⟨by show (natBytes n 32).toArray.size = 32; simp [natBytes_length], ?_⟩
    show bytesNat (natBytes n 32) < ordL
    rw [bytesNat_natBytes, Nat.mod_eq_of_lt (Nat.lt_trans hn (by decide))]
    exact hn
  rw [this] at h
  exact h
theorem OfCat (a : Nat) (W : World) (ha : a < ordL) : Calls Try.prog 7 #[.string (⟨(natBytes a 32).toArray⟩ ++ ⟨#[0, 0, 0, 0, 0, 0, 0, 0, 0, 0, 0, 0, 0, 0, 0, 0, 0, 0, 0, 0, 0, 0, 0, 0, 0, 0, 0, 0, 0, 0, 0, 0]⟩)] W
      fun e w' => e = .returned (.tuple #[.agg #[.int .u64 (q0 a), .int .u64 (q1 a), .int .u64 (q2 a), .int .u64 (q3 a)], .int .i64 0]) ∧ Below W.heap.size W w' := by
  have hd : ((⟨(natBytes a 32).toArray⟩ ++ ⟨#[0, 0, 0, 0, 0, 0, 0, 0, 0, 0, 0, 0, 0, 0, 0, 0, 0, 0, 0, 0, 0, 0, 0, 0, 0, 0, 0, 0, 0, 0, 0, 0]⟩ : ByteArray)).data.toList = natBytes a 32 ++ List.replicate 32 0 := by
    rw [ByteArray.data_append]; simp
  have h := Of_64 (⟨(natBytes a 32).toArray⟩ ++ ⟨#[0, 0, 0, 0, 0, 0, 0, 0, 0, 0, 0, 0, 0, 0, 0, 0, 0, 0, 0, 0, 0, 0, 0, 0, 0, 0, 0, 0, 0, 0, 0, 0]⟩) W (by have h := congrArg List.length hd; rw [List.length_append, natBytes_length, List.length_replicate] at h; exact h)
  have hv : bytesNat (natBytes a 32 ++ List.replicate 32 0) = a := by
    have h1 := bytesNat_natBytes a 32
    rw [Nat.mod_eq_of_lt (Nat.lt_trans ha (by decide))] at h1
    unfold bytesNat at h1 ⊢
    rw [List.map_append, val_append, h1, List.map_replicate]
    rw [show (UInt8.toNat 0) = 0 from rfl, val_replicate]
    simp
  rw [hd, hv, Nat.mod_eq_of_lt ha] at h
  exact h
theorem conv_zn (n : Nat) (w : World) (b : Nat) (h : w.heap[b]? = some (.cells (ints .u8 (List.replicate n 0)) 5 (0, 0))) : (convert 42 9 (.slice (some ⟨b, 0, none⟩) n n)).run Try.prog w = .ok (.string ⟨(List.replicate n 0).toArray⟩) w := by
  have := conv_string w b 0 n n (List.replicate n 0) (by simp) (fun j hj => by
    rw [Nat.zero_add, ints_cell h (by simpa using hj)]; simp [hj])
  exact this
theorem conv_z32 (w : World) (b : Nat) (h : w.heap[b]? = some (.cells (ints .u8 [0, 0, 0, 0, 0, 0, 0, 0, 0, 0, 0, 0, 0, 0, 0, 0, 0, 0, 0, 0, 0, 0, 0, 0, 0, 0, 0, 0, 0, 0, 0, 0]) 5 (0, 0))) : (convert 42 9 (.slice (some ⟨b, 0, none⟩) 32 32)).run Try.prog w = .ok (.string ⟨#[0, 0, 0, 0, 0, 0, 0, 0, 0, 0, 0, 0, 0, 0, 0, 0, 0, 0, 0, 0, 0, 0, 0, 0, 0, 0, 0, 0, 0, 0, 0, 0]⟩) w := by
  have := conv_zn 32 w b h
  exact this
theorem conv_zc (n : Nat) (w : World) (b : Nat) (hall : ∀ j, j < n → w.cell? ⟨b, j, none⟩ = some (.int .u8 0)) : (convert 42 9 (.slice (some ⟨b, 0, none⟩) n n)).run Try.prog w = .ok (.string ⟨(List.replicate n 0).toArray⟩) w := by
  have := conv_string w b 0 n n (List.replicate n 0) (by simp) (fun j hj => by
    rw [Nat.zero_add, hall j (by simpa using hj)]; have hj' : j < n := by simpa using hj
    simp [hj'])
  exact this
@[go_sem] theorem drew_hsize (w : World) : w.drew.heap.size = w.heap.size := rfl
theorem drew_at {w : World} {b : Nat} {o : Obj} (h : w.heap[b]? = some o) : w.drew.heap[b]? = some o := h
theorem bcell {W w1 : World} (hb : Below W.heap.size W w1) : (∀ b o, b < W.heap.size → w1.cell? ⟨b, o, none⟩ = W.cell? ⟨b, o, none⟩) ∧ (∀ b o, b < W.heap.size → w1.frozen? ⟨b, o, none⟩ = W.frozen? ⟨b, o, none⟩) :=
  ⟨fun b o h => hb.cell (p := ⟨b, o, none⟩) h, fun b o h => hb.frozen (p := ⟨b, o, none⟩) h⟩
theorem ofOne (W : World) : Calls Try.prog 7 #[.string (⟨#[1]⟩ ++ ⟨#[0, 0, 0, 0, 0, 0, 0, 0, 0, 0, 0, 0, 0, 0, 0, 0, 0, 0, 0, 0, 0, 0, 0, 0, 0, 0, 0, 0, 0, 0, 0]⟩)] W
      fun e w' => e = .returned (.tuple #[.agg #[.int .u64 (q0 1), .int .u64 (q1 1), .int .u64 (q2 1), .int .u64 (q3 1)], .int .i64 0]) ∧ Below W.heap.size W w' := by
  have h := Of_32 (⟨#[1]⟩ ++ ⟨#[0, 0, 0, 0, 0, 0, 0, 0, 0, 0, 0, 0, 0, 0, 0, 0, 0, 0, 0, 0, 0, 0, 0, 0, 0, 0, 0, 0, 0, 0, 0]⟩) W (by rfl)
  rw [show bytesNat ((⟨#[1]⟩ ++ ⟨#[0, 0, 0, 0, 0, 0, 0, 0, 0, 0, 0, 0, 0, 0, 0, 0, 0, 0, 0, 0, 0, 0, 0, 0, 0, 0, 0, 0, 0, 0, 0]⟩ : ByteArray)).data.toList % ordL = 1 from by decide +kernel] at h
  exact h

set_option maxHeartbeats 1000000 in
theorem laws_bad (s t u : ByteArray) (W : World) (hs : s.size ≤ 9223372036854775807) (ht : t.size ≤ 9223372036854775807) (hu : u.size ≤ 9223372036854775807) (h : ¬ (ofE s = 0 ∧ ofE t = 0 ∧ ofE u = 0)) :
    Calls Try.prog 5 #[.string s, .string t, .string u] W fun e w' => e = .returned (.bool true) ∧ Below W.heap.size W w' := by
  have HS := hid (fun w => Of_ve s w hs)
  have HT := hid (fun w => Of_ve t w ht)
  have HU := hid (fun w => Of_ve u w hu)
  generalize ofE s = ea at *
  generalize ofE t = eb at *
  generalize ofE u = ec at *
  generalize ofV s = a at *
  generalize ofV t = b at *
  generalize ofV u = c at *
  clear hs ht hu
  obtain hh | hh | hh : (ea != 0) = true ∨ ((ea != 0) = false ∧ (eb != 0) = true) ∨ ((ea != 0) = false ∧ (eb != 0) = false ∧ (ec != 0) = true) := by
    simp only [bne_iff_ne, bne_eq_false_iff_eq]; omega
  all_goals
    clear h
    go_enter Try.func5, Try.ntmps5
    go_wp2_with fail
    refine (HS.out _).mono ?_
    rintro e w1 ⟨rfl, hb1⟩
    have b1 := hid (below_alloc hb1 (.cells #[.int .u64 (q0 a), .int .u64 (q1 a), .int .u64 (q2 a), .int .u64 (q3 a)] 26))
    clear hb1
    go_wp2_with fail
    refine (HT.out _).mono ?_
    rintro e w2 ⟨rfl, hb2⟩
    have b2 := hid (below_alloc (below_to b1.out hb2) (.cells #[.int .u64 (q0 b), .int .u64 (q1 b), .int .u64 (q2 b), .int .u64 (q3 b)] 26))
    clear hb2 b1
    go_wp2_with fail
    refine (HU.out _).mono ?_
    rintro e w3 ⟨rfl, hb3⟩
    have b3 := hid (below_alloc (below_to b2.out hb3) (.cells #[.int .u64 (q0 c), .int .u64 (q1 c), .int .u64 (q2 c), .int .u64 (q3 c)] 26))
    clear hb3 b2
    go_wp2_with fail
    refine (alive_any _).mono ?_
    rintro e w4 ⟨rfl, hb4⟩
    go_wp2_with fail
    go_ret
    exact ⟨rfl, below_to b3.out hb4⟩

set_option maxRecDepth 100000 in
set_option maxHeartbeats 4000000 in
theorem laws_ok (s t u : ByteArray) (W : World) (hs : s.size ≤ 9223372036854775807) (ht : t.size ≤ 9223372036854775807) (hu : u.size ≤ 9223372036854775807) (h : ofE s = 0 ∧ ofE t = 0 ∧ ofE u = 0) :
    Calls Try.prog 5 #[.string s, .string t, .string u] W fun e w' => e = .returned (.bool true) ∧ Below W.heap.size W w' := by
  have hof := fun (s : ByteArray) (h1 : s.size ≤ 9223372036854775807) (h2 : ofE s = 0) w => (h2 ▸ Of_ve s w h1 : Calls Try.prog 7 #[.string s] w fun e w' => e = .returned (.tuple #[.agg #[.int .u64 (q0 (ofV s)), .int .u64 (q1 (ofV s)), .int .u64 (q2 (ofV s)), .int .u64 (q3 (ofV s))], .int .i64 0]) ∧ Below w.heap.size w w')
  have HS := hid (hof s hs h.1)
  have HT := hid (hof t ht h.2.1)
  have HU := hid (hof u hu h.2.2)
  have HCN := hid (nat_can s h.1)
  have HCS := hid (fun w => Canonical_any s w hs)
  have la := ofV_lt s
  have lb := ofV_lt t
  have lc := ofV_lt u
  clear hof hs ht hu h
  generalize ofV s = a at *
  generalize ofV t = b at *
  generalize ofV u = c at *
  go_enter Try.func5, Try.ntmps5
  go_wp2_with fail
  refine (HS.out _).mono ?_
  rintro e w1 ⟨rfl, hb1⟩
  have A1 := hid (alloc_at w1 (.cells #[.int .u64 (q0 a), .int .u64 (q1 a), .int .u64 (q2 a), .int .u64 (q3 a)] 26))
  have b1 := hid (below_alloc hb1 (.cells #[.int .u64 (q0 a), .int .u64 (q1 a), .int .u64 (q2 a), .int .u64 (q3 a)] 26))
  clear hb1
  go_wp2_with fail
  refine (HT.out _).mono ?_
  rintro e w2 ⟨rfl, hb2⟩
  have A2 := hid (alloc_old (o' := .cells #[.int .u64 (q0 b), .int .u64 (q1 b), .int .u64 (q2 b), .int .u64 (q3 b)] 26) ((hb2.block _ (lt_blk A1.out)).trans A1.out))
  have B2 := hid (alloc_at w2 (.cells #[.int .u64 (q0 b), .int .u64 (q1 b), .int .u64 (q2 b), .int .u64 (q3 b)] 26))
  have b2 := hid (below_alloc (below_to b1.out hb2) (.cells #[.int .u64 (q0 b), .int .u64 (q1 b), .int .u64 (q2 b), .int .u64 (q3 b)] 26))
  generalize w1.heap.size = NA at *
  clear hb2 b1 A1
  go_wp2_with fail
  refine (HU.out _).mono ?_
  rintro e w3 ⟨rfl, hb3⟩
  have A3 := hid (alloc_old (o' := .cells #[.int .u64 (q0 c), .int .u64 (q1 c), .int .u64 (q2 c), .int .u64 (q3 c)] 26) ((hb3.block _ (lt_blk A2.out)).trans A2.out))
  have B3 := hid (alloc_old (o' := .cells #[.int .u64 (q0 c), .int .u64 (q1 c), .int .u64 (q2 c), .int .u64 (q3 c)] 26) ((hb3.block _ (lt_blk B2.out)).trans B2.out))
  have C3 := hid (alloc_at w3 (.cells #[.int .u64 (q0 c), .int .u64 (q1 c), .int .u64 (q2 c), .int .u64 (q3 c)] 26))
  have b3 := hid (below_alloc (below_to b2.out hb3) (.cells #[.int .u64 (q0 c), .int .u64 (q1 c), .int .u64 (q2 c), .int .u64 (q3 c)] 26))
  generalize w2.heap.size = NB at *
  clear hb3 b2 A2 B2
  go_wp2_with fail
  refine (ofOne _).mono ?_
  rintro e w4 ⟨rfl, hb4⟩
  have A5 := hid (alloc_old (o' := (.cells #[.int .u64 (q0 1), .int .u64 (q1 1), .int .u64 (q2 1), .int .u64 (q3 1)] 26)) (keepB hb4 (alloc_old (alloc_old A3.out))))
  have B5 := hid (alloc_old (o' := (.cells #[.int .u64 (q0 1), .int .u64 (q1 1), .int .u64 (q2 1), .int .u64 (q3 1)] 26)) (keepB hb4 (alloc_old (alloc_old B3.out))))
  have C5 := hid (alloc_old (o' := (.cells #[.int .u64 (q0 1), .int .u64 (q1 1), .int .u64 (q2 1), .int .u64 (q3 1)] 26)) (keepB hb4 (alloc_old (alloc_old C3.out))))
  have z4 : w4.heap[w3.heap.size + 1]? = some (.cells #[.int .u64 (q0 0), .int .u64 (q1 0), .int .u64 (q2 0), .int .u64 (q3 0)] 26 (0, 0)) := keepB hb4 (alloc_old (alloc_at' (by simp) _))
  have Z5 := hid (alloc_old (o' := (.cells #[.int .u64 (q0 1), .int .u64 (q1 1), .int .u64 (q2 1), .int .u64 (q3 1)] 26)) z4)
  have O5 := hid (alloc_at w4 (.cells #[.int .u64 (q0 1), .int .u64 (q1 1), .int .u64 (q2 1), .int .u64 (q3 1)] 26))
  have b5 := hid (below_alloc (below_to (below_alloc (below_alloc b3.out _) _) hb4) (.cells #[.int .u64 (q0 1), .int .u64 (q1 1), .int .u64 (q2 1), .int .u64 (q3 1)] 26))
  clear z4 hb4 b3 A3 B3
  generalize w3.heap.size = NC at *
  clear C3
  go_wp2_with fail
  generalize w4.alloc (.cells #[.int .u64 (q0 1), .int .u64 (q1 1), .int .u64 (q2 1), .int .u64 (q3 1)] 26) = w5 at *
  generalize w4.heap.size = NO at *
  generalize NC + 1 = NZ at *
  obtain ⟨a0, a1, a2, a3⟩ := quad_cells A5.out
  obtain ⟨b0, b1, b2, b3⟩ := quad_cells B5.out
  obtain ⟨c0, c1, c2, c3⟩ := quad_cells C5.out
  obtain ⟨z0, z1, z2, z3⟩ := quad_cells Z5.out
  obtain ⟨o0, o1, o2, o3⟩ := quad_cells O5.out
  have la0 := later_cell a0
  have la1 := later_cell a1
  have la2 := later_cell a2
  have la3 := later_cell a3
  have lb0 := later_cell b0
  have lb1 := later_cell b1
  have lb2 := later_cell b2
  have lb3 := later_cell b3
  have lc0 := later_cell c0
  have lc1 := later_cell c1
  have lc2 := later_cell c2
  have lc3 := later_cell c3
  have lz0 := later_cell z0
  have lz1 := later_cell z1
  have lz2 := later_cell z2
  have lz3 := later_cell z3
  have lo0 := later_cell o0
  have lo1 := later_cell o1
  have lo2 := later_cell o2
  have lo3 := later_cell o3
  have l0 : 0 < ordL := by decide
  have l1 : 1 < ordL := by decide
  clear a0 a1 a2 a3 b0 b1 b2 b3 c0 c1 c2 c3 z0 z1 z2 z3 o0 o1 o2 o3
  refine wp_region_later (by kernel_rfl) (by kernel_rfl) ?_
  repeat ((go_big_quiet_step ((first | (go_at_call 15; exact calls_later (MA _ _ _ _ (by first | with_reducible assumption | with_reducible exact ma_lt _ _ _) (by first | with_reducible assumption | with_reducible exact ma_lt _ _ _) (by first | with_reducible assumption | with_reducible exact ma_lt _ _ _))) | (go_at_call 12; exact calls_later (SMT _ _ _ (by first | with_reducible assumption | with_reducible exact ma_lt _ _ _) (by first | with_reducible assumption | with_reducible exact ma_lt _ _ _) (by first | with_reducible rfl | with_reducible exact ma_comm _ _ _ | with_reducible exact ma_one _ _ | with_reducible exact ma_zero _ _ (by assumption) | with_reducible exact ma_assoc _ _ _ | with_reducible exact ma_dist _ _ _)))))))
  refine wpQuiet_nil ?_
  intro wL hwL
  obtain ⟨⟨w8, hL⟩, e8⟩ := hwL
  change wL = w8 at e8
  subst e8
  have A6 := hid (keepB hL A5.out)
  have B6 := hid (keepB hL B5.out)
  have C6 := hid (keepB hL C5.out)
  have Z6 := hid (keepB hL Z5.out)
  have O6 := hid (keepB hL O5.out)
  have b6 := hid (below_to b5.out hL)
  clear hL b5 A5 B5 C5 Z5 O5 la0 la1 la2 la3 lb0 lb1 lb2 lb3 lc0 lc1 lc2 lc3 lz0 lz1 lz2 lz3 lo0 lo1 lo2 lo3
  generalize hw6 : wL = w6 at *
  clear hw6 wL
  go_wp2_with fail
  obtain ⟨a0, a1, a2, a3⟩ := quad_cells A6.out
  obtain ⟨b0, b1, b2, b3⟩ := quad_cells B6.out
  obtain ⟨c0, c1, c2, c3⟩ := quad_cells C6.out
  obtain ⟨z0, z1, z2, z3⟩ := quad_cells Z6.out
  obtain ⟨o0, o1, o2, o3⟩ := quad_cells O6.out
  have la0 := later_cell a0
  have la1 := later_cell a1
  have la2 := later_cell a2
  have la3 := later_cell a3
  have lb0 := later_cell b0
  have lb1 := later_cell b1
  have lb2 := later_cell b2
  have lb3 := later_cell b3
  have lc0 := later_cell c0
  have lc1 := later_cell c1
  have lc2 := later_cell c2
  have lc3 := later_cell c3
  have lz0 := later_cell z0
  have lz1 := later_cell z1
  have lz2 := later_cell z2
  have lz3 := later_cell z3
  have lo0 := later_cell o0
  have lo1 := later_cell o1
  have lo2 := later_cell o2
  have lo3 := later_cell o3
  have hcan := HCN.out
  clear a0 a1 a2 a3 b0 b1 b2 b3 c0 c1 c2 c3 z0 z1 z2 z3 o0 o1 o2 o3
  refine wp_region_later (by kernel_rfl) (by kernel_rfl) ?_
  repeat ((go_big_quiet_step ((first | (go_at_call 15; exact calls_later (MA _ _ _ _ (by first | with_reducible assumption | with_reducible exact ma_lt _ _ _) (by first | with_reducible assumption | with_reducible exact ma_lt _ _ _) (by first | with_reducible assumption | with_reducible exact ma_lt _ _ _))) | (go_at_call 12; exact calls_later (SMT _ _ _ (by first | with_reducible assumption | with_reducible exact ma_lt _ _ _) (by first | with_reducible assumption | with_reducible exact ma_lt _ _ _) (by first | with_reducible rfl | with_reducible exact ma_comm _ _ _ | with_reducible exact ma_one _ _ | with_reducible exact ma_zero _ _ (by assumption) | with_reducible exact ma_assoc _ _ _ | with_reducible exact ma_dist _ _ _))) | (go_at_call 17; exact calls_later (BY _ _ (by with_reducible assumption))) | (go_at_call 9; with_reducible exact calls_later (HCS.out _)) | (go_at_call 9; with_reducible exact calls_later (CanB _ _ (by with_reducible assumption)))))))
  refine wpQuiet_nil ?_
  intro wL hwL
  obtain ⟨⟨w8, hL⟩, e8⟩ := hwL
  change wL = w8 at e8
  subst e8
  have A7 := hid (keepB hL A6.out)
  have b7 := hid (below_to b6.out hL)
  clear hL b6 A6 B6 C6 Z6 O6 la0 la1 la2 la3 lb0 lb1 lb2 lb3 lc0 lc1 lc2 lc3 lz0 lz1 lz2 lz3 lo0 lo1 lo2 lo3
  go_wp2_with fail
  obtain ⟨a0, a1, a2, a3⟩ := quad_cells A7.out
  have lNA := lt_blk A7.out
  generalize hw7 : wL = w7 at *
  clear hw7 wL
  have hnl : (natBytes a 32).length = 32 := natBytes_length a 32
  have hil : ints .u8 [0, 0, 0, 0, 0, 0, 0, 0, 0, 0, 0, 0, 0, 0, 0, 0, 0, 0, 0, 0, 0, 0, 0, 0, 0, 0, 0, 0, 0, 0, 0, 0] = #[.int .u8 0, .int .u8 0, .int .u8 0, .int .u8 0, .int .u8 0, .int .u8 0, .int .u8 0, .int .u8 0, .int .u8 0, .int .u8 0, .int .u8 0, .int .u8 0, .int .u8 0, .int .u8 0, .int .u8 0, .int .u8 0, .int .u8 0, .int .u8 0, .int .u8 0, .int .u8 0, .int .u8 0, .int .u8 0, .int .u8 0, .int .u8 0, .int .u8 0, .int .u8 0, .int .u8 0, .int .u8 0, .int .u8 0, .int .u8 0, .int .u8 0, .int .u8 0] := rfl
  have BYa := hid (fun w => BY a w la)
  have OFa := hid (fun w => OfCat a w la)
  have la0 := later_cell a0
  have la1 := later_cell a1
  have la2 := later_cell a2
  have la3 := later_cell a3
  refine wp_region_ghs [2, 9] (fun i u w => (i = 2 → ∃ b, u = .slice (some ⟨b, 0, none⟩) 32 32 ∧ w.heap[b]? = some (.cells (ints .u8 [0, 0, 0, 0, 0, 0, 0, 0, 0, 0, 0, 0, 0, 0, 0, 0, 0, 0, 0, 0, 0, 0, 0, 0, 0, 0, 0, 0, 0, 0, 0, 0]) 5 (0, 0))) ∧ (i = 9 → ∃ b, w7.heap.size ≤ b ∧ u = .pointer (some ⟨b, 0, none⟩) ∧ w.heap[b]? = some (.cells #[.int .u64 0, .int .u64 0, .int .u64 0, .int .u64 0] 26 (0, 0)))) 10
    (fun g w => ∃ b, w7.heap.size ≤ b ∧ g 9 = .pointer (some ⟨b, 0, none⟩) ∧ w.heap[b]? = some (.cells #[.int .u64 (q0 a), .int .u64 (q1 a), .int .u64 (q2 a), .int .u64 (q3 a)] 26 (0, 0))) (by kernel_rfl) (by kernel_rfl) (by kernel_rfl) (by kernel_rfl) (by decide) (by kernel_rfl) (by kernel_rfl)
    (fun _ u w w' ⟨h1, h2⟩ hb => ⟨fun e => by obtain ⟨b, x1, x2⟩ := h1 e; exact ⟨b, x1, keepB hb x2⟩, fun e => by obtain ⟨b, x0, x1, x2⟩ := h2 e; exact ⟨b, x0, x1, keepB hb x2⟩⟩) (fun g w w' ⟨b, x0, x1, x2⟩ hb => ⟨b, x0, x1, keepB hb x2⟩) ?_
  repeat (first | (refine wpGho_plain (by kernel_rfl) (by decide) (by rfl) (by rfl) (fun K hK => ?_); go_simp; refine hK _ ?_; clear hK K; try go_ints) | (refine wpGho_plain (by kernel_rfl) (by decide) (by rfl) (by rfl) (fun K hK => ?_); go_simp; refine ⟨_, fun x => (BYa.out _), hK _ ?_⟩; clear hK K; try go_ints))
  refine wpGho_make (by kernel_rfl) (by decide) (by rfl) (by rfl) (by rfl) (fun K hK => ?_)
  go_simp
  refine ⟨fun x => ⟨below_new _, _, rfl, alloc_at _ _⟩, hK _ ?_⟩
  clear hK K
  refine wpGho_read (by decide) (by rfl) (fun K hK => ?_)
  refine ⟨.string ⟨#[0, 0, 0, 0, 0, 0, 0, 0, 0, 0, 0, 0, 0, 0, 0, 0, 0, 0, 0, 0, 0, 0, 0, 0, 0, 0, 0, 0, 0, 0, 0, 0]⟩, fun g x hR => ?_, hK _ ?_⟩
  · obtain ⟨b, hb, hc⟩ := (hR 2 (by decide) (by kernel_rfl)).1 rfl
    rw [show ∀ a, over _ [2, 9] g a = Act.put (Act.put a (some 135) (g 2)) (some 16) (g 9) from fun _ => rfl, hb]
    have cv := conv_z32 x.w' b hc
    clear la0 la1 la2 la3 hR
    go_simp
    done
  clear hK K
  simp only [Act.put, List.setIfInBounds_toArray, List.set_cons_zero, List.set_cons_succ]
  repeat (first | (refine wpGho_plain (by kernel_rfl) (by decide) (by rfl) (by rfl) (fun K hK => ?_); go_simp; refine hK _ ?_; clear hK K; try go_ints) | (refine wpGho_plain (by kernel_rfl) (by decide) (by rfl) (by rfl) (fun K hK => ?_); go_simp; refine ⟨_, fun x => (OFa.out _), hK _ ?_⟩; clear hK K; try go_ints))
  refine wpGho_make (by kernel_rfl) (by decide) (by rfl) (by rfl) (by rfl) (fun K hK => ?_)
  go_simp
  refine ⟨fun x => ⟨below_new _, _, x.h.size, rfl, alloc_at _ _⟩, hK _ ?_⟩
  clear hK K
  refine wpGhs_store (by rfl) (by rfl) (fun K hK => ?_)
  refine ⟨fun g x hR => ?_, hK _ ?_⟩
  · obtain ⟨b, hbW, hb, hc⟩ := (hR 9 (by decide) (by kernel_rfl)).2 rfl
    rw [show ∀ a, over _ [2, 9] g a = Act.put (Act.put a (some 135) (g 2)) (some 16) (g 9) from fun _ => rfl, hb]
    obtain ⟨k0, k1, k2, k3⟩ : x.w'.cell? ⟨b, 0, none⟩ = some (.int .u64 0) ∧ x.w'.cell? ⟨b, 1, none⟩ = some (.int .u64 0) ∧ x.w'.cell? ⟨b, 2, none⟩ = some (.int .u64 0) ∧ x.w'.cell? ⟨b, 3, none⟩ = some (.int .u64 0) := ⟨cell_at hc 0, cell_at hc 1, cell_at hc 2, cell_at hc 3⟩
    have hf := free_at hc
    clear la0 la1 la2 la3 hR
    go_simp
    refine ⟨rfl, ⟨⟨_, (((x.h.setCell (p := ⟨b, 0, none⟩) hbW _).setCell (p := ⟨b, 1, none⟩) hbW _).setCell (p := ⟨b, 2, none⟩) hbW _).setCell (p := ⟨b, 3, none⟩) hbW _⟩, rfl⟩, b, hbW, rfl, ?_⟩
    exact at_setCell (at_setCell (at_setCell (at_setCell hc 0 _) 1 _) 2 _) 3 _
  clear hK K
  simp only [Act.put, List.setIfInBounds_toArray, List.set_cons_zero, List.set_cons_succ]
  repeat (first | (refine wpGho_plain (by kernel_rfl) (by decide) (by rfl) (by rfl) (fun K hK => ?_); go_simp; refine hK _ ?_; clear hK K; try go_ints) | (refine wpGho_plain (by kernel_rfl) (by decide) (by rfl) (by rfl) (fun K hK => ?_); go_simp; refine ⟨_, fun x => (OFa.out _), hK _ ?_⟩; clear hK K; try go_ints))
  refine wpGho_nil ?_
  rintro g w9 ⟨x9, hx9⟩ ⟨b, hbW, hb, hc⟩
  rw [show ∀ a, over _ [2, 9] g a = Act.put (Act.put a (some 135) (g 2)) (some 16) (g 9) from fun _ => rfl, hb]
  simp only [Act.put, List.setIfInBounds_toArray, List.set_cons_zero, List.set_cons_succ]
  have A8 := later_block A7.out x9
  rw [← hx9] at A8
  have b9 := hid (below_to b7.out (hx9 ▸ x9.h))
  obtain ⟨k0, k1, k2, k3⟩ : w9.cell? ⟨b, 0, none⟩ = some (.int .u64 (q0 a)) ∧ w9.cell? ⟨b, 1, none⟩ = some (.int .u64 (q1 a)) ∧ w9.cell? ⟨b, 2, none⟩ = some (.int .u64 (q2 a)) ∧ w9.cell? ⟨b, 3, none⟩ = some (.int .u64 (q3 a)) := ⟨cell_at hc 0, cell_at hc 1, cell_at hc 2, cell_at hc 3⟩
  obtain ⟨e0, e1, e2, e3⟩ := quad_cells A8
  clear la0 la1 la2 la3 a0 a1 a2 a3 hx9 x9 hc b7 A7 A8 hb BYa OFa
  go_wp2_with fail
  refine (SMT a a _ la la rfl).mono ?_
  rintro e w10 ⟨rfl, hb10⟩
  have b10 := hid (below_to b9.out hb10)
  clear hb10 b9
  go_wp2_with fail
  refine (alive_any _).mono ?_
  rintro e w11 ⟨rfl, hb11⟩
  go_wp2_with fail
  go_ret
  exact ⟨rfl, below_to b10.out hb11⟩

end Go.Proofs.Ytaencgjlneohnaa
