/- The law OrderReckons: the walk. -/
import Derived.Test.YtaencgjlneohnaaOrdL3
import Derived.Test.YtaencgjlneohnaaLT
import Derived.Deep.WholeRow
namespace Go.Proofs.Ytaencgjlneohnaa
open Go.RowKit DG

def q0 (n : Nat) : Int := ((n % 18446744073709551616 : Nat) : Int)
def q1 (n : Nat) : Int := ((n / 18446744073709551616 % 18446744073709551616 : Nat) : Int)
def q2 (n : Nat) : Int := ((n / 340282366920938463463374607431768211456 % 18446744073709551616 : Nat) : Int)
def q3 (n : Nat) : Int := ((n / 6277101735386680763835789423207666416102355444464034512896 % 18446744073709551616 : Nat) : Int)
theorem quad_q (n : Nat) : quad n = #[.int .u64 (q0 n), .int .u64 (q1 n), .int .u64 (q2 n), .int .u64 (q3 n)] := rfl
/-- A product and a sum. -/
def ma (a b c : Nat) : Nat := (a * b + c) % ordL
theorem ma_lt (a b c : Nat) : ma a b c < ordL := Nat.mod_lt _ (by decide)
/-- The number that Of gives, and its error. -/
def ofV (s : ByteArray) : Nat := if s.size = 32 ∨ s.size = 64 then bytesNat s.data.toList % ordL else 0
def ofE (s : ByteArray) : Int := if s.size = 32 ∨ s.size = 64 then 0 else 2
theorem ofV_lt (s : ByteArray) : ofV s < ordL := by unfold ofV; split <;> first | exact Nat.mod_lt _ (by decide) | decide
theorem ordL_256 : ordL < 115792089237316195423570985008687907853269984665640564039457584007913129639936 := by decide
theorem Of_ve (s : ByteArray) (W : World) (hmax : s.size ≤ 9223372036854775807) :
    Calls Try.prog 7 #[.string s] W fun e w' => e = .returned (.tuple #[.agg #[.int .u64 (q0 (ofV s)), .int .u64 (q1 (ofV s)), .int .u64 (q2 (ofV s)), .int .u64 (q3 (ofV s))], .int .i64 (ofE s)]) ∧ Below W.heap.size W w' := by
  rw [← quad_q]
  unfold ofV ofE
  by_cases h1 : s.size = 32
  · rw [if_pos (.inl h1), if_pos (.inl h1)]; exact Of_32 s W h1
  · by_cases h2 : s.size = 64
    · rw [if_pos (.inr h2), if_pos (.inr h2)]; exact Of_64 s W h2
    · rw [if_neg (by omega), if_neg (by omega)]; exact Of_no s W h1 h2 hmax
theorem MA (a b c : Nat) (W : World) (ha : a < ordL) (hb : b < ordL) (hc : c < ordL) :
    Calls Try.prog 15 #[.agg #[.int .u64 (q0 a), .int .u64 (q1 a), .int .u64 (q2 a), .int .u64 (q3 a)], .agg #[.int .u64 (q0 b), .int .u64 (q1 b), .int .u64 (q2 b), .int .u64 (q3 b)], .agg #[.int .u64 (q0 c), .int .u64 (q1 c), .int .u64 (q2 c), .int .u64 (q3 c)]] W
      fun e w' => e = .returned (.agg #[.int .u64 (q0 (ma a b c)), .int .u64 (q1 (ma a b c)), .int .u64 (q2 (ma a b c)), .int .u64 (q3 (ma a b c))]) ∧ Below W.heap.size W w' := MulAdd_any a b c W ha hb hc
theorem SM (a b : Nat) (W : World) (ha : a < ordL) (hb : b < ordL) :
    Calls Try.prog 12 #[.agg #[.int .u64 (q0 a), .int .u64 (q1 a), .int .u64 (q2 a), .int .u64 (q3 a)], .agg #[.int .u64 (q0 b), .int .u64 (q1 b), .int .u64 (q2 b), .int .u64 (q3 b)]] W
      fun e w' => e = .returned (.bool (eqB a b)) ∧ Below W.heap.size W w' := Same_any a b W (Nat.lt_trans ha ordL_256) (Nat.lt_trans hb ordL_256)
theorem IS (n : Nat) (W : World) (hn : n < ordL) : Calls Try.prog 13 #[.agg #[.int .u64 (q0 n), .int .u64 (q1 n), .int .u64 (q2 n), .int .u64 (q3 n)], .agg (ints .u8 (digs 256 n 32))] W fun e w' => e = .returned (.bool true) ∧ Below W.heap.size W w' := is_any n W hn
theorem BY (n : Nat) (W : World) (hn : n < ordL) : Calls Try.prog 17 #[.agg #[.int .u64 (q0 n), .int .u64 (q1 n), .int .u64 (q2 n), .int .u64 (q3 n)]] W fun e w' => e = .returned (.string ⟨(natBytes n 32).toArray⟩) ∧ Below W.heap.size W w' := Bytes_any n W (Nat.lt_trans hn ordL_256)
theorem RMA (a b c : Nat) (W : World) (ha : a < ordL) (hb : b < ordL) (hc : c < ordL) :
    Calls Try.prog 16 #[.agg (ints .u8 (digs 256 a 32)), .agg (ints .u8 (digs 256 b 32)), .agg (ints .u8 (digs 256 c 32))] W fun e w' => e = .returned (.agg (ints .u8 (digs 256 (ma a b c) 32))) ∧ Below W.heap.size W w' := ref_MulAdd a b c W ha hb hc
theorem RO (s : ByteArray) (W : World) (h : ofE s = 0) : Calls Try.prog 14 #[.string s] W fun e w' => e = .returned (.agg (ints .u8 (digs 256 (ofV s) 32))) ∧ Below W.heap.size W w' := by
  unfold ofE at h
  have hs : s.size = 32 ∨ s.size = 64 := by
    apply Decidable.byContradiction
    intro hh
    rw [if_neg hh] at h
    exact absurd h (by decide)
  unfold ofV
  rw [if_pos hs]
  exact ref_Of s W (by omega)

set_option maxHeartbeats 1000000 in
theorem reckons_bad (s t u : ByteArray) (W : World) (hs : s.size ≤ 9223372036854775807) (ht : t.size ≤ 9223372036854775807) (hu : u.size ≤ 9223372036854775807) (h : ¬ (ofE s = 0 ∧ ofE t = 0 ∧ ofE u = 0)) :
    Calls Try.prog 4 #[.string s, .string t, .string u] W fun e w' => e = .returned (.bool true) ∧ Below W.heap.size W w' := by
  have HS := hid (fun w => Of_ve s w hs)
  have HT := hid (fun w => Of_ve t w ht)
  have HU := hid (fun w => Of_ve u w hu)
  generalize ofE s = ea at *
  generalize ofE t = eb at *
  generalize ofE u = ec at *
  generalize ofV s = a at *
  generalize ofV t = b at *
  generalize ofV u = c at *
  clear hs ht hu
  obtain hh | hh | hh : (ea != 0) = true ∨ ((ea != 0) = false ∧ (eb != 0) = true) ∨ ((ea != 0) = false ∧ (eb != 0) = false ∧ (ec != 0) = true) := by
    simp only [bne_iff_ne, bne_eq_false_iff_eq]; omega
  all_goals
    clear h
    go_enter Try.func4, Try.ntmps4
    go_wp2_with fail
    refine (HS.out _).mono ?_
    rintro e w1 ⟨rfl, hb1⟩
    have b1 := hid (below_alloc hb1 (.cells #[.int .u64 (q0 a), .int .u64 (q1 a), .int .u64 (q2 a), .int .u64 (q3 a)] 26))
    clear hb1
    go_wp2_with fail
    refine (HT.out _).mono ?_
    rintro e w2 ⟨rfl, hb2⟩
    have b2 := hid (below_alloc (below_to b1.out hb2) (.cells #[.int .u64 (q0 b), .int .u64 (q1 b), .int .u64 (q2 b), .int .u64 (q3 b)] 26))
    clear hb2 b1
    go_wp2_with fail
    refine (HU.out _).mono ?_
    rintro e w3 ⟨rfl, hb3⟩
    have b3 := hid (below_alloc (below_to b2.out hb3) (.cells #[.int .u64 (q0 c), .int .u64 (q1 c), .int .u64 (q2 c), .int .u64 (q3 c)] 26))
    clear hb3 b2
    go_wp2_with fail
    refine (alive_any _).mono ?_
    rintro e w4 ⟨rfl, hb4⟩
    go_wp2_with fail
    go_ret
    exact ⟨rfl, below_to b3.out hb4⟩

theorem store_new {l : List Nat} (hl : l.length = 32) (w : World) : (storeCells ⟨w.heap.size, 0, none⟩ (ints .u8 l).toList).run Try.prog (w.alloc (.cells #[.int .u8 0, .int .u8 0, .int .u8 0, .int .u8 0, .int .u8 0, .int .u8 0, .int .u8 0, .int .u8 0, .int .u8 0, .int .u8 0, .int .u8 0, .int .u8 0, .int .u8 0, .int .u8 0, .int .u8 0, .int .u8 0, .int .u8 0, .int .u8 0, .int .u8 0, .int .u8 0, .int .u8 0, .int .u8 0, .int .u8 0, .int .u8 0, .int .u8 0, .int .u8 0, .int .u8 0, .int .u8 0, .int .u8 0, .int .u8 0, .int .u8 0, .int .u8 0] 37)) = .ok () (w.alloc (.cells (ints .u8 l) 37)) :=
  run_storeCells_new w 37 _ (ints .u8 l) (by rw [info_Num, ints_size, hl]) (by rw [ints_size, hl]; rfl) (ints_one l)

theorem later_load {w : World} {b : Nat} {l : List Nat} {T : TypeId} {fz : Nat × Nat} (hl : l.length = 32) (h : w.heap[b]? = some (.cells (ints .u8 l) T fz)) :
    ∀ w', (∃ x : Later w, w' = x.w') → (Instr.loadAt 37 (.pointer (some ⟨b, 0, none⟩))).run Try.prog w' = .ok (.agg (ints .u8 l)) w' := by
  rintro _ ⟨x, rfl⟩; exact load_num hl (later_block h x)
theorem digs_eq8 {a b : Nat} (ha : a < ordL) (hb : b < ordL) : decide (digs 256 a 32 = digs 256 b 32) = eqB a b := by
  unfold eqB
  refine decide_eq_decide.2 ⟨fun h => ?_, fun h => by rw [h]⟩
  have h1 := val_digs (B := 256) a 32
  have h2 := val_digs (B := 256) b 32
  rw [h] at h1
  have h3 : ordL < 256 ^ 32 := by decide
  rw [Nat.mod_eq_of_lt (Nat.lt_trans ha h3)] at h1
  rw [Nat.mod_eq_of_lt (Nat.lt_trans hb h3)] at h2
  omega

set_option maxHeartbeats 1000000 in
theorem reckons_ok (s t u : ByteArray) (W : World) (hs : s.size ≤ 9223372036854775807) (ht : t.size ≤ 9223372036854775807) (hu : u.size ≤ 9223372036854775807) (h : ofE s = 0 ∧ ofE t = 0 ∧ ofE u = 0) :
    Calls Try.prog 4 #[.string s, .string t, .string u] W fun e w' => e = .returned (.bool true) ∧ Below W.heap.size W w' := by
  have hof := fun (s : ByteArray) (h1 : s.size ≤ 9223372036854775807) (h2 : ofE s = 0) w => (h2 ▸ Of_ve s w h1 : Calls Try.prog 7 #[.string s] w fun e w' => e = .returned (.tuple #[.agg #[.int .u64 (q0 (ofV s)), .int .u64 (q1 (ofV s)), .int .u64 (q2 (ofV s)), .int .u64 (q3 (ofV s))], .int .i64 0]) ∧ Below w.heap.size w w')
  have HS := hid (hof s hs h.1)
  have HT := hid (hof t ht h.2.1)
  have HU := hid (hof u hu h.2.2)
  have RS := hid (fun w => RO s w h.1)
  have RT := hid (fun w => RO t w h.2.1)
  have RU := hid (fun w => RO u w h.2.2)
  have la := ofV_lt s
  have lb := ofV_lt t
  have lc := ofV_lt u
  clear hof hs ht hu h
  generalize ofV s = a at *
  generalize ofV t = b at *
  generalize ofV u = c at *
  have HE := hid (digs_eq8 la lb)
  have HMA := hid (fun w => MA a b c w la lb lc)
  have HRM := hid (fun w => RMA a b c w la lb lc)
  have HSM := hid (fun w => SM a b w la lb)
  have HIS := hid (fun w => IS (ma a b c) w (ma_lt a b c))
  obtain ⟨x, hx⟩ : ∃ l, digs 256 a 32 = l := ⟨_, rfl⟩
  obtain ⟨y, hy⟩ : ∃ l, digs 256 b 32 = l := ⟨_, rfl⟩
  obtain ⟨z, hz⟩ : ∃ l, digs 256 c 32 = l := ⟨_, rfl⟩
  obtain ⟨m, hm⟩ : ∃ l, digs 256 (ma a b c) 32 = l := ⟨_, rfl⟩
  have hxl : x.length = 32 := by rw [← hx, digs_length]
  have hyl : y.length = 32 := by rw [← hy, digs_length]
  rw [hx] at RS HRM HE
  rw [hy] at RT HRM HE
  rw [hz] at RU HRM
  rw [hm] at HRM HIS
  have heq : ∀ w, (Op.equalIn 10000 37 (.agg (ints .u8 x)) (.agg (ints .u8 y))).run Try.prog w = .ok (eqB a b) w := by
    intro w
    rw [← HE.out]
    exact run_equalIn_ints Try.underlying37 Try.underlying5 (by kernel_rfl) 9998 x y hxl hyl w
  have HEQ := hid heq
  have hsx := store_new hxl
  have hsy := store_new hyl
  have hsxl : (ints .u8 x).size = 32 := by rw [ints_size, hxl]
  have hsyl : (ints .u8 y).size = 32 := by rw [ints_size, hyl]
  have HX := hid hxl
  have HY := hid hyl
  generalize ma a b c = mm at *
  generalize eqB a b = eb at *
  clear hx hy hz hm HE la lb lc hxl hyl heq
  go_enter Try.func4, Try.ntmps4
  go_wp2_with fail
  refine (HS.out _).mono ?_
  rintro e w1 ⟨rfl, hb1⟩
  have A1 := hid (alloc_at w1 (.cells #[.int .u64 (q0 a), .int .u64 (q1 a), .int .u64 (q2 a), .int .u64 (q3 a)] 26))
  have b1 := hid (below_alloc hb1 (.cells #[.int .u64 (q0 a), .int .u64 (q1 a), .int .u64 (q2 a), .int .u64 (q3 a)] 26))
  clear hb1
  go_wp2_with fail
  refine (HT.out _).mono ?_
  rintro e w2 ⟨rfl, hb2⟩
  have A2 := hid (alloc_old (o' := .cells #[.int .u64 (q0 b), .int .u64 (q1 b), .int .u64 (q2 b), .int .u64 (q3 b)] 26) ((hb2.block _ (lt_blk A1.out)).trans A1.out))
  have B2 := hid (alloc_at w2 (.cells #[.int .u64 (q0 b), .int .u64 (q1 b), .int .u64 (q2 b), .int .u64 (q3 b)] 26))
  have b2 := hid (below_alloc (below_to b1.out hb2) (.cells #[.int .u64 (q0 b), .int .u64 (q1 b), .int .u64 (q2 b), .int .u64 (q3 b)] 26))
  generalize w1.heap.size = NA at *
  clear hb2 b1 A1
  go_wp2_with fail
  refine (HU.out _).mono ?_
  rintro e w3 ⟨rfl, hb3⟩
  have A3 := hid (alloc_old (o' := .cells #[.int .u64 (q0 c), .int .u64 (q1 c), .int .u64 (q2 c), .int .u64 (q3 c)] 26) ((hb3.block _ (lt_blk A2.out)).trans A2.out))
  have B3 := hid (alloc_old (o' := .cells #[.int .u64 (q0 c), .int .u64 (q1 c), .int .u64 (q2 c), .int .u64 (q3 c)] 26) ((hb3.block _ (lt_blk B2.out)).trans B2.out))
  have C3 := hid (alloc_at w3 (.cells #[.int .u64 (q0 c), .int .u64 (q1 c), .int .u64 (q2 c), .int .u64 (q3 c)] 26))
  have b3 := hid (below_alloc (below_to b2.out hb3) (.cells #[.int .u64 (q0 c), .int .u64 (q1 c), .int .u64 (q2 c), .int .u64 (q3 c)] 26))
  generalize w2.heap.size = NB at *
  clear hb3 b2 A2 B2
  go_wp2_with fail
  refine (RS.out _).mono ?_
  rintro e w4 ⟨rfl, hb4⟩
  have A4 := hid (alloc_old (o' := .cells (ints .u8 x) 37) ((hb4.block _ (lt_blk A3.out)).trans A3.out))
  have B4 := hid (alloc_old (o' := .cells (ints .u8 x) 37) ((hb4.block _ (lt_blk B3.out)).trans B3.out))
  have C4 := hid (alloc_old (o' := .cells (ints .u8 x) 37) ((hb4.block _ (lt_blk C3.out)).trans C3.out))
  have X4 := hid (alloc_at w4 (.cells (ints .u8 x) 37))
  have b4 := hid (below_alloc (below_to b3.out hb4) (.cells (ints .u8 x) 37))
  generalize w3.heap.size = NC at *
  clear hb4 b3 A3 B3 C3
  go_wp2_with fail
  refine (RT.out _).mono ?_
  rintro e w5 ⟨rfl, hb5⟩
  have A5 := hid (alloc_old (o' := .cells (ints .u8 y) 37) ((hb5.block _ (lt_blk A4.out)).trans A4.out))
  have B5 := hid (alloc_old (o' := .cells (ints .u8 y) 37) ((hb5.block _ (lt_blk B4.out)).trans B4.out))
  have C5 := hid (alloc_old (o' := .cells (ints .u8 y) 37) ((hb5.block _ (lt_blk C4.out)).trans C4.out))
  have X5 := hid (alloc_old (o' := .cells (ints .u8 y) 37) ((hb5.block _ (lt_blk X4.out)).trans X4.out))
  have Y5 := hid (alloc_at w5 (.cells (ints .u8 y) 37))
  have b5 := hid (below_alloc (below_to b4.out hb5) (.cells (ints .u8 y) 37))
  generalize w4.heap.size = NX at *
  clear hb5 b4 A4 B4 C4 X4
  go_wp2_with fail
  clear hsx hsy hsxl hsyl
  generalize w5.alloc (.cells (ints .u8 y) 37) = w6 at *
  generalize w5.heap.size = NY at *
  obtain ⟨a0, a1, a2, a3⟩ := quad_cells A5.out
  obtain ⟨b0, b1, b2, b3⟩ := quad_cells B5.out
  obtain ⟨c0, c1, c2, c3⟩ := quad_cells C5.out
  have lax := later_load HX.out X5.out
  have lay := later_load HY.out Y5.out
  have la0 := later_cell a0
  have la1 := later_cell a1
  have la2 := later_cell a2
  have la3 := later_cell a3
  have lb0 := later_cell b0
  have lb1 := later_cell b1
  have lb2 := later_cell b2
  have lb3 := later_cell b3
  have lc0 := later_cell c0
  have lc1 := later_cell c1
  have lc2 := later_cell c2
  have lc3 := later_cell c3
  have heq := HEQ.out
  clear A5 B5 C5 X5 Y5 a0 a1 a2 a3 b0 b1 b2 b3 c0 c1 c2 c3
  refine wp_region_later (by kernel_rfl) (by kernel_rfl) ?_
  repeat (first | (go_big_quiet_want; (first | refine quiet_load _ _ (by rfl) (by rfl) lax ?_ | refine quiet_load _ _ (by rfl) (by rfl) lay ?_); go_big_quiet_on; simp only [Act.put, List.setIfInBounds_toArray, List.set_cons_zero, List.set_cons_succ]) | (go_big_quiet_step ((first | (go_at_call 15; exact calls_later (HMA.out _)) | (go_at_call 14; exact calls_later (RU.out _)) | (go_at_call 16; exact calls_later (HRM.out _)) | (go_at_call 13; exact calls_later (HIS.out _)) | (go_at_call 12; exact calls_later (HSM.out _)) | (go_at_call 6; exact calls_later (alive_any _))))))
  refine wpQuiet_nil ?_
  intro wL hwL
  obtain ⟨⟨w8, hL⟩, e8⟩ := hwL
  change wL = w8 at e8
  subst e8
  go_wp2_with fail
  go_ret
  exact ⟨rfl, below_to b5.out hL⟩

end Go.Proofs.Ytaencgjlneohnaa
