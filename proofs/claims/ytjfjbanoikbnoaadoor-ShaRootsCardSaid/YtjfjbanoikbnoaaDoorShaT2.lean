/- The walk of the document's reckoning of one root. -/
import Derived.Test.YtjfjbanoikbnoaaDoorShaT1
namespace Go.Proofs.YtjfjbanoikbnoaaDoor
open Go.RowKit

section
variable {P : Program} {op : Oper} {a : Act} {w : World} {Q : Exit → Act → World → Prop}
theorem opwp_store_row {K : Act → World → Prop} (ty : TypeId) (x y : Operand) (ho : op.op = .store ty x y) {b : Nat} (hx : a.eval x = .pointer (some ⟨b, 0, none⟩)) {cs c : Array Value} {T : TypeId} (hy : a.eval y = .agg cs)
    (h : w.heap[b]? = some (.cells c T (0, 0))) (hi : (P.info? ty).map (·.size) = some cs.size) (hc : c.size = cs.size) (h1 : cs.all (·.oneCell') = true)
    (k : K (a.put op.dst undef) (blk w b (.cells cs T (0, 0)))) : op.wp P a w K Q := by
  refine wp_store_mid ty x y ho b 0 cs hx hy (row_there h (by omega)) hi h1 ?_
  have h2 := setCells_row cs.toList w b [] c.toList [] T (0, 0) (by simpa using h) (by simp [hc])
  simp only [List.length_nil, List.nil_append, List.append_nil] at h2
  rw [h2]
  exact k
end
@[go_sem] theorem u_shl8 (x : UInt64) : IntKind.u64.wrap (UW x * (256 : Int)) = UW (x <<< 8) := u_shl x 8 (by decide)
@[go_sem] theorem u_shl24 (x : UInt64) : IntKind.u64.wrap (UW x * (16777216 : Int)) = UW (x <<< 24) := u_shl x 24 (by decide)
@[go_sem] theorem u_shl48 (x : UInt64) : IntKind.u64.wrap (UW x * (281474976710656 : Int)) = UW (x <<< 48) := u_shl x 48 (by decide)

/-- What is aimed at: in digits. -/
def aimL (p : UInt64) (cube : Bool) : List UInt64 := if cube then [0, 0, 0, 0, 0, 0, 0, 0, p, 0, 0, 0, 0, 0] else [0, 0, 0, 0, 0, (p <<< 8) &&& 16777215, (p <<< 8) >>> 24, 0, 0, 0, 0, 0, 0, 0]
def aimN (p : UInt64) (cube : Bool) : Nat := if cube then p.toNat * 2 ^ 192 else p.toNat * 2 ^ 128
theorem aim_facts (p : UInt64) (cube : Bool) (hp : p.toNat < 512) : RT.low (aimL p cube) ∧ (aimL p cube).length = 14 ∧ RT.val (aimL p cube) = aimN p cube := by
  have h8 : (p <<< 8).toNat = p.toNat * 256 := by
    rw [UInt64.toNat_shiftLeft, Nat.shiftLeft_eq, show (8 : UInt64).toNat % 64 = 8 from rfl, Nat.mod_eq_of_lt (by omega)]
  have ha : ((p <<< 8) &&& 16777215).toNat = p.toNat * 256 := by
    rw [UInt64.toNat_and, h8, show (16777215 : UInt64).toNat = 2 ^ 24 - 1 from rfl, Nat.and_two_pow_sub_one_eq_mod]; omega
  have hs : ((p <<< 8) >>> 24).toNat = 0 := by
    rw [UInt64.toNat_shiftRight, h8, Nat.shiftRight_eq_div_pow, show (24 : UInt64).toNat % 64 = 24 from rfl]; omega
  cases cube
  · have e : aimL p false = ([0, 0, 0, 0, 0, (p <<< (8 : UInt64)) &&& (16777215 : UInt64), (p <<< (8 : UInt64)) >>> (24 : UInt64), 0, 0, 0, 0, 0, 0, 0] : List UInt64) := rfl
    have en : aimN p false = p.toNat * 2 ^ 128 := rfl
    rw [e, en]
    refine ⟨fun d hd => ?_, rfl, ?_⟩
    · simp only [List.mem_cons, List.not_mem_nil, or_false] at hd
      have h0 : (0 : UInt64).toNat < 16777216 := by decide
      rcases hd with h | h | h | h | h | h | h | h | h | h | h | h | h | h <;> rw [h] <;> first | exact h0 | (rw [ha]; omega) | (rw [hs]; omega)
    · simp only [RT.val, ha, hs, show (0 : UInt64).toNat = 0 from rfl, Nat.zero_add, Nat.mul_zero, Nat.add_zero, ← Nat.mul_assoc, Nat.reduceMul, Nat.reducePow]
      rw [Nat.mul_comm, ← Nat.mul_assoc, Nat.mul_comm _ p.toNat] <;> first | rfl | skip
  · have e : aimL p true = [0, 0, 0, 0, 0, 0, 0, 0, p, 0, 0, 0, 0, 0] := rfl
    have en : aimN p true = p.toNat * 2 ^ 192 := rfl
    rw [e, en]
    refine ⟨fun d hd => ?_, rfl, ?_⟩
    · simp only [List.mem_cons, List.not_mem_nil, or_false] at hd
      have h0 : (0 : UInt64).toNat < 16777216 := by decide
      rcases hd with h | h | h | h | h | h | h | h | h | h | h | h | h | h <;> rw [h] <;> first | exact h0 | exact Nat.lt_of_lt_of_le hp (by decide)
    · simp only [RT.val, show (0 : UInt64).toNat = 0 from rfl, Nat.zero_add, Nat.mul_zero, Nat.add_zero, ← Nat.mul_assoc, Nat.reduceMul, Nat.reducePow]
      rw [Nat.mul_comm]

/-- From the loop on: the row that is aimed at stands, whatever came before. -/
def rootW (p : UInt64) (cube : Bool) : UInt64 := UInt64.ofNat (RT.rootN (aimN p cube) (if cube then 3 else 2) 71)

theorem low_zero : RT.low (List.replicate 14 0) := fun d hd => by
  have : d = 0 := by simpa using (List.mem_replicate.1 hd).2
  rw [this]; decide

set_option maxRecDepth 100000 in
set_option maxHeartbeats 2000000 in
theorem root_square (p : UInt64) (W : World) (hp : p.toNat < 512) :
    Calls Tryd.prog 11 #[.int .u64 (UW p), .bool false] W fun e w' => e = .returned (.int .u64 (UW (rootW p false))) ∧ Below W.heap.size W w' := by
  obtain ⟨alow, hlen, hval⟩ := aim_facts p false hp
  go_enter Tryd.func11, Tryd.ntmps11
  go_wp2_with fail
  obtain ⟨N, hN⟩ : ∃ N, N = W.heap.size := ⟨_, rfl⟩
  rw [← hN]
  have HN := hid hN
  go_loopw [7] (fun i wr => ∃ n : Nat, n ≤ 71 ∧ i = .int .i64 (70 - (n : Int)) ∧ wr.heap[N]? = some (.cells (wrow (aimL p false)) 46 (0, 0)) ∧ (∃ l, wr.heap[N + 1]? = some (.cells (wrow l) 46 (0, 0)) ∧ RT.low l ∧ l.length = 14 ∧ RT.val l = RT.rootN (aimN p false) 2 n) ∧ Below W.heap.size W wr) (fun i _ => (intOf i + 1).toNat)
  case atStart => exact ⟨0, by omega, rfl, alloc_old (alloc_at' hN _), ⟨List.replicate 14 0, alloc_at' (by simp [hN]) _, low_zero, rfl, rfl⟩, below_alloc (below_new _) _⟩
  case' round =>
    clear hN
    obtain ⟨n, hn, rfl, rA, ⟨l, rX, xlow, xlen, xval⟩, rb⟩ := hrel
    generalize aimL p false = AL at *
    generalize hAN : aimN p false = AN at *
    have HAN := hid hAN
    clear hAN
    have RA := hid rA
    have RX := hid rX
    have BE := hid rb
    have HLEN := hid hlen
    have hNW : W.heap.size ≤ N := by have := HN.out; omega
    clear rA rX rb hlen
  by_cases hlt : n < 71
  · obtain ⟨j, hj⟩ : ∃ j, 70 - n = j := ⟨_, rfl⟩
    have hj2 : (70 : Int) - (n : Int) = (j : Int) := by omega
    rw [hj2]
    have hd : decide ((j : Int) ≥ 0) = true := decide_eq_true (by omega)
    have hdd : decide (0 ≤ (j : Int)) = true := decide_eq_true (by omega)
    have hroot : RT.rootN AN 2 (n + 1) = if (RT.rootN AN 2 n + 2 ^ j) ^ 2 ≤ AN then RT.rootN AN 2 n + 2 ^ j else RT.rootN AN 2 n := by rw [← hj]; rfl
    have hbits := RT.rootN_bits AN 2 n (by omega)
    rw [show 71 - n = j + 1 by omega] at hbits
    obtain ⟨ylen, ylow, yval⟩ := RT.bitset_val xlow xlen (n := j) (by omega) (by rw [xval]; exact hbits.1)
    rw [xval] at yval
    have hyb : RT.bitset l j = l.set (j / 24) (l.getD (j / 24) 0 ||| (1 <<< UInt64.ofNat (j % 24))) := rfl
    have hYle : RT.rootN AN 2 n + 2 ^ j ≤ 2 ^ 71 := by have := hbits.2; rw [Nat.pow_succ] at this; omega
    generalize hXN : RT.rootN AN 2 n = XN at *
    have j0 : 0 ≤ (j : Int) := by omega
    have j6 : (j : Int) ≤ 70 := by omega
    have j1 : (j : Int) / 24 < 14 := by omega
    have j2 : 0 ≤ (j : Int) / 24 := by omega
    have j3 : ((j : Int) / 24).toNat = j / 24 := by omega
    have j4 : 0 ≤ (j : Int) % 24 := by omega
    have j5 : (j : Int) % 24 < 24 := by omega
    have HJ := hid hj
    have HXN := hid hXN
    have HROOT := hid hroot
    have HYB := hid hyb
    have HYLE := hid hYle
    have HXL := hid xlen
    have HYL := hid ylen
    have HXV := hid xval
    have HYV := hid yval
    clear hbits hj hj2 hroot hyb hYle hXN xval yval
    go_upto_region 12 with (fail)
    refine wp_region_list ?_
    refine wp_load_row (by rfl) _ _ (by rfl) (by rfl) RX.out Tryd.underlying46 rfl (by rw [info_big, wrow_size, HXL.out]) ?_
    have sl := store14 l HXL.out
    have hsz : (wrow l).size = 14 := by rw [wrow_size, HXL.out]
    have cy := wrow_cell (alloc_at wr (.cells (wrow l) 46)) (j := j / 24) (by rw [HXL.out]; omega)
    have fy := free_at (alloc_at wr (.cells (wrow l) 46))
    have hyb := HYB.out
    generalize l.getD (j / 24) 0 = d at *
    have hor : bits .or .u64 (UW d) (IntKind.u64.wrap ((2 : Int) ^ (j % 24))) = UW (d ||| 1 <<< UInt64.ofNat (j % 24)) := by
      have h := u_shl 1 (j % 24) (by omega)
      rw [show UW 1 = 1 from rfl, Int.one_mul] at h
      rw [h, u_or]
    have hset : (wrow l).setIfInBounds (j / 24) (.int .u64 (UW (d ||| 1 <<< UInt64.ofNat (j % 24)))) = wrow (RT.bitset l j) := by rw [wrow_set, hyb]
    clear hyb HYB
    generalize RT.bitset l j = y at *
    go_upto_region 14 with (fail)
    clear sl hsz cy fy hor hset j1 j2 j3 j4 j5 hd hdd
    have hjw : IntKind.i64.wrap ((j : Int) - 1) = (j : Int) - 1 := IntWalk.i64_in _ (by omega)
    have Y1 := alloc_at wr (.cells (wrow y) 46)
    have X1 := alloc_old (o' := .cells (wrow y) 46) RX.out
    have A1 := alloc_old (o' := .cells (wrow y) 46) RA.out
    have B1 := hid (below_alloc BE.out (.cells (wrow y) 46))
    obtain ⟨M, hM⟩ : ∃ M, wr.heap.size = M := ⟨_, rfl⟩
    have hMW : W.heap.size ≤ M := by rw [← hM]; exact BE.out.size
    have hNM : N + 1 < M := by rw [← hM]; exact lt_blk RX.out
    rw [hM] at Y1 ⊢
    clear hM RX RA BE
    generalize wr.alloc (.cells (wrow y) 46) = w1 at *
    refine wp_region_list ?_
    refine wp_load_row (by rfl) _ _ (by rfl) (by rfl) Y1 Tryd.underlying46 rfl (by rw [info_big, wrow_size, HYL.out]) ?_
    refine wp_load_row (by rfl) _ _ (by rfl) (by rfl) Y1 Tryd.underlying46 rfl (by rw [info_big, wrow_size, HYL.out]) ?_
    go_wp2_with fail
    obtain ⟨zlen, zlow, zval⟩ := RT.times_val ylow ylow HYL.out
    rw [HYV.out] at zval
    refine (times_any y y w1 HYL.out HYL.out).mono ?_
    rintro e w2 ⟨rfl, hb2⟩
    have Y2 := hid (keepB hb2 Y1)
    have X2 := hid (keepB hb2 X1)
    have A2 := hid (keepB hb2 A1)
    have B2 := hid (below_to B1.out hb2)
    clear Y1 X1 A1 B1 hb2
    generalize RT.times y y = z at *
    have HZV := hid zval
    have HZL := hid zlen
    have sz := store14 z zlen
    have hsz : (wrow z).size = 14 := by rw [wrow_size, zlen]
    clear zval zlen
    have hsq : (XN + 2 ^ j) * (XN + 2 ^ j) % 16777216 ^ 14 = (XN + 2 ^ j) ^ 2 := by
      rw [Nat.pow_two, Nat.mod_eq_of_lt]
      have := Nat.mul_le_mul HYLE.out HYLE.out
      exact Nat.lt_of_le_of_lt this (by decide)
    rw [hsq] at HZV
    clear hsq
    go_upto_region 17 with (fail)
    clear sz hsz
    have Z1 := alloc_at w2 (.cells (wrow z) 46)
    have Y1 := alloc_old (o' := .cells (wrow z) 46) Y2.out
    have X1 := hid (alloc_old (o' := .cells (wrow z) 46) X2.out)
    have A1 := alloc_old (o' := .cells (wrow z) 46) A2.out
    have B1 := hid (below_alloc B2.out (.cells (wrow z) 46))
    obtain ⟨L, hL⟩ : ∃ L, w2.heap.size = L := ⟨_, rfl⟩
    have HLM : Hid (M < L ∧ W.heap.size ≤ M ∧ N + 1 < M) := hid ⟨by rw [← hL]; exact lt_blk Y2.out, hMW, hNM⟩
    rw [hL] at Z1 ⊢
    clear hL Y2 X2 A2 B2
    generalize w2.alloc (.cells (wrow z) 46) = w3 at *
    refine wp_region_list ?_
    refine wp_load_row (by rfl) _ _ (by rfl) (by rfl) Z1 Tryd.underlying46 rfl (by rw [info_big, wrow_size, HZL.out]) ?_
    refine wp_load_row (by rfl) _ _ (by rfl) (by rfl) A1 Tryd.underlying46 rfl (by rw [info_big, wrow_size, HLEN.out]) ?_
    go_wp2_with fail
    have hab := RT.above_val zlow alow 14 (by rw [HZL.out]; exact Nat.le_refl _) (by rw [HLEN.out]; exact Nat.le_refl _)
    rw [List.take_of_length_le (l := z) (by rw [HZL.out]; exact Nat.le_refl _), List.take_of_length_le (l := AL) (by rw [HLEN.out]; exact Nat.le_refl _), hval, HZV.out] at hab
    have HAB := hid hab
    have Y3 := hid Y1
    have A3 := hid A1
    clear hab Y1 A1 Z1
    refine (above_any z AL w3 HZL.out HLEN.out).mono ?_
    rintro e w4 ⟨rfl, hb4⟩
    have Y4 := hid (keepB hb4 Y3.out)
    have X4 := hid (keepB hb4 X1.out)
    have A4 := hid (keepB hb4 A3.out)
    have B4 := hid (below_to B1.out hb4)
    clear hb4 Y3 X1 A3 B1
    by_cases hcmp : AN < (XN + 2 ^ j) ^ 2
    · rw [HAB.out, decide_eq_true hcmp]
      have HR := hid (HROOT.out.trans (if_neg (by first | exact Nat.not_le.2 hcmp | skip)))
      clear HROOT
      go_wp2_with fail
      exact ⟨⟨n + 1, by omega, by (have := HJ.out; congr 1; omega), A4.out, ⟨l, X4.out, by assumption, HXL.out, by rw [HR.out, HXV.out]⟩, B4.out⟩, by simp [intOf]⟩
    · rw [HAB.out, decide_eq_false hcmp]
      have HR := hid (HROOT.out.trans (if_pos (Nat.not_lt.1 hcmp)))
      clear HROOT
      go_upto_region 18 with (fail)
      refine wp_region_list ?_
      refine wp_load_row (by rfl) _ _ (by rfl) (by rfl) Y4.out Tryd.underlying46 rfl (by rw [info_big, wrow_size, HYL.out]) ?_
      refine wp_store_row (by rfl) _ _ _ (by rfl) (by rfl) (by rfl) X4.out (by rw [info_big, wrow_size, HYL.out]) (by rw [wrow_size, wrow_size, HYL.out, HXL.out]) (wrow_one _) ?_
      go_wp2_with fail
      exact ⟨⟨n + 1, by omega, by (have := HJ.out; congr 1; omega), (blk_other N (by omega)).trans A4.out, ⟨y, blk_heap (lt_blk X4.out), ylow, HYL.out, by rw [HR.out, HYV.out]⟩, below_blk' B4.out (by omega) _⟩, by simp [intOf]⟩
  · have hn5 : n = 71 := by omega
    subst hn5
    have hd : decide ((70 : Int) - ((71 : Nat) : Int) ≥ 0) = false := rfl
    have hdd : decide (0 ≤ (70 : Int) - ((71 : Nat) : Int)) = false := rfl
    have c0 := wrow_cell RX.out (j := 0) (by rw [xlen]; omega)
    have c1 := wrow_cell RX.out (j := 1) (by rw [xlen]; omega)
    have c2 := wrow_cell RX.out (j := 2) (by rw [xlen]; omega)
    have hjo := RT.join3 xlow xlen
    rw [xval, ← HAN.out] at hjo
    have hfin : rootW p false = (l.getD 0 0 ||| (l.getD 1 0 <<< 24)) ||| (l.getD 2 0 <<< 48) := by rw [hjo]; rfl
    generalize l.getD 0 0 = d0 at *
    generalize l.getD 1 0 = d1 at *
    generalize l.getD 2 0 = d2 at *
    have HFIN := hid hfin
    clear hfin hjo xlow xlen xval alow hval
    go_wp2_with fail
    go_ret
    exact ⟨by rw [HFIN.out]; first | done | rfl, BE.out⟩

set_option maxRecDepth 100000 in
set_option maxHeartbeats 2000000 in
theorem root_cube (p : UInt64) (W : World) (hp : p.toNat < 512) :
    Calls Tryd.prog 11 #[.int .u64 (UW p), .bool true] W fun e w' => e = .returned (.int .u64 (UW (rootW p true))) ∧ Below W.heap.size W w' := by
  obtain ⟨alow, hlen, hval⟩ := aim_facts p true hp
  go_enter Tryd.func11, Tryd.ntmps11
  go_wp2_with fail
  obtain ⟨N, hN⟩ : ∃ N, N = W.heap.size := ⟨_, rfl⟩
  rw [← hN]
  have HN := hid hN
  go_loopw [7] (fun i wr => ∃ n : Nat, n ≤ 71 ∧ i = .int .i64 (70 - (n : Int)) ∧ wr.heap[N]? = some (.cells (wrow (aimL p true)) 46 (0, 0)) ∧ (∃ l, wr.heap[N + 1]? = some (.cells (wrow l) 46 (0, 0)) ∧ RT.low l ∧ l.length = 14 ∧ RT.val l = RT.rootN (aimN p true) 3 n) ∧ Below W.heap.size W wr) (fun i _ => (intOf i + 1).toNat)
  case atStart => exact ⟨0, by omega, rfl, alloc_old (alloc_at' hN _), ⟨List.replicate 14 0, alloc_at' (by simp [hN]) _, low_zero, rfl, rfl⟩, below_alloc (below_new _) _⟩
  case' round =>
    clear hN
    obtain ⟨n, hn, rfl, rA, ⟨l, rX, xlow, xlen, xval⟩, rb⟩ := hrel
    generalize aimL p true = AL at *
    generalize hAN : aimN p true = AN at *
    have HAN := hid hAN
    clear hAN
    have RA := hid rA
    have RX := hid rX
    have BE := hid rb
    have HLEN := hid hlen
    have hNW : W.heap.size ≤ N := by have := HN.out; omega
    clear rA rX rb hlen
  by_cases hlt : n < 71
  · obtain ⟨j, hj⟩ : ∃ j, 70 - n = j := ⟨_, rfl⟩
    have hj2 : (70 : Int) - (n : Int) = (j : Int) := by omega
    rw [hj2]
    have hd : decide ((j : Int) ≥ 0) = true := decide_eq_true (by omega)
    have hdd : decide (0 ≤ (j : Int)) = true := decide_eq_true (by omega)
    have hroot : RT.rootN AN 3 (n + 1) = if (RT.rootN AN 3 n + 2 ^ j) ^ 3 ≤ AN then RT.rootN AN 3 n + 2 ^ j else RT.rootN AN 3 n := by rw [← hj]; rfl
    have hbits := RT.rootN_bits AN 3 n (by omega)
    rw [show 71 - n = j + 1 by omega] at hbits
    obtain ⟨ylen, ylow, yval⟩ := RT.bitset_val xlow xlen (n := j) (by omega) (by rw [xval]; exact hbits.1)
    rw [xval] at yval
    have hyb : RT.bitset l j = l.set (j / 24) (l.getD (j / 24) 0 ||| (1 <<< UInt64.ofNat (j % 24))) := rfl
    have hYle : RT.rootN AN 3 n + 2 ^ j ≤ 2 ^ 71 := by have := hbits.2; rw [Nat.pow_succ] at this; omega
    generalize hXN : RT.rootN AN 3 n = XN at *
    have j0 : 0 ≤ (j : Int) := by omega
    have j6 : (j : Int) ≤ 70 := by omega
    have j1 : (j : Int) / 24 < 14 := by omega
    have j2 : 0 ≤ (j : Int) / 24 := by omega
    have j3 : ((j : Int) / 24).toNat = j / 24 := by omega
    have j4 : 0 ≤ (j : Int) % 24 := by omega
    have j5 : (j : Int) % 24 < 24 := by omega
    have HJ := hid hj
    have HXN := hid hXN
    have HROOT := hid hroot
    have HYB := hid hyb
    have HYLE := hid hYle
    have HXL := hid xlen
    have HYL := hid ylen
    have HXV := hid xval
    have HYV := hid yval
    clear hbits hj hj2 hroot hyb hYle hXN xval yval
    go_upto_region 12 with (fail)
    refine wp_region_list ?_
    refine wp_load_row (by rfl) _ _ (by rfl) (by rfl) RX.out Tryd.underlying46 rfl (by rw [info_big, wrow_size, HXL.out]) ?_
    have sl := store14 l HXL.out
    have hsz : (wrow l).size = 14 := by rw [wrow_size, HXL.out]
    have cy := wrow_cell (alloc_at wr (.cells (wrow l) 46)) (j := j / 24) (by rw [HXL.out]; omega)
    have fy := free_at (alloc_at wr (.cells (wrow l) 46))
    have hyb := HYB.out
    generalize l.getD (j / 24) 0 = d at *
    have hor : bits .or .u64 (UW d) (IntKind.u64.wrap ((2 : Int) ^ (j % 24))) = UW (d ||| 1 <<< UInt64.ofNat (j % 24)) := by
      have h := u_shl 1 (j % 24) (by omega)
      rw [show UW 1 = 1 from rfl, Int.one_mul] at h
      rw [h, u_or]
    have hset : (wrow l).setIfInBounds (j / 24) (.int .u64 (UW (d ||| 1 <<< UInt64.ofNat (j % 24)))) = wrow (RT.bitset l j) := by rw [wrow_set, hyb]
    clear hyb HYB
    generalize RT.bitset l j = y at *
    go_upto_region 14 with (fail)
    clear sl hsz cy fy hor hset j1 j2 j3 j4 j5 hd hdd
    have hjw : IntKind.i64.wrap ((j : Int) - 1) = (j : Int) - 1 := IntWalk.i64_in _ (by omega)
    have Y1 := alloc_at wr (.cells (wrow y) 46)
    have X1 := alloc_old (o' := .cells (wrow y) 46) RX.out
    have A1 := alloc_old (o' := .cells (wrow y) 46) RA.out
    have B1 := hid (below_alloc BE.out (.cells (wrow y) 46))
    obtain ⟨M, hM⟩ : ∃ M, wr.heap.size = M := ⟨_, rfl⟩
    have hMW : W.heap.size ≤ M := by rw [← hM]; exact BE.out.size
    have hNM : N + 1 < M := by rw [← hM]; exact lt_blk RX.out
    rw [hM] at Y1 ⊢
    clear hM RX RA BE
    generalize wr.alloc (.cells (wrow y) 46) = w1 at *
    refine wp_region_list ?_
    refine wp_load_row (by rfl) _ _ (by rfl) (by rfl) Y1 Tryd.underlying46 rfl (by rw [info_big, wrow_size, HYL.out]) ?_
    refine wp_load_row (by rfl) _ _ (by rfl) (by rfl) Y1 Tryd.underlying46 rfl (by rw [info_big, wrow_size, HYL.out]) ?_
    go_wp2_with fail
    obtain ⟨zlen, zlow, zval⟩ := RT.times_val ylow ylow HYL.out
    rw [HYV.out] at zval
    refine (times_any y y w1 HYL.out HYL.out).mono ?_
    rintro e w2 ⟨rfl, hb2⟩
    have Y2 := hid (keepB hb2 Y1)
    have X2 := hid (keepB hb2 X1)
    have A2 := hid (keepB hb2 A1)
    have B2 := hid (below_to B1.out hb2)
    clear Y1 X1 A1 B1 hb2
    generalize RT.times y y = z at *
    have HZV := hid zval
    have HZL := hid zlen
    have sz := store14 z zlen
    have hsz : (wrow z).size = 14 := by rw [wrow_size, zlen]
    clear zval zlen
    have hsq : (XN + 2 ^ j) * (XN + 2 ^ j) % 16777216 ^ 14 = (XN + 2 ^ j) ^ 2 := by
      rw [Nat.pow_two, Nat.mod_eq_of_lt]
      have := Nat.mul_le_mul HYLE.out HYLE.out
      exact Nat.lt_of_le_of_lt this (by decide)
    rw [hsq] at HZV
    clear hsq
    go_upto_region 16 with (fail)
    clear sz hsz
    have Z1 := alloc_at w2 (.cells (wrow z) 46)
    have Y1 := alloc_old (o' := .cells (wrow z) 46) Y2.out
    have X1 := hid (alloc_old (o' := .cells (wrow z) 46) X2.out)
    have A1 := alloc_old (o' := .cells (wrow z) 46) A2.out
    have B1 := hid (below_alloc B2.out (.cells (wrow z) 46))
    obtain ⟨L, hL⟩ : ∃ L, w2.heap.size = L := ⟨_, rfl⟩
    have HLM : Hid (M < L ∧ W.heap.size ≤ M ∧ N + 1 < M) := hid ⟨by rw [← hL]; exact lt_blk Y2.out, hMW, hNM⟩
    rw [hL] at Z1 ⊢
    clear hL Y2 X2 A2 B2
    generalize w2.alloc (.cells (wrow z) 46) = w3 at *
    refine wp_region_list ?_
    refine wp_load_row (by rfl) _ _ (by rfl) (by rfl) Z1 Tryd.underlying46 rfl (by rw [info_big, wrow_size, HZL.out]) ?_
    refine wp_load_row (by rfl) _ _ (by rfl) (by rfl) Y1 Tryd.underlying46 rfl (by rw [info_big, wrow_size, HYL.out]) ?_
    go_wp2_with fail
    obtain ⟨vlen, vlow, vval⟩ := RT.times_val zlow ylow HZL.out
    rw [HYV.out, HZV.out] at vval
    have hLM : M < L ∧ N + 1 < L ∧ W.heap.size ≤ L := by have := HLM.out; omega
    refine (times_any z y w3 HZL.out HYL.out).mono ?_
    rintro e w4 ⟨rfl, hb4⟩
    have Z4 := hid (keepB hb4 Z1)
    have Y4 := hid (keepB hb4 Y1)
    have X4 := hid (keepB hb4 X1.out)
    have A4 := hid (keepB hb4 A1)
    have B4 := hid (below_to B1.out hb4)
    clear Z1 Y1 X1 A1 B1 hb4
    have hzs : (wrow z).size = 14 := by rw [wrow_size, HZL.out]
    clear HZL HZV zlow
    generalize RT.times z y = v at *
    have HVL := hid vlen
    have HVV := hid vval
    clear vlen vval
    rename_i hK
    refine hK _ _ ?_
    refine wp_store_row (by rfl) _ _ _ (by rfl) (by rfl) (by rfl) Z4.out (by rw [info_big, wrow_size, HVL.out]) (by rw [hzs, wrow_size, HVL.out]) (wrow_one _) ?_
    have Z1 := blk_heap (o := .cells (wrow v) 46 (0, 0)) (lt_blk Z4.out)
    have Y1 := (blk_other (w := w4) (b := L) (o := .cells (wrow v) 46 (0, 0)) M (by omega)).trans Y4.out
    have X1 := hid ((blk_other (w := w4) (b := L) (o := .cells (wrow v) 46 (0, 0)) (N + 1) (by omega)).trans X4.out)
    have A1 := (blk_other (w := w4) (b := L) (o := .cells (wrow v) 46 (0, 0)) N (by omega)).trans A4.out
    have B1 := hid (below_blk' B4.out (b := L) (by omega) (.cells (wrow v) 46 (0, 0)))
    clear Z4 Y4 X4 A4 B4 hzs
    generalize hw5 : blk w4 L (.cells (wrow v) 46 (0, 0)) = w5 at *
    have hsq : (XN + 2 ^ j) ^ 2 * (XN + 2 ^ j) % 16777216 ^ 14 = (XN + 2 ^ j) ^ 3 := by
      rw [← Nat.pow_succ, Nat.mod_eq_of_lt]
      have := Nat.pow_le_pow_left HYLE.out 3
      exact Nat.lt_of_le_of_lt this (by decide)
    rw [hsq] at HVV
    clear hsq hw5
    go_upto_region 17 with (fail)
    have zlow := vlow
    have HZL := HVL
    have HZV := HVV
    refine wp_region_list ?_
    refine wp_load_row (by rfl) _ _ (by rfl) (by rfl) Z1 Tryd.underlying46 rfl (by rw [info_big, wrow_size, HZL.out]) ?_
    refine wp_load_row (by rfl) _ _ (by rfl) (by rfl) A1 Tryd.underlying46 rfl (by rw [info_big, wrow_size, HLEN.out]) ?_
    go_wp2_with fail
    have hab := RT.above_val zlow alow 14 (by rw [HZL.out]; exact Nat.le_refl _) (by rw [HLEN.out]; exact Nat.le_refl _)
    rw [List.take_of_length_le (l := v) (by rw [HZL.out]; exact Nat.le_refl _), List.take_of_length_le (l := AL) (by rw [HLEN.out]; exact Nat.le_refl _), hval, HZV.out] at hab
    have HAB := hid hab
    have Y3 := hid Y1
    have A3 := hid A1
    clear hab Y1 A1 Z1
    refine (above_any v AL w5 HZL.out HLEN.out).mono ?_
    rintro e w4 ⟨rfl, hb4⟩
    have Y4 := hid (keepB hb4 Y3.out)
    have X4 := hid (keepB hb4 X1.out)
    have A4 := hid (keepB hb4 A3.out)
    have B4 := hid (below_to B1.out hb4)
    clear hb4 Y3 X1 A3 B1
    by_cases hcmp : AN < (XN + 2 ^ j) ^ 3
    · rw [HAB.out, decide_eq_true hcmp]
      have HR := hid (HROOT.out.trans (if_neg (by first | exact Nat.not_le.2 hcmp | skip)))
      clear HROOT
      go_wp2_with fail
      exact ⟨⟨n + 1, by omega, by (have := HJ.out; congr 1; omega), A4.out, ⟨l, X4.out, by assumption, HXL.out, by rw [HR.out, HXV.out]⟩, B4.out⟩, by simp [intOf]⟩
    · rw [HAB.out, decide_eq_false hcmp]
      have HR := hid (HROOT.out.trans (if_pos (Nat.not_lt.1 hcmp)))
      clear HROOT
      go_upto_region 18 with (fail)
      refine wp_region_list ?_
      refine wp_load_row (by rfl) _ _ (by rfl) (by rfl) Y4.out Tryd.underlying46 rfl (by rw [info_big, wrow_size, HYL.out]) ?_
      refine wp_store_row (by rfl) _ _ _ (by rfl) (by rfl) (by rfl) X4.out (by rw [info_big, wrow_size, HYL.out]) (by rw [wrow_size, wrow_size, HYL.out, HXL.out]) (wrow_one _) ?_
      go_wp2_with fail
      exact ⟨⟨n + 1, by omega, by (have := HJ.out; congr 1; omega), (blk_other N (by omega)).trans A4.out, ⟨y, blk_heap (lt_blk X4.out), ylow, HYL.out, by rw [HR.out, HYV.out]⟩, below_blk' B4.out (by omega) _⟩, by simp [intOf]⟩
  · have hn5 : n = 71 := by omega
    subst hn5
    have hd : decide ((70 : Int) - ((71 : Nat) : Int) ≥ 0) = false := rfl
    have hdd : decide (0 ≤ (70 : Int) - ((71 : Nat) : Int)) = false := rfl
    have c0 := wrow_cell RX.out (j := 0) (by rw [xlen]; omega)
    have c1 := wrow_cell RX.out (j := 1) (by rw [xlen]; omega)
    have c2 := wrow_cell RX.out (j := 2) (by rw [xlen]; omega)
    have hjo := RT.join3 xlow xlen
    rw [xval, ← HAN.out] at hjo
    have hfin : rootW p true = (l.getD 0 0 ||| (l.getD 1 0 <<< 24)) ||| (l.getD 2 0 <<< 48) := by rw [hjo]; rfl
    generalize l.getD 0 0 = d0 at *
    generalize l.getD 1 0 = d1 at *
    generalize l.getD 2 0 = d2 at *
    have HFIN := hid hfin
    clear hfin hjo xlow xlen xval alow hval
    go_wp2_with fail
    go_ret
    exact ⟨by rw [HFIN.out]; first | done | rfl, BE.out⟩

end Go.Proofs.YtjfjbanoikbnoaaDoor
