/- The walks of the congestion control, of the program and of the reference: what each call does. -/
import Derived.Deep.RegionHeld3
import Derived.Deep.DeepCutAuto
import Derived.Test.YtekjnljjhdochaaCongW4
namespace Go.Proofs.Ytekjnljjhdochaa
open Go.RowKit

structure Stp where
  o : Int
  a : Int
  b : Int
/-- A slice of steps: nothing, or a row of cells. -/
def StepsAt (w : World) (a : Option Addr) (len : Nat) (s : Nat → Stp) : Prop :=
  len = 0 ∨ ∃ b off, a = some ⟨b, off, none⟩ ∧ b < w.heap.size ∧ ∀ k, k < len → w.cell? ⟨b, off + k * 3, none⟩ = some (.int .i64 (s k).o) ∧ w.cell? ⟨b, off + k * 3 + 1, none⟩ = some (.int .u32 (s k).a) ∧
    w.cell? ⟨b, off + k * 3 + 2, none⟩ = some (.int .u32 (s k).b) ∧ (0 ≤ (s k).a ∧ (s k).a ≤ 4294967295) ∧ (0 ≤ (s k).b ∧ (s k).b ≤ 4294967295)

set_option maxHeartbeats 1000000 in
theorem plays_any (m : Int) (a : Option Addr) (len cap : Nat) (s : Nat → Stp) (W : World) (hm : 0 ≤ m ∧ m ≤ 4294967295) (hs : StepsAt W a len s) (hlen : len ≤ 300) :
    Calls Try.prog 3 #[.int .u32 m, .slice a len cap] W fun e w' => e = .returned (.bool true) ∧ Below W.heap.size W w' := by
  by_cases hm1 : 1 ≤ m ∧ m ≤ 16384
  · obtain ⟨h1, h2⟩ := hm1
    have hl : (len : Int) ≤ 300 := by omega
    go_enter Try.func3, Try.ntmps3
    go_wp2_with fail
    refine (new_any m _ h1 h2).mono ?_
    rintro e w1 ⟨rfl, hw1⟩
    have g1 : w1.heap[W.heap.size]? = some (.cells (fresh m).enc 46 (0, 0)) := by rw [← hw1]; exact alloc_at _ _
    have b1 : Below W.heap.size W w1 := by rw [← hw1]; exact alloc_below _ _ _ (Nat.le_refl _)
    have z1 : w1.heap.size = W.heap.size + 1 := by rw [← hw1]; simp
    clear hw1
    have Z1 := hid z1
    clear z1
    go_wp2_with fail
    refine (rnew_any m _ h1 h2).mono ?_
    rintro e w2 ⟨rfl, hw2⟩
    rw [Z1.out]
    have g2 : w2.heap[W.heap.size]? = some (.cells (fresh m).enc 46 (0, 0)) := by rw [← hw2]; exact alloc_old g1
    have q2 : w2.heap[W.heap.size + 1]? = some (.cells (fresh m).enc 35 (0, 0)) := by rw [← hw2, ← Z1.out]; exact alloc_at _ _
    have b2 : Below W.heap.size W w2 := by rw [← hw2]; exact b1.trans (alloc_below _ _ _ b1.size)
    clear hw2 g1 b1 Z1
    go_wp2_with fail
    go_loopw [8] (fun i wr => ∃ (k : Nat) (st : St), k ≤ len ∧ i = .int .i64 k ∧ st.ok ∧ wr.heap[W.heap.size]? = some (.cells st.enc 46 (0, 0)) ∧ wr.heap[W.heap.size + 1]? = some (.cells st.enc 35 (0, 0)) ∧ Below W.heap.size W wr)
      (fun i _ => len + 1 - (intOf i).toNat)
    case atStart => exact ⟨0, _, Nat.zero_le _, rfl, fresh_ok h1 h2, g2, q2, b2⟩
    case round =>
      obtain ⟨k, st, hk, rfl, hok, hr, hq, hb⟩ := hrel
      have HS := hid hs
      clear hs
      obtain ⟨sm, sw, sl, sd, sf, sr⟩ := st
      simp only [St.enc] at hr hq
      have c1 : wr.cell? ⟨W.heap.size + 1, 1, none⟩ = some (.int .u32 sw) := cell_at hq 1
      have c2 : wr.cell? ⟨W.heap.size + 1, 2, none⟩ = some (.int .u32 sl) := cell_at hq 2
      have c3 : wr.cell? ⟨W.heap.size + 1, 3, none⟩ = some (.int .i64 sd) := cell_at hq 3
      have c4 : wr.cell? ⟨W.heap.size + 1, 4, none⟩ = some (.bool sf) := cell_at hq 4
      have c5 : wr.cell? ⟨W.heap.size + 1, 5, none⟩ = some (.int .u32 sr) := cell_at hq 5
      have HR := hid hr
      have HQ := hid hq
      clear hr hq
      by_cases hlt : k < len
      · have hne : ((k : Int) == (len : Int)) = false := beq_eq_false_iff_ne.2 (by omega)
        go_wp2_with fail
        go_region_held3 (fun w' => w'.cell? ⟨W.heap.size + 1, 1, none⟩ = some (.int .u32 sw) ∧ w'.cell? ⟨W.heap.size + 1, 2, none⟩ = some (.int .u32 sl) ∧ w'.cell? ⟨W.heap.size + 1, 3, none⟩ = some (.int .i64 sd) ∧
            w'.cell? ⟨W.heap.size + 1, 4, none⟩ = some (.bool sf) ∧ w'.cell? ⟨W.heap.size + 1, 5, none⟩ = some (.int .u32 sr)) (go_keep)
          (first | (go_at_call 9; refine (state_any W.heap.size ⟨sm, sw, sl, sd, sf, sr⟩ _ (by exact HR.out)).mono ?_; rintro e w' ⟨rfl, o, rfl⟩))
        clear c1 c2 c3 c4 c5
        obtain ⟨wA, hA⟩ : ∃ wA, wA = (wr.alloc o).drew := ⟨_, rfl⟩
        have hrA : wA.heap[W.heap.size]? = some (.cells #[.int .u32 sm, .int .u32 sw, .int .u32 sl, .int .i64 sd, .bool sf, .int .u32 sr] 46 (0, 0)) := by rw [hA]; exact alloc_old HR.out
        have hqA : wA.heap[W.heap.size + 1]? = some (.cells #[.int .u32 sm, .int .u32 sw, .int .u32 sl, .int .i64 sd, .bool sf, .int .u32 sr] 35 (0, 0)) := by rw [hA]; exact alloc_old HQ.out
        have hbA : Below W.heap.size W wA := by rw [hA]; exact (hb.alloc hb.size o).drew
        rw [← hA]
        clear hA HR HQ hb
        have HRA := hid hrA
        have HQA := hid hqA
        clear hrA hqA
        obtain h0 | ⟨b, off, rfl, hbs, hx⟩ := HS.out
        · omega
        obtain ⟨x1, x2, x3, x4, x5⟩ := hx k hlt
        have y1 := (hbA.cell (p := ⟨b, off + k * 3, none⟩) hbs).trans x1
        have y2 := (hbA.cell (p := ⟨b, off + k * 3 + 1, none⟩) hbs).trans x2
        have y3 := (hbA.cell (p := ⟨b, off + k * 3 + 2, none⟩) hbs).trans x3
        clear x1 x2 x3 hx
        generalize s k = t at *
        obtain ⟨tdo, ta, tb⟩ := t
        simp only at y1 y2 y3 x4 x5
        go_wp2_with fail
        · obtain ⟨X, hX⟩ : ∃ X, X = wA.heap.size := ⟨_, rfl⟩
          obtain ⟨wB, hB⟩ : ∃ wB, wB = wA.alloc (.cells #[.int .i64 tdo, .int .u32 ta, .int .u32 tb] 37) := ⟨_, rfl⟩
          have rB : wB.heap[W.heap.size]? = some (.cells (St.enc ⟨sm, sw, sl, sd, sf, sr⟩) 46 (0, 0)) := by rw [hB]; exact alloc_old HRA.out
          have qB : wB.heap[W.heap.size + 1]? = some (.cells (St.enc ⟨sm, sw, sl, sd, sf, sr⟩) 35 (0, 0)) := by rw [hB]; exact alloc_old HQA.out
          have xB : wB.heap[X]? = some (.cells #[.int .i64 tdo, .int .u32 ta, .int .u32 tb] 37 (0, 0)) := by rw [hB, hX]; exact alloc_at _ _
          have bB : Below W.heap.size W wB := by rw [hB]; exact hbA.alloc hbA.size _
          have nX : X ≠ W.heap.size ∧ X ≠ W.heap.size + 1 := by have := lt_blk HQA.out; omega
          rw [← hB]
          try rw [← hX]
          clear hB hX HRA HQA hbA y1 y2 y3
          refine (acked_any W.heap.size _ ta tb wB rB hok x5).mono ?_
          rintro e wC ⟨rfl, hd⟩
          have rC := hid (dr_at hd (lt_blk rB))
          have qC := hid ((dr_other hd (W.heap.size + 1) (by omega)).trans qB)
          have xC := (dr_other hd X nX.1).trans xB
          have bC := bB.trans (dr_below hd (Nat.le_refl _))
          have cx1 : wC.cell? ⟨X, 1, none⟩ = some (.int .u32 ta) := cell_at xC 1
          have cx2 : wC.cell? ⟨X, 2, none⟩ = some (.int .u32 tb) := cell_at xC 2
          clear hd rB qB xB bB xC
          go_wp2_with fail
          refine (racked_any (W.heap.size + 1) _ ta tb wC qC.out hok x5).mono ?_
          rintro e wD ⟨rfl, hd⟩
          have rD := hid ((dr_other hd (W.heap.size) (by omega)).trans rC.out)
          have qD := hid (dr_at hd (lt_blk qC.out))
          have bD := bC.trans (dr_below hd (by omega))
          clear hd rC qC bC cx1 cx2
          go_wp2_with fail
          exact ⟨⟨k + 1, _, by omega, by go_num, acked_ok hok _ _, rD.out, qD.out, bD⟩, by simp [intOf]; omega⟩
        · obtain ⟨X, hX⟩ : ∃ X, X = wA.heap.size := ⟨_, rfl⟩
          obtain ⟨wB, hB⟩ : ∃ wB, wB = wA.alloc (.cells #[.int .i64 tdo, .int .u32 ta, .int .u32 tb] 37) := ⟨_, rfl⟩
          have rB : wB.heap[W.heap.size]? = some (.cells (St.enc ⟨sm, sw, sl, sd, sf, sr⟩) 46 (0, 0)) := by rw [hB]; exact alloc_old HRA.out
          have qB : wB.heap[W.heap.size + 1]? = some (.cells (St.enc ⟨sm, sw, sl, sd, sf, sr⟩) 35 (0, 0)) := by rw [hB]; exact alloc_old HQA.out
          have xB : wB.heap[X]? = some (.cells #[.int .i64 tdo, .int .u32 ta, .int .u32 tb] 37 (0, 0)) := by rw [hB, hX]; exact alloc_at _ _
          have bB : Below W.heap.size W wB := by rw [hB]; exact hbA.alloc hbA.size _
          have nX : X ≠ W.heap.size ∧ X ≠ W.heap.size + 1 := by have := lt_blk HQA.out; omega
          rw [← hB]
          try rw [← hX]
          clear hB hX HRA HQA hbA y1 y2 y3
          have cx1 : wB.cell? ⟨X, 1, none⟩ = some (.int .u32 ta) := cell_at xB 1
          have cx2 : wB.cell? ⟨X, 2, none⟩ = some (.int .u32 tb) := cell_at xB 2
          have RB := hid rB
          have QB := hid qB
          clear rB qB
          have XB := hid xB
          clear xB
          go_region_held3 (fun w' => w'.cell? ⟨X, 1, none⟩ = some (.int .u32 ta) ∧ w'.cell? ⟨X, 2, none⟩ = some (.int .u32 tb)) (first | go_keep | exact ⟨by assumption, by assumption⟩)
            (first | (go_at_call 12; refine (dup_any W.heap.size ⟨sm, sw, sl, sd, sf, sr⟩ ta tb _ (by exact RB.out) hok x4).mono ?_; rintro e wC ⟨rfl, hd⟩; have cz1 : wC.cell? ⟨X, 1, none⟩ = some (.int .u32 ta) := cell_at ((dr_other hd X nX.1).trans XB.out) 1; have cz2 : wC.cell? ⟨X, 2, none⟩ = some (.int .u32 tb) := cell_at ((dr_other hd X nX.1).trans XB.out) 2; have HD := hid hd; clear hd) | (go_at_call 13; refine (rdup_any (W.heap.size + 1) ⟨sm, sw, sl, sd, sf, sr⟩ ta tb _ (by exact (dr_other HD.out (W.heap.size + 1) (by omega)).trans QB.out) hok x4).mono ?_; rintro e wD ⟨rfl, hd⟩; have cu1 : wD.cell? ⟨X, 1, none⟩ = some (.int .u32 ta) := cell_at ((dr_other hd X nX.2).trans ((dr_other HD.out X nX.1).trans XB.out)) 1; have cu2 : wD.cell? ⟨X, 2, none⟩ = some (.int .u32 tb) := cell_at ((dr_other hd X nX.2).trans ((dr_other HD.out X nX.1).trans XB.out)) 2; have HE := hid hd; clear hd))
          have rD := hid ((dr_other HE.out (W.heap.size) (by omega)).trans (dr_at HD.out (by exact lt_blk RB.out)))
          have qD := hid (dr_at HE.out (lt_blk ((dr_other HD.out (W.heap.size + 1) (by omega)).trans QB.out)))
          have bD := hid (((bB.drew).trans (dr_below HD.out (Nat.le_refl _))).trans (dr_below HE.out (by omega)))
          clear cz1 cz2 cu1 cu2 HD HE RB QB XB bB
          go_wp2_with fail
          exact ⟨⟨k + 1, _, by omega, by go_num, dupped_ok hok _ _, rD.out, qD.out, bD.out⟩, by simp [intOf]; omega⟩
        · obtain ⟨X, hX⟩ : ∃ X, X = wA.heap.size := ⟨_, rfl⟩
          obtain ⟨wB, hB⟩ : ∃ wB, wB = wA.alloc (.cells #[.int .i64 tdo, .int .u32 ta, .int .u32 tb] 37) := ⟨_, rfl⟩
          have rB : wB.heap[W.heap.size]? = some (.cells (St.enc ⟨sm, sw, sl, sd, sf, sr⟩) 46 (0, 0)) := by rw [hB]; exact alloc_old HRA.out
          have qB : wB.heap[W.heap.size + 1]? = some (.cells (St.enc ⟨sm, sw, sl, sd, sf, sr⟩) 35 (0, 0)) := by rw [hB]; exact alloc_old HQA.out
          have xB : wB.heap[X]? = some (.cells #[.int .i64 tdo, .int .u32 ta, .int .u32 tb] 37 (0, 0)) := by rw [hB, hX]; exact alloc_at _ _
          have bB : Below W.heap.size W wB := by rw [hB]; exact hbA.alloc hbA.size _
          have nX : X ≠ W.heap.size ∧ X ≠ W.heap.size + 1 := by have := lt_blk HQA.out; omega
          rw [← hB]
          try rw [← hX]
          clear hB hX HRA HQA hbA y1 y2 y3
          refine (tout_any W.heap.size _ ta wB rB hok x4).mono ?_
          rintro e wC ⟨rfl, hd⟩
          have rC := hid (dr_at hd (lt_blk rB))
          have qC := hid ((dr_other hd (W.heap.size + 1) (by omega)).trans qB)
          have xC := (dr_other hd X nX.1).trans xB
          have bC := bB.trans (dr_below hd (Nat.le_refl _))
          have cx1 : wC.cell? ⟨X, 1, none⟩ = some (.int .u32 ta) := cell_at xC 1
          have cx2 : wC.cell? ⟨X, 2, none⟩ = some (.int .u32 tb) := cell_at xC 2
          clear hd rB qB xB bB xC
          go_wp2_with fail
          refine (rtout_any (W.heap.size + 1) _ ta wC qC.out hok x4).mono ?_
          rintro e wD ⟨rfl, hd⟩
          have rD := hid ((dr_other hd (W.heap.size) (by omega)).trans rC.out)
          have qD := hid (dr_at hd (lt_blk qC.out))
          have bD := bC.trans (dr_below hd (by omega))
          clear hd rC qC bC cx1 cx2
          go_wp2_with fail
          exact ⟨⟨k + 1, _, by omega, by go_num, timed_ok hok _, rD.out, qD.out, bD⟩, by simp [intOf]; omega⟩
        · obtain ⟨X, hX⟩ : ∃ X, X = wA.heap.size := ⟨_, rfl⟩
          obtain ⟨wB, hB⟩ : ∃ wB, wB = wA.alloc (.cells #[.int .i64 tdo, .int .u32 ta, .int .u32 tb] 37) := ⟨_, rfl⟩
          have rB : wB.heap[W.heap.size]? = some (.cells (St.enc ⟨sm, sw, sl, sd, sf, sr⟩) 46 (0, 0)) := by rw [hB]; exact alloc_old HRA.out
          have qB : wB.heap[W.heap.size + 1]? = some (.cells (St.enc ⟨sm, sw, sl, sd, sf, sr⟩) 35 (0, 0)) := by rw [hB]; exact alloc_old HQA.out
          have xB : wB.heap[X]? = some (.cells #[.int .i64 tdo, .int .u32 ta, .int .u32 tb] 37 (0, 0)) := by rw [hB, hX]; exact alloc_at _ _
          have bB : Below W.heap.size W wB := by rw [hB]; exact hbA.alloc hbA.size _
          have nX : X ≠ W.heap.size ∧ X ≠ W.heap.size + 1 := by have := lt_blk HQA.out; omega
          rw [← hB]
          try rw [← hX]
          clear hB hX HRA HQA hbA y1 y2 y3
          exact ⟨⟨k + 1, _, by omega, by go_num, hok, rB, qB, bB⟩, by simp [intOf]; omega⟩
      · have hke : ((k : Int) == (len : Int)) = true := beq_iff_eq.2 (by omega)
        go_wp2_with fail
        go_region_held3 (fun w' => w'.cell? ⟨W.heap.size + 1, 1, none⟩ = some (.int .u32 sw) ∧ w'.cell? ⟨W.heap.size + 1, 2, none⟩ = some (.int .u32 sl) ∧ w'.cell? ⟨W.heap.size + 1, 3, none⟩ = some (.int .i64 sd) ∧
            w'.cell? ⟨W.heap.size + 1, 4, none⟩ = some (.bool sf) ∧ w'.cell? ⟨W.heap.size + 1, 5, none⟩ = some (.int .u32 sr)) (go_keep)
          (first | (go_at_call 9; refine (state_any W.heap.size ⟨sm, sw, sl, sd, sf, sr⟩ _ (by exact HR.out)).mono ?_; rintro e w' ⟨rfl, o, rfl⟩))
        clear c1 c2 c3 c4 c5
        have hbA := (hb.alloc hb.size o).drew
        clear HR HQ hb
        generalize (wr.alloc o).drew = wA at *
        go_wp2_with fail
        refine (works_any _).mono ?_
        rintro e w3 ⟨rfl, hb'⟩
        have hb3 := hbA.trans (hb'.mono hbA.size)
        clear hbA hb'
        go_wp2_with fail
        go_ret
        exact ⟨rfl, hb3⟩
  · have hm2 : m < 1 ∨ 16384 < m := by omega
    clear hm1
    have hl : (len : Int) ≤ 300 := by omega
    have HM := hid hm2
    clear hm2 hs
    go_enter Try.func3, Try.ntmps3
    go_wp2_with fail
    refine (new_no m _ HM.out).mono ?_
    rintro e w1 ⟨rfl, rfl⟩
    go_wp2_with fail
    refine (rnew_no m _ HM.out).mono ?_
    rintro e w1 ⟨rfl, rfl⟩
    go_wp2_with fail
    refine (works_any _).mono ?_
    rintro e w3 ⟨rfl, hb'⟩
    go_wp2_with fail
    go_ret
    exact ⟨rfl, hb'⟩

/-- More than the statement plays. -/
theorem plays_far (m : Int) (a : Option Addr) (len cap : Nat) (W : World) (hlen : 300 < len) (hmax : len ≤ 9223372036854775807) :
    Calls Try.prog 3 #[.int .u32 m, .slice a len cap] W fun e w' => e = .returned (.bool true) ∧ Below W.heap.size W w' := by
  have hl : (300 : Int) < (len : Int) := by omega
  go_enter Try.func3, Try.ntmps3
  go_wp2_with fail
  refine (works_any _).mono ?_
  rintro e w3 ⟨rfl, hb'⟩
  go_wp2_with fail
  go_ret
  exact ⟨rfl, hb'⟩

end Go.Proofs.Ytekjnljjhdochaa
