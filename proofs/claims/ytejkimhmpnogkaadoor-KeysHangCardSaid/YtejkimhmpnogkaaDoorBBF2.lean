/- A bytes.Buffer in a struct's fields: growth. -/
import Derived.Test.YtejkimhmpnogkaaDoorBBF
import Derived.Defers
import Derived.Recover
import Derived.Test.YtejkimhmpnogkaaDoorCPY
namespace Go.Proofs.YtejkimhmpnogkaaDoor
open Go Go.RowKit

theorem gdefer_idle (w : World) : CallsD Tryd.prog 80 #[] .returning w fun e u' w' => e = .returned (.tuple #[]) ∧ u' = .returning ∧ w' = w := by
  refine callsD_of_wpS Tryd.func80 rfl fun c₀ cs hu => ?_
  apply wpS_seq
  apply wpS_region
  simp [wpOpsS, go_sem, recoverD, hu, Tryd.ntmps80, Exit.thenS]
  refine wpS_cond (t := false) (by simp [Act.eval, Array.replicate]) ?_
  simp only [Bool.false_eq_true, if_false]
  refine wpS_of_wp (wp_skip ?_)
  cases c₀
  simp_all [bodyPostS, results, Tryd.results80]

section
variable {P : Program}
/-- append([]byte(nil), make([]byte, n)...). -/
theorem run_append_made (w : World) (t tx ty : TypeId) (i : TypeInfo) (ht : P.underlying t = some (.slice 5)) (hk : P.underlying tx = some (.int .i64)) (hi : P.info? 5 = some i) (hz : i.zero = some (.int .u8 0)) (hs1 : i.size = 1) (hb1 : i.bytes = 1)
    (n : Nat) (h0 : 0 < n) (h : n ≤ 140737488355328) :
    (Builtin.append_ #[t, tx] ty #[.slice none 0 0, .int .i64 (n : Int)]).run P w =
      .ok (.slice (some ⟨w.heap.size, 0, none⟩) n (grownCap w n 0 5)) (w.drew.alloc (.cells (Builtin.zeroCells (Value.int IntKind.u8 0).cells n ++ Builtin.zeroCells (Value.int IntKind.u8 0).cells (grownCap w n 0 5 - n)) 5)) := by
  have hn : ¬ (n = 0) := by omega
  have hw8 : IntKind.i64.wrap (n : Int) = (n : Int) := IntWalk.i64_in _ (by omega)
  have h63' : ¬ (9223372036854775807 < (n : Int)) := by omega
  have hfit : Builtin.nextslicecap (0 + n) 0 ≤ 2 * (0 + n) := nextslicecap_le (by omega)
  rw [Nat.zero_add] at hfit
  have h48' : ¬ (281474976710656 < Builtin.nextslicecap n 0) := by omega
  have hf := run_firstCells_none (P := P) w.drew 1 0 0 0
  have hn0 : ¬ ((n : Int) < 0) := by omega
  have hn1 : ¬ (281474976710656 < n) := by omega
  have hn2 : ¬ (281474976710656 < (n : Int)) := by omega
  simp [hn0, hn2, Builtin.append_, run_underlying ht, run_underlying hk, sizeOf, typeInfo, zeroValue, hi, hz, hs1, hb1, asInt, asIntOf, hw8, hn, h63', h48', Question.forced, hf, newRow, grownCap]
theorem wp_append_made {ops : Array Oper} {rest : List Oper} {o : Oper} {a : Act} {w : World} {Q : Exit → Act → World → Prop} (hgd : o.guard = none) (s x : Operand) (t tx : TypeId)
    (ho : o.op = .call { callee := .builtin .append, args := #[s, x], argTypes := #[t, tx] }) (i : TypeInfo) (ht : P.underlying t = some (.slice 5)) (hk : P.underlying tx = some (.int .i64)) (hi : P.info? 5 = some i) (hz : i.zero = some (.int .u8 0)) (hs1 : i.size = 1) (hb1 : i.bytes = 1)
    (hv : a.eval s = .slice none 0 0) (n : Nat) (hy : a.eval x = .int .i64 (n : Int)) (h0 : 0 < n) (h : n ≤ 140737488355328)
    (k : ∀ cap cur, n ≤ cap → cap ≤ maxLen → cur.size = cap → wpList P ops Q rest (a.put o.dst (.slice (some ⟨w.heap.size, 0, none⟩) n cap)) (w.drew.alloc (.cells cur 5))) : wpList P ops Q (o :: rest) a w := by
  refine wpList_plain hgd fun _ hK => ?_
  have hr := run_append_made (P := P) w t tx o.type i ht hk hi hz hs1 hb1 n h0 h
  have hge := grownCap_ge w n 0 5
  have hle := grownCap_le_maxLen w n 0 5 (by unfold maxLen; omega)
  unfold Oper.wp execOp
  simp only [ho, resolve, invoke, builtin, Sem.run_bind, Sem.run_pure, Result.andThen_ok, List.map_toArray, List.map_cons, List.map_nil, hv, hy, hr]
  refine hK _ _ (k _ _ hge hle ?_)
  have e1 : (Value.int IntKind.u8 0).cells.size = 1 := rfl
  simp only [Array.size_append, size_zeroCells, e1]
  omega
end

set_option maxRecDepth 100000 in
set_option maxHeartbeats 1000000 in
theorem gslice_any (sv : Value) (l : List UInt8) (a : Option Addr) (c : Nat) (hsv : sv = .slice a l.length c) (hc : l.length ≤ c) (hc2 : c ≤ 1099511627776)
    (n : Nat) (h0 : 0 < n) (hn : l.length + n ≤ 1099511627776) (w : World) (ha : 0 < l.length → ∃ g o, a = some ⟨g, o, none⟩ ∧ ∀ j, j < l.length → w.cell? ⟨g, o + j, none⟩ = some (.int .u8 ((l.getD j 0).toNat : Int))) :
    Calls Tryd.prog 76 #[sv, .int .i64 (n : Int)] w fun e w' => ∃ G cap cur, e = .returned (.slice (some ⟨G, 0, none⟩) l.length cap) ∧ w.heap.size ≤ G ∧ hget w' G = some (.cells cur 5 (0, 0)) ∧ l.length + n ≤ cap ∧ cap ≤ cur.size ∧ cur.size ≤ maxLen ∧ cur.toList.take l.length = u8s l ∧ Below w.heap.size w w' := by
  obtain ⟨i0, hi, hz0, hz1, hz2⟩ := info_parts info_u8
  subst hsv
  have hmf : ∀ (fn : Fn) (first cap : Array Value) (w : World), (Instr.makeFunc fn first cap).run Tryd.prog w = .ok (.func fn first cap) w := fun _ _ _ _ => rfl
  have HA := hid ha
  have HI := hid hi
  have HZ0 := hid hz0
  have HZ1 := hid hz1
  have HZ2 := hid hz2
  clear ha hi hz0 hz1 hz2
  generalize hm : l.length = m at *
  have HM := hid hm
  clear hm
  have key : ∀ C : Nat, (m + n ≤ C ∧ C ≤ 2199023255552) → ∀ (cap : Nat) (cur : Array Value), C ≤ cap → cap ≤ maxLen → cur.size = cap → m + n ≤ cap ∧ cap ≤ cur.size ∧ cur.size ≤ maxLen ∧ m ≤ cur.size := fun C hC cap cur h1 h2 h3 => by omega
  have KEY := hid key
  clear key
  by_cases hd : m + n < 2 * c
  · have hd' : decide ((m : Int) + (n : Int) < 2 * (c : Int)) = true := decide_eq_true (by omega)
    have HC : Hid (m + n ≤ 2 * c ∧ 2 * c ≤ 2199023255552) := hid (by omega)
    have e2 : Hid (2 * (c : Int) = ((2 * c : Nat) : Int)) := hid (by omega)
    have h2c : 0 < 2 * c := by omega
    go_enter_defers Tryd.func76, Tryd.ntmps76
    go_wp2_with (first
      | (
          at_builtin
          refine wp_append_made rfl _ _ _ _ (by rfl) i0 Tryd.underlying57 Tryd.underlying3 HI.out HZ0.out HZ1.out HZ2.out (by rfl) (2 * c) (by rw [← e2.out]; rfl) h2c (by omega) ?_
          intro cap cur hcc hcm hcs
          have K1 := KEY.out (2 * c) HC.out _ _ hcc hcm hcs
          have fN : ((w.alloc (.cells cur 5)).drew).heap[w.heap.size]? = some (.cells cur 5 (0, 0)) := alloc_at w _
          have hB := below_new (w := w) (.cells cur 5)
          have FN := hid fN
          have HB := hid hB
          have hov : (ovr cur 0 l).size = cur.size := ovr_size (by rw [HM.out]; omega)
          have hon := ovr_new (cur := cur) (off := 0) (l := l) (by rw [HM.out]; omega)
          rw [List.drop_zero, HM.out] at hon
          have HOV := hid hov
          have HON := hid hon
          clear fN hB hcs hcm hov hon
        )
      | (
          refine wp_copy_sl (o := ⟨some 24, _, _, _, _, _⟩) (by rfl) _ _ _ _ (by rfl) Tryd.underlying57 (by kernel_rfl) _ _ _ _ _ _ (by rfl) (by rfl) w.heap.size 0 cur FN.out l ?_ (fun hl => ⟨rfl, ?_⟩) (by rw [HM.out]; omega) ?_
          · rw [HM.out]; exact (Nat.min_eq_left (by omega)).symm
          · obtain ⟨g, o, ha, hc⟩ := HA.out (by rw [HM.out] at hl; exact hl)
            refine ⟨g, o, ha, fun j hj => ?_⟩
            have h1 := hc j (by rw [HM.out] at hj; exact hj)
            have h2 := HB.out.cell (p := ⟨g, o + j, none⟩) (World.block_lt_of_cell? w _ h1)
            exact h2.trans h1
          rw [HM.out]
          have fN2 := hid (blk_heap (w := (w.alloc (.cells cur 5)).drew) (b := w.heap.size) (o := .cells (ovr cur 0 l) 5 (0, 0)) (lt_blk FN.out))
          have hB2 := hid ((HB.out.drew).trans (below_blk (w := (w.alloc (.cells cur 5)).drew) (b := w.heap.size) (o := .cells (ovr cur 0 l) 5 (0, 0)) (Nat.le_refl _)))
          clear FN HB
        ))
    refine leaves_cons (f := 80) (args := #[]) (by simp) (by simp [go_sem]) ?_
    refine (gdefer_idle _).mono ?_
    rintro e u' w'' ⟨rfl, rfl, rfl⟩
    refine ⟨_, results_tmp rfl _ _ _, ?_⟩
    exact ⟨w.heap.size, cap, ovr cur 0 l, rfl, Nat.le_refl _, fN2.out, K1.1, by rw [HOV.out]; omega, by rw [HOV.out]; omega, HON.out, hB2.out⟩
  · have hd' : decide ((m : Int) + (n : Int) < 2 * (c : Int)) = false := decide_eq_false (by omega)
    have HC : Hid (m + n ≤ m + n ∧ m + n ≤ 2199023255552) := hid (by omega)
    have e2 : Hid ((m : Int) + (n : Int) = ((m + n : Nat) : Int)) := hid (by omega)
    have h2c : 0 < m + n := by omega
    go_enter_defers Tryd.func76, Tryd.ntmps76
    go_wp2_with (first
      | (
          at_builtin
          refine wp_append_made rfl _ _ _ _ (by rfl) i0 Tryd.underlying57 Tryd.underlying3 HI.out HZ0.out HZ1.out HZ2.out (by rfl) (m + n) (by rw [← e2.out]; rfl) h2c (by omega) ?_
          intro cap cur hcc hcm hcs
          have K1 := KEY.out (m + n) HC.out _ _ hcc hcm hcs
          have fN : ((w.alloc (.cells cur 5)).drew).heap[w.heap.size]? = some (.cells cur 5 (0, 0)) := alloc_at w _
          have hB := below_new (w := w) (.cells cur 5)
          have FN := hid fN
          have HB := hid hB
          have hov : (ovr cur 0 l).size = cur.size := ovr_size (by rw [HM.out]; omega)
          have hon := ovr_new (cur := cur) (off := 0) (l := l) (by rw [HM.out]; omega)
          rw [List.drop_zero, HM.out] at hon
          have HOV := hid hov
          have HON := hid hon
          clear fN hB hcs hcm hov hon
        )
      | (
          refine wp_copy_sl (o := ⟨some 24, _, _, _, _, _⟩) (by rfl) _ _ _ _ (by rfl) Tryd.underlying57 (by kernel_rfl) _ _ _ _ _ _ (by rfl) (by rfl) w.heap.size 0 cur FN.out l ?_ (fun hl => ⟨rfl, ?_⟩) (by rw [HM.out]; omega) ?_
          · rw [HM.out]; exact (Nat.min_eq_left (by omega)).symm
          · obtain ⟨g, o, ha, hc⟩ := HA.out (by rw [HM.out] at hl; exact hl)
            refine ⟨g, o, ha, fun j hj => ?_⟩
            have h1 := hc j (by rw [HM.out] at hj; exact hj)
            have h2 := HB.out.cell (p := ⟨g, o + j, none⟩) (World.block_lt_of_cell? w _ h1)
            exact h2.trans h1
          rw [HM.out]
          have fN2 := hid (blk_heap (w := (w.alloc (.cells cur 5)).drew) (b := w.heap.size) (o := .cells (ovr cur 0 l) 5 (0, 0)) (lt_blk FN.out))
          have hB2 := hid ((HB.out.drew).trans (below_blk (w := (w.alloc (.cells cur 5)).drew) (b := w.heap.size) (o := .cells (ovr cur 0 l) 5 (0, 0)) (Nat.le_refl _)))
          clear FN HB
        ))
    refine leaves_cons (f := 80) (args := #[]) (by simp) (by simp [go_sem]) ?_
    refine (gdefer_idle _).mono ?_
    rintro e u' w'' ⟨rfl, rfl, rfl⟩
    refine ⟨_, results_tmp rfl _ _ _, ?_⟩
    exact ⟨w.heap.size, cap, ovr cur 0 l, rfl, Nat.le_refl _, fN2.out, K1.1, by rw [HOV.out]; omega, by rw [HOV.out]; omega, HON.out, hB2.out⟩

end Go.Proofs.YtejkimhmpnogkaaDoor
