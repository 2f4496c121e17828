/- The walk of the order's Bytes. -/
import Derived.Test.YtaencgjlneohnaaOrdW4
namespace Go.Proofs.Ytaencgjlneohnaa
open Go.RowKit DG

@[go_sem] theorem make0_32 (w : World) : (Instr.makeSlice 42 (.int .i64 0) (.int .i64 32)).run Try.prog w = .ok (.slice (some ⟨w.heap.size, 0, none⟩) 0 32) (w.alloc (.cells (ints .u8 (List.replicate 32 0)) 5)) := by kernel_rfl
theorem info_u8 : (Try.prog.info? 5).map (fun i => (i.zero, i.size, i.bytes)) = some (some (.int .u8 0), 1, 1) := by kernel_rfl

/-- Bytes as values. -/
def u8s (l : List UInt8) : List Value := l.map fun c => Value.int .u8 (c.toNat : Int)

theorem conv_string (w : World) (b off len cap : Nat) (l : List UInt8) (hl : l.length = len) (hc : ∀ j, j < len → w.cell? ⟨b, off + j, none⟩ = some (.int .u8 ((l.getD j 0).toNat : Int))) :
    (convert 42 9 (.slice (some ⟨b, off, none⟩) len cap)).run Try.prog w = .ok (.string ⟨l.toArray⟩) w := by
  have h := run_convert_bytes_arg (P := Try.prog) w 42 5 Try.underlying42 Try.underlying5 b off len cap (l.map fun c => (c.toNat : Int)) (by simpa using hl) (fun i hi => by
    rw [hc i hi]; simp [hl, hi]) 9 Try.underlying9
  rw [h]
  congr 2
  unfold strOfNums
  congr 1
  rw [List.map_map]
  congr 1
  conv => rhs; rw [← List.map_id l]
  exact List.map_congr_left fun c _ => by simp

theorem u8s_step {n k j x : Nat} (hk : k < 4) (hj : j < 8) (hx : x = n / (2 ^ 64) ^ k % 2 ^ 64) :
    u8s ((natBytes n 32).take (8 * k + j)) ++ [.int .u8 ((x : Int) / 2 ^ (8 * j) % 256)] = u8s ((natBytes n 32).take (8 * k + (j + 1))) := by
  have hm : 8 * k + j < (natBytes n 32).length := by rw [natBytes_length]; omega
  rw [show 8 * k + (j + 1) = (8 * k + j) + 1 by omega, List.take_succ_eq_append_getElem hm]
  unfold u8s
  rw [List.map_append]
  congr 1
  simp only [List.map_cons, List.map_nil, List.cons.injEq, Value.int.injEq, true_and, and_true]
  have e1 : ((natBytes n 32)[8 * k + j]).toNat = n / 256 ^ (8 * k + j) % 256 := by
    have h1 : ((natBytes n 32).map (·.toNat)).getD (8 * k + j) 0 = n / 256 ^ (8 * k + j) % 256 := by rw [natBytes_map, digs_getD n (by omega)]
    rw [← h1]; simp [hm]
  rw [e1]
  have e2 : x / 2 ^ (8 * j) % 256 = n / 256 ^ (8 * k + j) % 256 := by
    have h256 : (256 : Nat) ^ (8 * k + j) = (2 ^ 64) ^ k * 2 ^ (8 * j) := by
      rw [show (256 : Nat) = 2 ^ 8 from rfl, ← Nat.pow_mul, ← Nat.pow_mul, ← Nat.pow_add]; congr 1; omega
    rw [hx, h256, ← Nat.div_div_eq_div_mul]
    generalize n / (2 ^ 64) ^ k = m
    have h3 : (2 : Nat) ^ 64 = 2 ^ (8 * j) * (256 * 2 ^ (56 - 8 * j)) := by
      rw [show (256 : Nat) = 2 ^ 8 from rfl, ← Nat.pow_add, ← Nat.pow_add]; congr 1; omega
    rw [h3, Nat.mod_mul, Nat.add_mul_div_left _ _ (Nat.two_pow_pos _), Nat.div_eq_of_lt (Nat.mod_lt _ (Nat.two_pow_pos _)), Nat.zero_add, Nat.mod_mul_right_mod]
  rw [← e2]
  have : ((x : Int) / (2 : Int) ^ (8 * j)) = ((x / 2 ^ (8 * j) : Nat) : Int) := by rw [Int.natCast_ediv, Int.natCast_pow]; rfl
  rw [this]; omega

theorem block_le {w : World} {base : Nat} {e : TypeId} {size : Nat} {v : Value} {n : Nat} {xs : List Value} (h : w.ownsRow base e size v n xs) {g : Nat} (hg : v.ownBlock = some g) : base ≤ g := by
  obtain ⟨_, h2⟩ := h
  rcases h2 with ⟨rfl, _⟩ | ⟨g', cap, cur, rfl, hb, _⟩
  · simp [Value.ownBlock] at hg
  · simp [Value.ownBlock] at hg; omega

set_option maxHeartbeats 1000000 in
theorem Bytes_any (n : Nat) (W : World) (hn : n < 115792089237316195423570985008687907853269984665640564039457584007913129639936) :
    Calls Try.prog 17 #[.agg (quad n)] W fun e w' => e = .returned (.string ⟨(natBytes n 32).toArray⟩) ∧ Below W.heap.size W w' := by
  obtain ⟨i0, hi, hz0, hz1, hz2⟩ := info_parts info_u8
  rw [quad_ints n]
  obtain ⟨da, hda⟩ : ∃ da, da = digs (2 ^ 64) n 4 := ⟨_, rfl⟩
  rw [← hda]
  have HDA := hid hda
  clear hda
  generalize ha0 : da.getD 0 0 = a0
  generalize ha1 : da.getD 1 0 = a1
  generalize ha2 : da.getD 2 0 = a2
  generalize ha3 : da.getD 3 0 = a3
  have HA := hid (And.intro ha0 (And.intro ha1 (And.intro ha2 ha3)))
  clear ha0 ha1 ha2 ha3
  go_enter Try.func17, Try.ntmps17
  go_wp2_with fail
  go_loopw [3, 10] (fun v i wr => ∃ k : Nat, k ≤ 4 ∧ i = .int .i64 (k : Int) ∧ wr.ownsRow W.heap.size 5 1 v (8 * k) (u8s ((natBytes n 32).take (8 * k))) ∧ Below W.heap.size W wr) (fun _ i _ => (4 - intOf i).toNat)
  case atStart =>
    refine ⟨0, by omega, rfl, ⟨rfl, .inr ⟨W.heap.size + 1, 32, _, rfl, by omega, alloc_at' (by simp) _, by omega, by decide, rfl, rfl⟩⟩, below_alloc (below_new _) _⟩
  case round =>
    obtain ⟨k, hk, rfl, hown, hb⟩ := hrel
    have HO := hid hown
    clear hown
    by_cases hk4 : k < 4
    · obtain ⟨x, hx, hix⟩ : ∃ x : Nat, da.getD k 0 = x ∧ ∀ w, (Instr.index 24 (.agg #[.int .u64 (a0 : Int), .int .u64 (a1 : Int), .int .u64 (a2 : Int), .int .u64 (a3 : Int)]) (.int .i64 (k : Int))).run Try.prog w = .ok (.int .u64 (x : Int)) w := by
        obtain ⟨e0, e1, e2, e3⟩ := HA.out
        match k, hk4 with
        | 0, _ => exact ⟨a0, e0, fun w => idx4_0 _ _ _ _ w⟩
        | 1, _ => exact ⟨a1, e1, fun w => idx4_1 _ _ _ _ w⟩
        | 2, _ => exact ⟨a2, e2, fun w => idx4_2 _ _ _ _ w⟩
        | 3, _ => exact ⟨a3, e3, fun w => idx4_3 _ _ _ _ w⟩
      have HX := hid hx
      clear hx
      have hkd : decide ((k : Int) < 4) = true := decide_eq_true (by omega)
      go_wp2_with fail
      go_loopw [3, 13] (fun v i wq => ∃ j : Nat, j ≤ 8 ∧ i = .int .i64 (j : Int) ∧ wq.ownsRow W.heap.size 5 1 v (8 * k + j) (u8s ((natBytes n 32).take (8 * k + j))) ∧ Below W.heap.size W wq) (fun _ i _ => (8 - intOf i).toNat)
      case atStart => exact ⟨0, by omega, rfl, HO.out, hb⟩
      case round =>
        obtain ⟨j, hj, rfl, hown, hb⟩ := hrel
        have HOJ := hid hown
        clear hown
        by_cases hj8 : j < 8
        · have hj0 : 0 ≤ (j : Int) * 8 := by omega
          have hjd : decide ((j : Int) < 8) = true := decide_eq_true (by omega)
          have hml : (8 * k + j) + 1 ≤ maxLen := by unfold maxLen; omega
          go_wp2_with (at_builtin; refine wpList_append_own _ rfl _ _ 42 rfl W.heap.size 5 i0 (.int .u8 0) 1 1 Try.underlying42 hi hz0 hz1 hz2 rfl (by decide) _ _ _ rfl (HOJ.out.alloc _) ⟨wr.heap.size, 0, none⟩ 1 1 [.int .u8 ((x : Int) / 2 ^ (8 * j) % 256)] rfl rfl ?c1 ?c2 hml ?c4 ?c5 ?_)
          case c1 => exact cell_one_new _ _ _
          case c2 => intro u hu; simp only [List.mem_cons, List.not_mem_nil, or_false] at hu; subst hu; rfl
          case c4 => omega
          case c5 => have := hb.size; simp; omega
          intro v' w1 hown' hgrow _
          have hb2 : Below W.heap.size W w1 := (below_alloc hb _).grown hgrow (by have := hb.size; simp; omega) (fun g hg => block_le HOJ.out hg)
          rw [u8s_step (n := n) (k := k) (j := j) (x := x) (by omega) hj8 (by rw [← HX.out, HDA.out, digs_getD n hk4])] at hown'
          have HO' := hid hown'
          clear hown' hgrow hml
          go_wp2_with fail
          go_roundw
          case rel => exact ⟨j + 1, by omega, by go_num, HO'.out, hb2⟩
          case measure => simp [intOf]; omega
        · have hj9 : j = 8 := by omega
          have hjd : decide ((j : Int) < 8) = false := decide_eq_false (by omega)
          have ho := HOJ.out
          rw [hj9, show 8 * k + 8 = 8 * (k + 1) by omega] at ho
          have HO2 := hid ho
          clear ho HOJ hj9
          go_wp2_with fail
          exact ⟨⟨k + 1, by omega, by go_num, HO2.out, hb⟩, by simp [intOf]; omega⟩
    · have hk5 : k = 4 := by omega
      subst hk5
      obtain ⟨_, h2⟩ := HO.out
      rcases h2 with ⟨_, h0⟩ | ⟨g, cap, cur, rfl, hg, hc, hle, _, hsz, hxs⟩
      · omega
      have hcv := conv_string wr g 0 32 cap (natBytes n 32) (natBytes_length n 32) (fun j hj => by
        rw [Nat.zero_add, cell_at hc]
        have h3 : cur.toList[j]? = (u8s (natBytes n 32))[j]? := by
          have h4 : (cur.toList.take 32)[j]? = cur.toList[j]? := by rw [List.getElem?_take, if_pos hj]
          rw [← h4, show (32 : Nat) = 8 * 4 * 1 from rfl, hxs, List.take_of_length_le (by rw [natBytes_length]; omega)]
        rw [← Array.getElem?_toList, h3]
        unfold u8s
        have hjl : j < (natBytes n 32).length := by rw [natBytes_length]; exact hj
        simp [hjl])
      have hw0 : Hid True := trivial
      clear hxs hc HO
      go_wp2_with fail
      go_ret
      exact ⟨rfl, hb⟩

end Go.Proofs.Ytaencgjlneohnaa
