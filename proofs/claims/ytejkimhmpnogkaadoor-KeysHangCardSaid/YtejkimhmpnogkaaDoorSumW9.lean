/- The walk of bytes.Repeat at one byte, 64 times. -/
import Derived.Test.YtejkimhmpnogkaaDoorSumW8
import Derived.Test.YtejkimhmpnogkaaDoorSTF
namespace Go.Proofs.YtejkimhmpnogkaaDoor
open Go.RowKit

/-- A row whose first bytes are these. -/
def Begins (w : World) (G : Nat) (l : List UInt8) : Prop := ∃ cur, hget w G = some (.cells cur 5 (0, 0)) ∧ cur.toList.take l.length = u8s l
theorem Begins.len {w : World} {G : Nat} {l : List UInt8} (h : Begins w G l) : ∃ cur, hget w G = some (.cells cur 5 (0, 0)) ∧ l.length ≤ cur.size ∧ cur.toList.take l.length = u8s l := by
  obtain ⟨cur, h1, h2⟩ := h
  refine ⟨cur, h1, ?_, h2⟩
  have := congrArg List.length h2
  rw [List.length_take, u8s_length] at this
  have e : cur.toList.length = cur.size := Array.length_toList
  omega
theorem Begins.cell {w : World} {G : Nat} {l : List UInt8} (h : Begins w G l) {j : Nat} (hj : j < l.length) : w.cell? ⟨G, j, none⟩ = some (.int .u8 ((l.getD j 0).toNat : Int)) := by
  obtain ⟨cur, h1, h2⟩ := h
  have := own_cell (o := 0) h1 (by rw [List.drop_zero]; exact h2) hj
  rwa [Nat.zero_add] at this
theorem Begins.free {w : World} {G : Nat} {l : List UInt8} (h : Begins w G l) (j : Nat) : w.frozen? ⟨G, j, none⟩ = false := by
  obtain ⟨cur, h1, h2⟩ := h
  exact free_at h1 j
theorem Begins.keep {w w' : World} {G : Nat} {l : List UInt8} (h : Begins w G l) (hb : Below w.heap.size w w') : Begins w' G l := by
  obtain ⟨cur, h1, h2⟩ := h
  exact ⟨cur, keepB hb h1, h2⟩
theorem Begins.set {w : World} {G : Nat} {l : List UInt8} (h : Begins w G l) {j : Nat} (_hj : j < l.length) (x : UInt8) : Begins (w.setCell ⟨G, j, none⟩ (.int .u8 (x.toNat : Int))) G (l.set j x) := by
  obtain ⟨cur, h1, h2⟩ := h
  refine ⟨_, hget_setCell h1 j _, ?_⟩
  rw [List.length_set]
  unfold u8s at h2 ⊢
  rw [List.map_set, ← h2, Array.toList_setIfInBounds, List.take_set]

theorem run_copy_sl (w : World) (g off dLen dCap g' o' sLen sCap : Nat) (cur : Array Value) (hg : w.heap[g]? = some (.cells cur 5 (0, 0))) (l : List UInt8) (hn : l.length = Nat.min sLen dLen)
    (hsrc : ∀ j, j < l.length → w.cell? ⟨g', o' + j, none⟩ = some (.int .u8 ((l.getD j 0).toNat : Int))) (hfit : off + l.length ≤ cur.size) :
    (Builtin.copy_ #[57, 57] 3 #[.slice (some ⟨g, off, none⟩) dLen dCap, .slice (some ⟨g', o', none⟩) sLen sCap]).run Tryd.prog w = .ok (.int .i64 (l.length : Int)) (blk w g (.cells (ovr cur off l) 5 (0, 0))) := by
  have h := run_copy_row (P := Tryd.prog) w 57 57 3 5 g off dLen dCap ⟨g', o', none⟩ sLen sCap cur 5 (u8s l) Tryd.underlying57 (by kernel_rfl) hg (by rw [u8s_length]; exact hn) (fun j v hv => by
    have hj : j < l.length := by have := (List.getElem?_eq_some_iff.1 hv).1; rwa [u8s_length] at this
    rw [Addr.add_mid, hsrc j hj, ← hv]
    unfold u8s
    simp [hj]) (by rw [u8s_length]; exact hfit) (u8s_one l)
  rw [setRow_blk hg, u8s_length, List.append_assoc] at h
  exact h
theorem mul64_1_64 (w : World) : Calls Tryd.prog 74 #[.int .u64 1, .int .u64 64] w fun e w' => e = .returned (.tuple #[.int .u64 0, .int .u64 64]) ∧ w = w' := by
  go_enter Tryd.func74, Tryd.ntmps74
  go_wp2_with fail
  go_ret2
  exact ⟨rfl, rfl⟩
theorem mul_1_64 (w : World) : Calls Tryd.prog 62 #[.int .u64 1, .int .u64 64] w fun e w' => e = .returned (.tuple #[.int .u64 0, .int .u64 64]) ∧ w = w' := by
  go_enter Tryd.func62, Tryd.ntmps62
  go_wp2_with fail
  refine (mul64_1_64 _).mono ?_
  rintro e w' ⟨rfl, rfl⟩
  go_wp2_with fail
  go_ret2
  exact ⟨rfl, rfl⟩

set_option maxRecDepth 100000 in
set_option maxHeartbeats 2000000 in
theorem repeat_any (c : UInt8) (bs os cap : Nat) (W : World) (_hcap : 1 ≤ cap) (hc : W.cell? ⟨bs, os, none⟩ = some (.int .u8 (c.toNat : Int))) :
    Calls Tryd.prog 41 #[.slice (some ⟨bs, os, none⟩) 1 cap, .int .i64 64] W fun e w' => e = .returned (.slice (some ⟨W.heap.size, 0, none⟩) 64 64) ∧ Begins w' W.heap.size (List.replicate 64 c) ∧ Below W.heap.size W w' := by
  obtain ⟨cs, hmk, hm1, hm2⟩ := mk_run 64 (by decide) W
  have hbs := World.block_lt_of_cell? W _ hc
  have HC := hid hc
  unfold maxLen at hm2
  rw [show ((64 : Nat) : Int) = 64 from rfl] at hmk
  clear hc
  go_enter Tryd.func41, Tryd.ntmps41
  go_wp2_with fail
  refine (mul_1_64 _).mono ?_
  rintro e w' ⟨rfl, rfl⟩
  have bW := hid ((below_new (w := W.drew.drew) (.cells cs 5)))
  go_wp2_with (first
    | (
        refine wp_copy_sl (o := ⟨some 60, _, _, _, _, _⟩) (by rfl) _ _ _ _ (by rfl) Tryd.underlying57 (by kernel_rfl) _ _ _ _ _ _ (by rfl) (by rfl) W.heap.size 0 cs (alloc_at _ _) [c] (by rfl) (fun _ => ⟨rfl, bs, os, rfl, fun j hj => ?_⟩) (by simp; omega) ?_
        · have h0 : j = 0 := by simpa using hj
          subst h0
          have := bW.out.cell (p := ⟨bs, os, none⟩) hbs
          exact this.trans HC.out
      ))
  obtain ⟨N, hN⟩ : ∃ N, W.heap.size = N := ⟨_, rfl⟩
  have HN := hid hN
  clear hmk
  go_loopw [10] (fun i wr => ∃ p : Nat, 1 ≤ p ∧ p ≤ 64 ∧ i = .int .i64 (p : Int) ∧ (∃ cur, hget wr W.heap.size = some (.cells cur 5 (0, 0)) ∧ 64 ≤ cur.size ∧ cur.toList.take p = u8s (List.replicate p c)) ∧ Below W.heap.size W wr) (fun i _ => (64 - intOf i).toNat)
  case atStart =>
    refine ⟨1, by omega, by omega, rfl, ⟨ovr cs 0 [c], ?_, ?_, ?_⟩, ?_⟩
    · rw [hget_blk, if_pos rfl, if_pos (by simp)]
    · rw [ovr_size (by simp; omega)]; exact hm1
    · have := ovr_new (cur := cs) (off := 0) (l := [c]) (by simp; omega)
      rw [List.drop_zero] at this
      exact this
    · exact ((below_new (w := W) (.cells cs 5)).drew.drew).trans (below_blk (Nat.le_refl _))
  case round =>
    clear bW
    obtain ⟨p, hp1, hp2, rfl, ⟨cur, hcu, hcs, hct⟩, hb⟩ := hrel
    have HCU := hid hcu
    have HCT := hid hct
    have HB := hid hb
    clear hcu hct hb hN
    by_cases hlt : p < 64
    · have hd : decide ((p : Int) < 64) = true := decide_eq_true (by omega)
      have hmin : min (p : Int) 64 = (p : Int) := by omega
      have hi0 : (0 : Int) ≤ (p : Int) := by omega
      have hi1 : (p : Int) ≤ 64 := by omega
      have hne : ¬ 64 = p := by omega
      have hne2 : ¬ p = 64 := by omega
      go_wp2_with fail
      obtain ⟨q, hq⟩ : ∃ q, min p (64 - p) = q := ⟨_, rfl⟩
      have hrl : (List.replicate q c).length = q := List.length_replicate ..
      have hcp := run_copy_sl wr.drew W.heap.size p (64 - p) (64 - p) W.heap.size 0 p 64 cur HCU.out (List.replicate q c) (by rw [hrl]; exact hq.symm) (fun j hj => by
        rw [hrl] at hj
        have := own_cell (o := 0) (l := List.replicate p c) (w := wr.drew) HCU.out (by rw [List.drop_zero, List.length_replicate]; exact HCT.out) (j := j) (by rw [List.length_replicate]; omega)
        rw [this]
        congr 3
        rw [List.getD_eq_getElem?_getD, List.getD_eq_getElem?_getD, List.getElem?_replicate, List.getElem?_replicate, if_pos (by omega), if_pos hj]) (by rw [hrl]; omega)
      rw [hrl] at hcp
      have HRL := hid hrl
      have HQ0 := hid hq
      have hq0 : 0 < q := by omega
      have hq1 : p + q ≤ 64 := by omega
      have hw0 : (0 : Int) ≤ (p : Int) + (q : Int) := by omega
      have hw1 : (p : Int) + (q : Int) ≤ 64 := by omega
      have hw2 : RowKit.wrap64 ((p : Int) + (q : Int)) = (p : Int) + (q : Int) := by unfold RowKit.wrap64; omega
      clear hrl hq hmin
      refine wp_region_stf 7 (fun x => blk x W.heap.size (.cells (ovr cur p (List.replicate q c)) 5 (0, 0))) (by kernel_rfl) (by kernel_rfl) (by decide) ?_
      repeat (first | (refine wpStf_quiet (by decide) (by rfl) (fun K hK => ?_); go_simp; refine hK _ ?_; clear hK K; try go_ints) | (refine wpStf_store (by rfl) (by rfl) (fun K hK => ?_); go_simp; refine hK _ ?_; clear hK K; try go_ints) | (refine wpStf_free (by decide) (fun K hK => ?_); go_simp; refine hK _ ?_; clear hK K; try go_ints))
      refine wpStf_nil ?_
      have hrl := HRL.out
      have hq := HQ0.out
      have fN := hid (blk_heap (w := wr.drew) (o := .cells (ovr cur p (List.replicate q c)) 5 (0, 0)) (hget_lt (w := wr.drew) HCU.out))
      have bN := hid (HB.out.drew.trans (below_blk (w := wr.drew) (o := .cells (ovr cur p (List.replicate q c)) 5 (0, 0)) (Nat.le_refl W.heap.size)))
      have ej := ovr_join (cur := cur) (o := 0) (l := List.replicate p c) (m := List.replicate q c) (by rw [hrl, List.length_replicate]; omega) (by rw [List.drop_zero, List.length_replicate]; exact HCT.out)
      rw [List.drop_zero, List.length_append, hrl, List.length_replicate, Nat.zero_add, List.replicate_append_replicate] at ej
      have EJ := hid ej
      have hz : (ovr cur p (List.replicate q c)).size = cur.size := ovr_size (by rw [hrl]; omega)
      have HZ := hid hz
      have HQ := hid hq
      clear ej hz hq hrl
      generalize blk wr.drew W.heap.size (.cells (ovr cur p (List.replicate q c)) 5 (0, 0)) = w3 at *
      go_wp2_with fail
      exact ⟨⟨p + q, by omega, by omega, by first | rfl | (rw [show (p : Int) + (q : Int) = ((p + q : Nat) : Int) by omega]), ⟨_, fN.out, by rw [HZ.out]; exact hcs, EJ.out⟩, bN.out⟩, by simp [intOf]; omega⟩
    · have hd : decide ((p : Int) < 64) = false := decide_eq_false (by omega)
      have hp : p = 64 := by omega
      go_wp2_with fail
      go_ret
      refine ⟨rfl, ⟨cur, HCU.out, ?_⟩, HB.out⟩
      rw [List.length_replicate, ← hp]
      exact HCT.out

end Go.Proofs.YtejkimhmpnogkaaDoor
