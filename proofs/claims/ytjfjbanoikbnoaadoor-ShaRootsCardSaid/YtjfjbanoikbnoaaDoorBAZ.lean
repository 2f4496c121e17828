/- Noughts appended to a row of bytes. -/
import Derived.Test.YtjfjbanoikbnoaaDoorBAP
namespace Go.Proofs.YtjfjbanoikbnoaaDoor
open Go.RowKit

variable {P : Program}
theorem zero_cells8 : (Builtin.zeroCells (Value.int IntKind.u8 0).cells 8).toList = u8s [0, 0, 0, 0, 0, 0, 0, 0] := by kernel_rfl
theorem run_append_room8 (w : World) (t tx ty : TypeId) (i : TypeInfo) (ht : P.underlying t = some (.slice 5)) (hk : P.underlying tx = some (.int .i64)) (hi : P.info? 5 = some i) (hz : i.zero = some (.int .u8 0)) (hs1 : i.size = 1) (hb1 : i.bytes = 1)
    (b sLen sCap : Nat) (hroom : sLen + 8 ≤ sCap) (hc : ∀ j, j < 8 → (w.cell? ⟨b, sLen + j, none⟩).isSome = true) (hf : ∀ j, j < 8 → w.frozen? ⟨b, sLen + j, none⟩ = false) :
    (Builtin.append_ #[t, tx] ty #[.slice (some ⟨b, 0, none⟩) sLen sCap, .int .i64 8]).run P w = .ok (.slice (some ⟨b, 0, none⟩) (sLen + 8) sCap) (w.setCells b sLen (u8s [0, 0, 0, 0, 0, 0, 0, 0])) := by
  have hst := run_storeCells_cells (P := P) b sLen (u8s [0, 0, 0, 0, 0, 0, 0, 0]) 0 w (by simpa [u8s_length] using hc) (by simpa [u8s_length] using hf) (by intro v hv; simp [u8s] at hv; subst hv; rfl)
  simp only [Nat.add_zero] at hst
  have hw8 : IntKind.i64.wrap 8 = 8 := by decide
  simp [Builtin.append_, run_underlying ht, run_underlying hk, sizeOf, typeInfo, zeroValue, hi, hz, hs1, hb1, asInt, asIntOf, hw8, hroom, Addr.add_lit, zero_cells8, hst]

theorem run_append_grow8 (w : World) (t tx ty : TypeId) (i : TypeInfo) (ht : P.underlying t = some (.slice 5)) (hk : P.underlying tx = some (.int .i64)) (hi : P.info? 5 = some i) (hz : i.zero = some (.int .u8 0)) (hs1 : i.size = 1) (hb1 : i.bytes = 1)
    (base : Option Addr) (sLen sCap : Nat) (olds : List Value) (hold : (Builtin.firstCells 1 sLen (.slice base sLen sCap)).run P w.drew = .ok olds.toArray w.drew) (hg : sCap < sLen + 8) (h63 : sLen + 8 ≤ 140737488355328) :
    (Builtin.append_ #[t, tx] ty #[.slice base sLen sCap, .int .i64 8]).run P w =
      .ok (.slice (some ⟨w.heap.size, 0, none⟩) (sLen + 8) (grownCap w (sLen + 8) sCap 5))
        (w.drew.alloc (.cells ((olds ++ u8s [0, 0, 0, 0, 0, 0, 0, 0]).toArray ++ Builtin.zeroCells (Value.int IntKind.u8 0).cells (grownCap w (sLen + 8) sCap 5 - (sLen + 8))) 5)) := by
  have hn : ¬ (sLen + 8 ≤ sCap) := by omega
  have hw8 : IntKind.i64.wrap 8 = 8 := by decide
  have h63' : ¬ (9223372036854775807 < ((sLen : Int) + 8)) := by omega
  have h63'' : ¬ (9223372036854775807 < ((sLen : Int) + max 8 0)) := by omega
  have hfit : Builtin.nextslicecap (sLen + 8) sCap ≤ 2 * (sLen + 8) := nextslicecap_le hg
  have h48' : ¬ (281474976710656 < Builtin.nextslicecap (sLen + 8) sCap) := by omega
  simp [Builtin.append_, run_underlying ht, run_underlying hk, sizeOf, typeInfo, zeroValue, hi, hz, hs1, hb1, asInt, asIntOf, hw8, hn, h63', h63'', h48', Question.forced, hold, newRow, grownCap]
  congr 2
  apply Array.ext'
  simp [List.append_assoc, zero_cells8]

theorem run_append_B8 (w : World) (base : Nat) (t tx ty : TypeId) (i : TypeInfo) (ht : P.underlying t = some (.slice 5)) (hk : P.underlying tx = some (.int .i64)) (hi : P.info? 5 = some i) (hz : i.zero = some (.int .u8 0)) (hs1 : i.size = 1) (hb1 : i.bytes = 1)
    (v : Value) (l : List UInt8) (h : OwnsB w base v l) (hlen : l.length + 8 ≤ 140737488355328) (hbase : base ≤ w.heap.size) :
    ∃ v' w', (Builtin.append_ #[t, tx] ty #[v, .int .i64 8]).run P w = .ok v' w' ∧ OwnsB w' base v' (l ++ [0, 0, 0, 0, 0, 0, 0, 0]) ∧ w.grownBy w' v.ownBlock := by
  have grow : ∀ (b : Option Addr) (n cap : Nat), n = l.length → cap < n + 8 → (Builtin.firstCells 1 n (.slice b n cap)).run P w.drew = .ok (u8s l).toArray w.drew → v = .slice b n cap →
      ∃ v' w', (Builtin.append_ #[t, tx] ty #[v, .int .i64 8]).run P w = .ok v' w' ∧ OwnsB w' base v' (l ++ [0, 0, 0, 0, 0, 0, 0, 0]) ∧ w.grownBy w' v.ownBlock := by
    intro b n cap hn hc hf hv
    have hr := run_append_grow8 (P := P) w t tx ty i ht hk hi hz hs1 hb1 b n cap (u8s l) hf hc (by omega)
    rw [hv]
    have hge := grownCap_ge w (n + 8) cap 5
    refine ⟨_, _, hr, .inr ⟨w.heap.size, grownCap w (n + 8) cap 5, _, (0, 0), by rw [List.length_append, hn]; rfl, hbase, heap_alloc_new w.drew _, fun j _ => free_at (heap_alloc_new w.drew _) j, ?_, ?_, ?_, ?_⟩, ⟨rfl, rfl, rfl, by simp, fun k hk _ => heap_alloc_old w.drew _ hk⟩⟩
    · rw [List.length_append, ← hn]; exact hge
    · exact grownCap_le_maxLen w (n + 8) cap 5 (by unfold maxLen; omega)
    · simp only [Array.size_append, List.size_toArray, List.length_append, u8s_length, size_zeroCells]
      have e1 : (Value.int IntKind.u8 0).cells.size = 1 := rfl
      rw [e1, ← hn]
      simp only [List.length_cons, List.length_nil]; omega
    · rw [Array.toList_append, List.take_append_of_le_length (by simp [u8s_length]), List.take_of_length_le (by simp [u8s_length]), u8s_append]
  rcases h with ⟨rfl, rfl⟩ | ⟨g, cap, cur, fz, rfl, hb, hc, hf, hle, hmx, hsz, hxs⟩
  · exact grow none 0 0 rfl (by omega) (run_firstCells_none w.drew 1 0 0 0) rfl
  · by_cases hroom : l.length + 8 ≤ cap
    · have hcell : ∀ j, j < cap → (w.cell? ⟨g, j, none⟩).isSome = true := fun j hj => by rw [cell_at hc]; simp; omega
      have hr := run_append_room8 (P := P) w t tx ty i ht hk hi hz hs1 hb1 g l.length cap hroom (fun j hj => hcell _ (by omega)) (fun j hj => hf _ (by omega))
      have hcur : cur = (u8s l ++ (cur.toList.drop l.length).take 8 ++ cur.toList.drop (l.length + 8)).toArray := by
        apply Array.ext'
        simp only []
        rw [← hxs, ← List.drop_drop, List.append_assoc, List.take_append_drop, List.take_append_drop]
      have hset := setCells_row (u8s [0, 0, 0, 0, 0, 0, 0, 0]) w g (u8s l) ((cur.toList.drop l.length).take 8) (cur.toList.drop (l.length + 8)) 5 fz (by rw [← hcur]; exact hc) (by rw [List.length_take, List.length_drop, u8s_length]; simp [hsz]; omega)
      rw [u8s_length] at hset
      rw [hset] at hr
      have hnew := blk_heap (o := .cells (u8s l ++ u8s [0, 0, 0, 0, 0, 0, 0, 0] ++ cur.toList.drop (l.length + 8)).toArray 5 fz) (lt_blk hc)
      refine ⟨_, _, hr, .inr ⟨g, cap, _, fz, by rw [List.length_append]; rfl, hb, hnew, fun j hj => ?_, by rw [List.length_append]; exact hroom, hmx, ?_, ?_⟩, ⟨rfl, rfl, rfl, by simp [blk], fun k hk hn => blk_other k (by rintro rfl; exact hn rfl)⟩⟩
      · have := hf j hj
        unfold World.frozen? at this ⊢
        simp only [] at this ⊢
        rw [hc] at this
        rw [hnew]
        exact this
      · simp only [List.size_toArray, List.length_append, u8s_length, List.length_drop, Array.length_toList, List.length_cons, List.length_nil]; omega
      · rw [List.length_append, List.take_append_of_le_length (by simp [u8s_length]), List.take_of_length_le (by simp [u8s_length]), u8s_append]
    · refine grow (some ⟨g, 0, none⟩) l.length cap rfl (by omega) ?_ rfl
      exact run_firstCells_some (P := P) w.drew 1 l.length ⟨g, 0, none⟩ l.length cap (u8s l) (by rw [u8s_length, Nat.mul_one]) (fun j u hu => by
        rw [Addr.add_mid, Nat.zero_add]
        show w.cell? _ = _
        rw [cell_at hc, ← Array.getElem?_toList]
        have hj : j < l.length := by have := (List.getElem?_eq_some_iff.1 hu).1; rwa [u8s_length] at this
        have h4 : (cur.toList.take l.length)[j]? = cur.toList[j]? := by rw [List.getElem?_take, if_pos hj]
        rw [← h4, hxs, hu])
theorem wpList_append_B8 {ops : Array Oper} {rest : List Oper} {o : Oper} {a : Act} {w : World} {Q : Exit → Act → World → Prop} (hgd : o.guard = none) (s : Operand) (t tx : TypeId)
    (ho : o.op = .call { callee := .builtin .append, args := #[s, .const (.int .i64 8)], argTypes := #[t, tx] }) (base : Nat) (i : TypeInfo) (ht : P.underlying t = some (.slice 5)) (hk : P.underlying tx = some (.int .i64)) (hi : P.info? 5 = some i) (hz : i.zero = some (.int .u8 0)) (hs1 : i.size = 1) (hb1 : i.bytes = 1)
    (v : Value) (hv : a.eval s = v) (l : List UInt8) (h : OwnsB w base v l) (hlen : l.length + 8 ≤ 140737488355328) (hbase : base ≤ w.heap.size)
    (k : ∀ v' w', OwnsB w' base v' (l ++ [0, 0, 0, 0, 0, 0, 0, 0]) → w.grownBy w' v.ownBlock → wpList P ops Q rest (a.put o.dst v') w') : wpList P ops Q (o :: rest) a w := by
  refine wpList_plain hgd fun _ hK => ?_
  obtain ⟨v', w', hr, h2, h3⟩ := run_append_B8 (P := P) w base t tx o.type i ht hk hi hz hs1 hb1 v l h hlen hbase
  unfold Oper.wp execOp
  have he : a.eval (.const (.int .i64 8)) = .int .i64 8 := rfl
  simp only [ho, resolve, invoke, builtin, Sem.run_bind, Sem.run_pure, Result.andThen_ok, List.map_toArray, List.map_cons, List.map_nil, hv, he, hr]
  exact hK _ _ (k v' w' h2 h3)

end Go.Proofs.YtjfjbanoikbnoaaDoor
