/- A row of bytes that is appended to, wherever it came from. -/
import Derived.Test.YtejkimhmpnogkaaDoorBYT
import Derived.Deep.AppendSrc
import Derived.Laws.AppendOwn
namespace Go.Proofs.YtejkimhmpnogkaaDoor
open Go.RowKit

/-- A slice of bytes that the call has for itself: what it holds. -/
def OwnsB (w : World) (base : Nat) (v : Value) (l : List UInt8) : Prop :=
  (v = .slice none 0 0 ∧ l = []) ∨
  ∃ g cap cur fz, v = .slice (some ⟨g, 0, none⟩) l.length cap ∧ base ≤ g ∧ w.heap[g]? = some (.cells cur 5 fz) ∧ (∀ j, j < cap → w.frozen? ⟨g, j, none⟩ = false) ∧ l.length ≤ cap ∧ cap ≤ maxLen ∧ cur.size = cap ∧ cur.toList.take l.length = u8s l

theorem OwnsB.nil (w : World) (base : Nat) : OwnsB w base (.slice none 0 0) [] := .inl ⟨rfl, rfl⟩
theorem OwnsB.keep {w w' : World} {base : Nat} {v : Value} {l : List UInt8} (h : OwnsB w base v l) (hb : Below w.heap.size w w') : OwnsB w' base v l := by
  rcases h with h | ⟨g, cap, cur, fz, h1, h2, h3, h4, h5, h6, h7, h8⟩
  · exact .inl h
  · have e := keepB hb h3
    exact .inr ⟨g, cap, cur, fz, h1, h2, e, fun j hj => by rw [World.frozen?_of_block (w := w) (by simp [e, h3])]; exact h4 j hj, h5, h6, h7, h8⟩
theorem OwnsB.block {w : World} {base : Nat} {v : Value} {l : List UInt8} (h : OwnsB w base v l) {g : Nat} (hg : v.ownBlock = some g) : base ≤ g := by
  rcases h with ⟨rfl, _⟩ | ⟨g', cap, cur, fz, rfl, hb, _⟩
  · simp [Value.ownBlock] at hg
  · simp [Value.ownBlock] at hg; omega
theorem OwnsB.cells {w : World} {base : Nat} {v : Value} {l : List UInt8} (h : OwnsB w base v l) (h0 : 0 < l.length) :
    ∃ g cap, v = .slice (some ⟨g, 0, none⟩) l.length cap ∧ base ≤ g ∧ g < w.heap.size ∧ l.length ≤ cap ∧ cap ≤ maxLen ∧ ∀ j, j < l.length → w.cell? ⟨g, j, none⟩ = some (.int .u8 ((l.getD j 0).toNat : Int)) := by
  rcases h with ⟨_, rfl⟩ | ⟨g, cap, cur, fz, rfl, hb, hc, _, hle, hmx, hsz, hxs⟩
  · simp at h0
  refine ⟨g, cap, rfl, hb, lt_blk hc, hle, hmx, fun j hj => ?_⟩
  rw [cell_at hc]
  have h3 : cur.toList[j]? = (u8s l)[j]? := by
    have h4 : (cur.toList.take l.length)[j]? = cur.toList[j]? := by rw [List.getElem?_take, if_pos hj]
    rw [← h4, hxs]
  rw [← Array.getElem?_toList, h3]
  unfold u8s
  simp [hj]
/-- A text turned into bytes. -/
theorem OwnsB.conv (w : World) (s : ByteArray) (hs : grownCap w s.size 0 5 ≤ maxLen) : OwnsB (Lib.bytesWorld w 5 s) w.heap.size (.slice (some ⟨w.heap.size, 0, none⟩) s.size (grownCap w s.size 0 5)) s.data.toList := by
  have hg : s.size ≤ grownCap w s.size 0 5 := grownCap_ge w s.size 0 5
  have hcs : (Lib.bytesCells w 5 s).size = grownCap w s.size 0 5 := by
    have : s.data.size = s.size := rfl
    simp [Lib.bytesCells]; omega
  refine .inr ⟨w.heap.size, _, _, _, by rw [show s.data.toList.length = s.size by simp], Nat.le_refl _, Lib.bytesWorld_at_new w 5 s, fun j hj => ?_, by simpa using hg, hs, hcs, ?_⟩
  · simp [World.frozen?, Lib.bytesWorld_at_new]; omega
  · unfold Lib.bytesCells u8s
    rw [Array.toList_append, List.take_append_of_le_length (by simp)]
    rw [List.take_of_length_le (by simp)]
    simp

section
variable {P : Program}
theorem run_append_B (w : World) (base : Nat) (t tx ty : TypeId) (i : TypeInfo) (ht : P.underlying t = some (.slice 5)) (hi : P.info? 5 = some i) (hz : i.zero = some (.int .u8 0)) (hs1 : i.size = 1) (hb1 : i.bytes = 1)
    (v x : Value) (l m : List UInt8) (h : OwnsB w base v l) (hs : Src P 1 tx x m.length (u8s m) w) (hm : 0 < m.length) (hlen : l.length + m.length ≤ 140737488355328) (hbase : base ≤ w.heap.size) :
    ∃ v' w', (Builtin.append_ #[t, tx] ty #[v, x]).run P w = .ok v' w' ∧ OwnsB w' base v' (l ++ m) ∧ w.grownBy w' v.ownBlock := by
  have grow : ∀ (b : Option Addr) (n cap : Nat), n = l.length → cap < n + m.length → (Builtin.firstCells i.size n (.slice b n cap)).run P w.drew = .ok (u8s l).toArray w.drew → v = .slice b n cap →
      ∃ v' w', (Builtin.append_ #[t, tx] ty #[v, x]).run P w = .ok v' w' ∧ OwnsB w' base v' (l ++ m) ∧ w.grownBy w' v.ownBlock := by
    intro b n cap hn hc hf hv
    have hr := run_append_grow_src (P := P) w t tx ty 5 i (.int .u8 0) ht hi hz b n cap (u8s l) hf x m.length (u8s m) (by rw [hs1]; exact hs) hc (by omega) (by
      rw [hb1, Nat.mul_one]
      have := nextslicecap_le hc
      omega)
    rw [hv]
    refine ⟨_, _, hr, .inr ⟨w.heap.size, grownCap w (n + m.length) cap 5, _, (0, 0), by rw [List.length_append, hn], hbase, heap_alloc_new w.drew _, fun j _ => ?_, ?_, ?_, ?_, ?_⟩, ⟨rfl, rfl, rfl, by simp, fun k hk _ => heap_alloc_old w.drew _ hk⟩⟩
    · exact free_at (heap_alloc_new w.drew _) j
    · have := grownCap_ge w (n + m.length) cap 5; rw [List.length_append]; omega
    · exact grownCap_le_maxLen w (n + m.length) cap 5 (by unfold maxLen; omega)
    · have := grownCap_ge w (n + m.length) cap 5
      simp only [Array.size_append, List.size_toArray, List.length_append, u8s_length, size_zeroCells]
      have e1 : (Value.int IntKind.u8 0).cells.size = 1 := rfl
      rw [e1]; omega
    · rw [Array.toList_append, List.take_append_of_le_length (by simp [u8s_length]), List.take_of_length_le (by simp [u8s_length]), u8s_append]
  rcases h with ⟨rfl, rfl⟩ | ⟨g, cap, cur, fz, rfl, hb, hc, hf, hle, hmx, hsz, hxs⟩
  · exact grow none 0 0 rfl (by omega) (by rw [hs1]; exact run_firstCells_none w.drew 1 0 0 0) rfl
  · by_cases hroom : l.length + m.length ≤ cap
    · have hcell : ∀ j, j < cap → (w.cell? ⟨g, j, none⟩).isSome = true := fun j hj => by rw [cell_at hc]; simp; omega
      have hr := run_append_room_src (P := P) w t tx ty 5 i ht hi g 0 l.length cap x m.length (u8s m) (by rw [hs1]; exact hs) hroom (fun j hj => by rw [hs1, Nat.zero_add, Nat.mul_one]; exact hcell _ (by rw [u8s_length] at hj; omega))
        (fun j hj => by rw [hs1, Nat.zero_add, Nat.mul_one]; exact hf _ (by rw [u8s_length] at hj; omega))
      rw [hs1, Nat.zero_add, Nat.mul_one] at hr
      have hcur : cur = (u8s l ++ (cur.toList.drop l.length).take m.length ++ cur.toList.drop (l.length + m.length)).toArray := by
        apply Array.ext'
        simp only []
        rw [← hxs, ← List.drop_drop, List.append_assoc, List.take_append_drop, List.take_append_drop]
      have hset := setCells_row (u8s m) w g (u8s l) ((cur.toList.drop l.length).take m.length) (cur.toList.drop (l.length + m.length)) 5 fz (by rw [← hcur]; exact hc) (by rw [List.length_take, List.length_drop, u8s_length]; simp [hsz]; omega)
      rw [u8s_length] at hset
      rw [hset] at hr
      have hnew := blk_heap (o := .cells (u8s l ++ u8s m ++ cur.toList.drop (l.length + m.length)).toArray 5 fz) (lt_blk hc)
      refine ⟨_, _, hr, .inr ⟨g, cap, _, fz, by rw [List.length_append], hb, hnew, fun j hj => ?_, by rw [List.length_append]; exact hroom, hmx, ?_, ?_⟩, ⟨rfl, rfl, rfl, by simp [blk], fun k hk hn => blk_other k (by rintro rfl; exact hn rfl)⟩⟩
      · have := hf j hj
        unfold World.frozen? at this ⊢
        simp only [] at this ⊢
        rw [hc] at this
        rw [hnew]
        exact this
      · simp only [List.size_toArray, List.length_append, u8s_length, List.length_drop, Array.length_toList]; omega
      · rw [List.length_append]
        rw [List.take_append_of_le_length (by simp [u8s_length]), List.take_of_length_le (by simp [u8s_length]), u8s_append]
    · refine grow (some ⟨g, 0, none⟩) l.length cap rfl (by omega) ?_ rfl
      have := run_firstCells_some (P := P) w.drew i.size l.length ⟨g, 0, none⟩ l.length cap (u8s l) (by rw [hs1, u8s_length, Nat.mul_one]) (fun j u hu => by
        rw [Addr.add_mid, Nat.zero_add]
        show w.cell? _ = _
        rw [cell_at hc, ← Array.getElem?_toList]
        have hj : j < l.length := by have := (List.getElem?_eq_some_iff.1 hu).1; rwa [u8s_length] at this
        have h4 : (cur.toList.take l.length)[j]? = cur.toList[j]? := by rw [List.getElem?_take, if_pos hj]
        rw [← h4, hxs, hu])
      exact this
theorem wpList_append_B {ops : Array Oper} {rest : List Oper} {o : Oper} {a : Act} {w : World} {Q : Exit → Act → World → Prop} (hgd : o.guard = none) (s x : Operand) (t tx : TypeId)
    (ho : o.op = .call { callee := .builtin .append, args := #[s, x], argTypes := #[t, tx] }) (base : Nat) (i : TypeInfo) (ht : P.underlying t = some (.slice 5)) (hi : P.info? 5 = some i) (hz : i.zero = some (.int .u8 0)) (hs1 : i.size = 1) (hb1 : i.bytes = 1)
    (v y : Value) (hv : a.eval s = v) (hy : a.eval x = y) (l m : List UInt8) (h : OwnsB w base v l) (hs : Src P 1 tx y m.length (u8s m) w) (hm : 0 < m.length) (hlen : l.length + m.length ≤ 140737488355328) (hbase : base ≤ w.heap.size)
    (k : ∀ v' w', OwnsB w' base v' (l ++ m) → w.grownBy w' v.ownBlock → wpList P ops Q rest (a.put o.dst v') w') : wpList P ops Q (o :: rest) a w := by
  refine wpList_plain hgd fun _ hK => ?_
  obtain ⟨v', w', hr, h2, h3⟩ := run_append_B (P := P) w base t tx o.type i ht hi hz hs1 hb1 v y l m h hs hm hlen hbase
  unfold Oper.wp execOp
  simp only [ho, resolve, invoke, builtin, Sem.run_bind, Sem.run_pure, Result.andThen_ok, List.map_toArray, List.map_cons, List.map_nil, hv, hy, hr]
  exact hK _ _ (k v' w' h2 h3)
end

end Go.Proofs.YtejkimhmpnogkaaDoor
