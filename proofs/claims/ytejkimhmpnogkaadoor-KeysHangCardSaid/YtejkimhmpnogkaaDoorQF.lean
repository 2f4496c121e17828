/- Objects that turn: what stays of a world but for some blocks; bytes that an object has for itself. -/
import Derived.Test.YtejkimhmpnogkaaDoorRT
import Derived.Test.YtejkimhmpnogkaaDoorBYT
import Derived.Deep.AppendSrc
import Derived.Laws.AppendOwn
import Derived.Maps.OwnSet
namespace Go.Proofs.YtejkimhmpnogkaaDoor
open Go Go.RowKit

/-- But for the blocks that ex names, and for new ones, the world is as it was. -/
structure Out (ex : Nat → Prop) (w w' : World) : Prop where
  os : w'.os = w.os
  tape : w'.tape = w.tape
  output : w'.output = w.output
  size : w.heap.size ≤ w'.heap.size
  block : ∀ k, k < w.heap.size → ¬ ex k → w'.heap[k]? = w.heap[k]?
section
variable {ex ex' : Nat → Prop} {a b c w w' : World}
theorem Out.refl (ex : Nat → Prop) (w : World) : Out ex w w := ⟨rfl, rfl, rfl, Nat.le_refl _, fun _ _ _ => rfl⟩
theorem Out.trans (h : Out ex a b) (k : Out ex' b c) (he : ∀ j, j < a.heap.size → ex' j → ex j) : Out ex a c :=
  ⟨k.os.trans h.os, k.tape.trans h.tape, k.output.trans h.output, Nat.le_trans h.size k.size, fun i hi hn => (k.block i (Nat.lt_of_lt_of_le hi h.size) (fun e => hn (he i hi e))).trans (h.block i hi hn)⟩
theorem Out.then (h : Out ex a b) (k : Out ex b c) : Out ex a c := h.trans k fun _ _ e => e
theorem Out.mono (h : Out ex a b) (he : ∀ j, j < a.heap.size → ex j → ex' j) : Out ex' a b := ⟨h.os, h.tape, h.output, h.size, fun i hi hn => h.block i hi fun e => hn (he i hi e)⟩
theorem Out.of_below (h : Below w.heap.size w w') : Out ex w w' := ⟨h.os, h.tape, h.output, h.size, fun k hk _ => h.block k hk⟩
theorem Out.below {B : Nat} (h : Out ex w w') (he : ∀ k, ex k → B ≤ k) (hB : B ≤ w.heap.size) : Below B w w' := ⟨h.os, h.tape, h.output, h.size, fun k hk => h.block k (by omega) (fun e => by have := he k e; omega)⟩
theorem Out.of_grown {row : Option Nat} (h : w.grownBy w' row) (he : ∀ k, row = some k → ex k) : Out ex w w' := ⟨h.os, h.tape, h.output, h.size, fun k hk hn => h.block k hk (fun e => hn (he k e.symm))⟩
theorem Out.of_dr (h : Dr w w') : Out ex w w' := by obtain ⟨n, rfl⟩ := h; exact ⟨rfl, rfl, rfl, Nat.le_refl _, fun _ _ _ => rfl⟩
theorem Out.drew (h : Out ex a w) : Out ex a w.drew := ⟨h.os, h.tape, h.output, h.size, h.block⟩
theorem Out.drewN (h : Out ex a w) (n : Nat) : Out ex a (w.drewN n) := ⟨h.os, h.tape, h.output, h.size, h.block⟩
theorem Out.alloc (h : Out ex a w) (o : Obj) : Out ex a (w.alloc o) := h.then ⟨rfl, rfl, rfl, by simp, fun i hi _ => Below.heap_alloc w o i hi⟩
theorem Out.setCell (h : Out ex a w) {p : Addr} (hp : ex p.block ∨ a.heap.size ≤ p.block) (u : Value) : Out ex a (w.setCell p u) :=
  ⟨h.os, h.tape, h.output, Nat.le_trans h.size (by simp [World.setCell]), fun i hi hn => (Below.heap_setCell w p u i (fun e => by subst e; rcases hp with hp | hp; exact hn hp; omega)).trans (h.block i hi hn)⟩
theorem Out.blk (h : Out ex a w) {b : Nat} (hb : ex b ∨ a.heap.size ≤ b) (o : Obj) : Out ex a (blk w b o) :=
  ⟨h.os, h.tape, h.output, Nat.le_trans h.size (by simp [Proofs.YtejkimhmpnogkaaDoor.blk]), fun i hi hn => (blk_other i (fun e => by subst e; rcases hb with hb | hb; exact hn hb; omega)).trans (h.block i hi hn)⟩
theorem Out.get (h : Out ex w w') {b : Nat} {o : Obj} (g : hget w b = some o) (hn : ¬ ex b) : hget w' b = some o := (h.block b (hget_lt g) hn).trans g
theorem Out.cell (h : Out ex w w') {p : Addr} {v : Value} (g : w.cell? p = some v) (hn : ¬ ex p.block) : w'.cell? p = some v :=
  (World.cell?_of_block (h.block p.block (World.block_lt_of_cell? w p g) hn)).trans g
end
theorem hget_setCell {w : World} {b : Nat} {c : Array Value} {T : TypeId} {fz : Nat × Nat} (h : hget w b = some (.cells c T fz)) (k : Nat) (v : Value) : hget (w.setCell ⟨b, k, none⟩ v) b = some (.cells (c.setIfInBounds k v) T fz) := at_setCell h k v
theorem hget_setCell_ne {w : World} {b : Nat} {o : Obj} (h : hget w b = some o) {p : Addr} (hp : b ≠ p.block) (v : Value) : hget (w.setCell p v) b = some o := at_setCell_other h hp v
theorem hget_grown {w w' : World} {b : Nat} {o : Obj} {row : Option Nat} (h : hget w b = some o) (hg : w.grownBy w' row) (hn : some b ≠ row) : hget w' b = some o := (hg.block b (hget_lt h) hn).trans h

/-- A slice of bytes that an object has for itself: what it holds. -/
def OwnsQ (w : World) (v : Value) (l : List UInt8) : Prop :=
  (v = .slice none 0 0 ∧ l = []) ∨
  ∃ g cap cur, v = .slice (some ⟨g, 0, none⟩) l.length cap ∧ hget w g = some (.cells cur 5 (0, 0)) ∧ l.length ≤ cap ∧ cap ≤ cur.size ∧ cur.size ≤ maxLen ∧ cur.toList.take l.length = u8s l
theorem OwnsQ.nil (w : World) : OwnsQ w (.slice none 0 0) [] := .inl ⟨rfl, rfl⟩
theorem OwnsQ.keep {w w' : World} {v : Value} {l : List UInt8} (h : OwnsQ w v l) (hk : ∀ g o, v.ownBlock = some g → hget w g = some o → hget w' g = some o) : OwnsQ w' v l := by
  rcases h with h | ⟨g, cap, cur, rfl, h2, h3⟩
  · exact .inl h
  · exact .inr ⟨g, cap, cur, rfl, hk g _ rfl h2, h3⟩
theorem OwnsQ.lt {w : World} {v : Value} {l : List UInt8} (h : OwnsQ w v l) {g : Nat} (hg : v.ownBlock = some g) : g < w.heap.size := by
  rcases h with ⟨rfl, _⟩ | ⟨g', cap, cur, rfl, h2, _⟩
  · simp [Value.ownBlock] at hg
  · simp [Value.ownBlock] at hg; subst hg; exact hget_lt h2
theorem OwnsQ.shape {w : World} {v : Value} {l : List UInt8} (h : OwnsQ w v l) : ∃ a cap, v = .slice a l.length cap ∧ l.length ≤ cap ∧ (a = none → cap = 0) ∧ cap ≤ maxLen ∧
    (∀ j, j < l.length → ∃ g, a = some ⟨g, 0, none⟩ ∧ w.cell? ⟨g, j, none⟩ = some (.int .u8 ((l.getD j 0).toNat : Int))) := by
  rcases h with ⟨rfl, rfl⟩ | ⟨g, cap, cur, rfl, h2, h3, h4, h5, h6⟩
  · exact ⟨none, 0, rfl, Nat.le_refl _, fun _ => rfl, by unfold maxLen; omega, fun j hj => by simp at hj⟩
  · refine ⟨_, _, rfl, h3, (fun e => by cases e), Nat.le_trans h4 h5, fun j hj => ⟨g, rfl, ?_⟩⟩
    rw [cell_at h2]
    have h3 : cur.toList[j]? = (u8s l)[j]? := by
      have h4 : (cur.toList.take l.length)[j]? = cur.toList[j]? := by rw [List.getElem?_take, if_pos hj]
      rw [← h4, h6]
    rw [← Array.getElem?_toList, h3]
    unfold u8s
    simp [hj]

section
variable {P : Program}
theorem run_append_Q (w : World) (t tx ty : TypeId) (i : TypeInfo) (ht : P.underlying t = some (.slice 5)) (hi : P.info? 5 = some i) (hz : i.zero = some (.int .u8 0)) (hs1 : i.size = 1) (hb1 : i.bytes = 1)
    (v x : Value) (l m : List UInt8) (h : OwnsQ w v l) (hs : Src P 1 tx x m.length (u8s m) w) (hm : 0 < m.length) (hlen : l.length + m.length ≤ 140737488355328) :
    ∃ v' w', (Builtin.append_ #[t, tx] ty #[v, x]).run P w = .ok v' w' ∧ OwnsQ w' v' (l ++ m) ∧ w.grownBy w' v.ownBlock ∧ (v'.ownBlock = v.ownBlock ∨ v'.ownBlock = some w.heap.size) := by
  have grow : ∀ (b : Option Addr) (n cap : Nat), n = l.length → cap < n + m.length → (Builtin.firstCells i.size n (.slice b n cap)).run P w.drew = .ok (u8s l).toArray w.drew → v = .slice b n cap →
      ∃ v' w', (Builtin.append_ #[t, tx] ty #[v, x]).run P w = .ok v' w' ∧ OwnsQ w' v' (l ++ m) ∧ w.grownBy w' v.ownBlock ∧ (v'.ownBlock = v.ownBlock ∨ v'.ownBlock = some w.heap.size) := by
    intro b n cap hn hc hf hv
    have hr := run_append_grow_src (P := P) w t tx ty 5 i (.int .u8 0) ht hi hz b n cap (u8s l) hf x m.length (u8s m) (by rw [hs1]; exact hs) hc (by omega) (by
      rw [hb1, Nat.mul_one]
      have := nextslicecap_le hc
      omega)
    rw [hv]
    have hge := grownCap_ge w (n + m.length) cap 5
    have hle := grownCap_le_maxLen w (n + m.length) cap 5 (by unfold maxLen; omega)
    have e1 : (Value.int IntKind.u8 0).cells.size = 1 := rfl
    refine ⟨_, _, hr, .inr ⟨w.heap.size, grownCap w (n + m.length) cap 5, _, by rw [List.length_append, hn], heap_alloc_new w.drew _, ?_, ?_, ?_, ?_⟩, ⟨rfl, rfl, rfl, by simp, fun k hk _ => heap_alloc_old w.drew _ hk⟩, .inr rfl⟩
    · rw [List.length_append]; omega
    · simp only [Array.size_append, List.size_toArray, List.length_append, u8s_length, size_zeroCells]
      rw [e1]; omega
    · simp only [Array.size_append, List.size_toArray, List.length_append, u8s_length, size_zeroCells]
      rw [e1]; omega
    · rw [Array.toList_append, List.take_append_of_le_length (by simp [u8s_length]), List.take_of_length_le (by simp [u8s_length]), u8s_append]
  rcases h with ⟨rfl, rfl⟩ | ⟨g, cap, cur, rfl, hc, hle, hmx, hsz, hxs⟩
  · exact grow none 0 0 rfl (by omega) (by rw [hs1]; exact run_firstCells_none w.drew 1 0 0 0) rfl
  · by_cases hroom : l.length + m.length ≤ cap
    · have hcell : ∀ j, j < cap → (w.cell? ⟨g, j, none⟩).isSome = true := fun j hj => by rw [cell_at hc]; simp; omega
      have hr := run_append_room_src (P := P) w t tx ty 5 i ht hi g 0 l.length cap x m.length (u8s m) (by rw [hs1]; exact hs) hroom (fun j hj => by rw [hs1, Nat.zero_add, Nat.mul_one]; exact hcell _ (by rw [u8s_length] at hj; omega))
        (fun j hj => by rw [hs1, Nat.zero_add, Nat.mul_one]; exact free_at hc _)
      rw [hs1, Nat.zero_add, Nat.mul_one] at hr
      have hcur : cur = (u8s l ++ (cur.toList.drop l.length).take m.length ++ cur.toList.drop (l.length + m.length)).toArray := by
        apply Array.ext'
        simp only []
        rw [← hxs, ← List.drop_drop, List.append_assoc, List.take_append_drop, List.take_append_drop]
      have hset := setCells_row (u8s m) w g (u8s l) ((cur.toList.drop l.length).take m.length) (cur.toList.drop (l.length + m.length)) 5 (0, 0) (by rw [← hcur]; exact hc) (by rw [List.length_take, List.length_drop, u8s_length]; simp; omega)
      rw [u8s_length] at hset
      rw [hset] at hr
      have hnew := blk_heap (o := .cells (u8s l ++ u8s m ++ cur.toList.drop (l.length + m.length)).toArray 5 (0, 0)) (lt_blk hc)
      refine ⟨_, _, hr, .inr ⟨g, cap, _, by rw [List.length_append], hnew, by rw [List.length_append]; exact hroom, ?_, ?_, ?_⟩, ⟨rfl, rfl, rfl, by simp [blk], fun k hk hn => blk_other k (by rintro rfl; exact hn rfl)⟩, .inl rfl⟩
      · simp only [List.size_toArray, List.length_append, u8s_length, List.length_drop, Array.length_toList]; omega
      · simp only [List.size_toArray, List.length_append, u8s_length, List.length_drop, Array.length_toList]; omega
      · rw [List.length_append]
        rw [List.take_append_of_le_length (by simp [u8s_length]), List.take_of_length_le (by simp [u8s_length]), u8s_append]
    · refine grow (some ⟨g, 0, none⟩) l.length cap rfl (by omega) ?_ rfl
      have := run_firstCells_some (P := P) w.drew i.size l.length ⟨g, 0, none⟩ l.length cap (u8s l) (by rw [hs1, u8s_length, Nat.mul_one]) (fun j u hu => by
        rw [Addr.add_mid, Nat.zero_add]
        show w.cell? _ = _
        rw [cell_at hc, ← Array.getElem?_toList]
        have hj : j < l.length := by have := (List.getElem?_eq_some_iff.1 hu).1; rwa [u8s_length] at this
        have h4 : (cur.toList.take l.length)[j]? = cur.toList[j]? := by rw [List.getElem?_take, if_pos hj]
        rw [← h4, hxs, hu])
      exact this
theorem wpList_append_Q {ops : Array Oper} {rest : List Oper} {o : Oper} {a : Act} {w : World} {Q : Exit → Act → World → Prop} (hgd : o.guard = none) (s x : Operand) (t tx : TypeId)
    (ho : o.op = .call { callee := .builtin .append, args := #[s, x], argTypes := #[t, tx] }) (i : TypeInfo) (ht : P.underlying t = some (.slice 5)) (hi : P.info? 5 = some i) (hz : i.zero = some (.int .u8 0)) (hs1 : i.size = 1) (hb1 : i.bytes = 1)
    (v y : Value) (hv : a.eval s = v) (hy : a.eval x = y) (l m : List UInt8) (h : OwnsQ w v l) (hs : Src P 1 tx y m.length (u8s m) w) (hm : 0 < m.length) (hlen : l.length + m.length ≤ 140737488355328)
    (k : ∀ v' w', OwnsQ w' v' (l ++ m) → w.grownBy w' v.ownBlock → (v'.ownBlock = v.ownBlock ∨ v'.ownBlock = some w.heap.size) → wpList P ops Q rest (a.put o.dst v') w') : wpList P ops Q (o :: rest) a w := by
  refine wpList_plain hgd fun _ hK => ?_
  obtain ⟨v', w', hr, h2, h3, h4⟩ := run_append_Q (P := P) w t tx o.type i ht hi hz hs1 hb1 v y l m h hs hm hlen
  unfold Oper.wp execOp
  simp only [ho, resolve, invoke, builtin, Sem.run_bind, Sem.run_pure, Result.andThen_ok, List.map_toArray, List.map_cons, List.map_nil, hv, hy, hr]
  exact hK _ _ (k v' w' h2 h3 h4)
end
end Go.Proofs.YtejkimhmpnogkaaDoor
