/- The queue's small functions: what each answers. -/
import Derived.Test.YtkmkgfgppblleaaQF
import Derived.Test.YtkmkgfgppblleaaFlowP
import Derived.Maps.RangeWalk
namespace Go.Proofs.Ytkmkgfgppblleaa
open Go.RowKit FL

theorem u32law : Maps.Keyed Try.prog 22 := Maps.int_keyed Try.underlying22
theorem zero8 (w : World) : (zeroValue 5).run Try.prog w = .ok (.int .u8 0) w := by kernel_rfl

/-- The queue in memory: its struct at P, its map at M, what is ready by rv, the number of the end. -/
structure QAt (w : World) (P M : Nat) (rv : Value) (en : Int) (s : FS) : Prop where
  cells : hget w P = some (.cells #[.int .u32 (s.next : Int), .int .i64 (s.size : Int), rv, .map (some M), .bool s.hasEnd, .int .u32 en, .bool s.ended] 55 (0, 0))
  own : ∃ D, w.ownsMap Try.prog 22 (plainElem (H := Unit) Try.prog 5) M (Maps.size D) D ∧ FMap D s.next s.held
  ready : OwnsQ w rv s.ready
  ne : P ≠ M
  rp : rv.ownBlock ≠ some P
  rm : rv.ownBlock ≠ some M
  enr : 0 ≤ en ∧ en < 4294967296
  fin : s.hasEnd = true → s.ended = false → ∃ e : Nat, en = (e : Int) ∧ ofs e s.next = s.endo

theorem QAt.keep {w w' : World} {P M : Nat} {rv : Value} {en : Int} {s : FS} (h : QAt w P M rv en s) (hk : ∀ b o, (b = P ∨ b = M ∨ rv.ownBlock = some b) → hget w b = some o → hget w' b = some o) : QAt w' P M rv en s := by
  obtain ⟨D, h1, h2⟩ := h.own
  refine ⟨hk P _ (.inl rfl) h.cells, ⟨D, ?_, h2⟩, h.ready.keep fun g o hg ho => hk g o (.inr (.inr hg)) ho, h.ne, h.rp, h.rm, h.enr, h.fin⟩
  obtain ⟨es, clock, hb, r⟩ := h1
  exact ⟨es, clock, hk M _ (.inr (.inl rfl)) hb, r⟩
/-- The blocks of a queue. -/
def QEx (P M : Nat) (rv : Value) (k : Nat) : Prop := k = P ∨ k = M ∨ rv.ownBlock = some k
theorem QAt.out {w w' : World} {P M : Nat} {rv : Value} {en : Int} {s : FS} {ex : Nat → Prop} (h : QAt w P M rv en s) (ho : Out ex w w') (hn : ∀ k, QEx P M rv k → ¬ ex k) : QAt w' P M rv en s :=
  h.keep fun b _ hb hg => ho.get hg (hn b hb)
theorem QAt.dr {w w' : World} {P M : Nat} {rv : Value} {en : Int} {s : FS} (h : QAt w P M rv en s) (hd : Dr w w') : QAt w' P M rv en s :=
  h.out (ex := fun _ => False) (Out.of_dr hd) fun _ _ e => e
theorem QAt.below {w w' : World} {P M : Nat} {rv : Value} {en : Int} {s : FS} (h : QAt w P M rv en s) (hd : Below w.heap.size w w') : QAt w' P M rv en s :=
  h.out (ex := fun _ => False) (Out.of_below hd) fun _ _ e => e
theorem QAt.lt {w : World} {P M : Nat} {rv : Value} {en : Int} {s : FS} (h : QAt w P M rv en s) (k : Nat) (hk : QEx P M rv k) : k < w.heap.size := by
  rcases hk with rfl | rfl | hk
  · exact hget_lt h.cells
  · obtain ⟨D, h1, _⟩ := h.own; exact h1.lt
  · exact h.ready.lt hk

def lessB (x y : Nat) : Bool := decide (1 ≤ ((y : Int) - x) % 4294967296) && decide (((y : Int) - x) % 4294967296 ≤ 2147483647)
set_option maxHeartbeats 400000 in
theorem less_any (x y : Nat) (w : World) : Calls Try.prog 14 #[.int .u32 (x : Int), .int .u32 (y : Int)] w fun e w' => e = .returned (.bool (lessB x y)) ∧ w = w' := by
  go_enter Try.func14, Try.ntmps14
  go_wp2
  go_ret
  refine ⟨?_, rfl⟩
  have : decide (0 < wrap32 (((y : Int) - x) % 4294967296)) = lessB x y := by
    unfold lessB wrap32; rw [← Bool.decide_and]; exact decide_eq_decide.2 (by omega)
  simp only [← this]; rfl

set_option maxHeartbeats 400000 in
theorem in_any (x f n : Nat) (w : World) (hf : f < 4294967296) : Calls Try.prog 16 #[.int .u32 (x : Int), .int .u32 (f : Int), .int .u32 (n : Int)] w fun e w' => e = .returned (.bool (decide (ofs x f < n))) ∧ w = w' := by
  have h1 := ofs_int x f hf
  go_enter Try.func16, Try.ntmps16
  go_wp2
  go_ret
  exact ⟨rfl, rfl⟩

section
variable {w : World} {P M : Nat} {rv : Value} {en : Int} {s : FS}
set_option maxHeartbeats 400000 in
theorem window_any (hq : QAt w P M rv en s) (hs : Inv s) : Calls Try.prog 22 #[.pointer (some ⟨P, 0, none⟩)] w fun e w' => e = .returned (.int .i64 (s.win : Int)) ∧ Dr w w' := by
  have gP := hq.cells
  have cP0 : w.cell? ⟨P, 0, none⟩ = some (.int .u32 (s.next : Int)) := cell_at gP 0
  have cP1 : w.cell? ⟨P, 1, none⟩ = some (.int .i64 (s.size : Int)) := cell_at gP 1
  have cP2 : w.cell? ⟨P, 2, none⟩ = some rv := cell_at gP 2
  have cP3 : w.cell? ⟨P, 3, none⟩ = some (.map (some M)) := cell_at gP 3
  have cP4 : w.cell? ⟨P, 4, none⟩ = some (.bool s.hasEnd) := cell_at gP 4
  have cP5 : w.cell? ⟨P, 5, none⟩ = some (.int .u32 en) := cell_at gP 5
  have cP6 : w.cell? ⟨P, 6, none⟩ = some (.bool s.ended) := cell_at gP 6
  have fP := free_at gP
  obtain ⟨a, cap, rfl, _⟩ := hq.ready.shape
  have h1 := hs.room
  have h2 := hs.size
  go_enter Try.func22, Try.ntmps22
  go_wp2_with fail
  · go_ret
    refine ⟨?_, Dr.refl _⟩
    unfold FS.win
    simp only [*, if_true]
    rfl
  · go_quiet (fail)
    go_wp2
    go_ret
    refine ⟨?_, (Dr.refl _).drewN _⟩
    unfold FS.win
    simp only [*, Bool.false_eq_true, if_false]
    show Ending.returned (Value.int .i64 _) = _
    congr 2
    omega

set_option maxHeartbeats 400000 in
theorem next_any (hq : QAt w P M rv en s) : Calls Try.prog 12 #[.pointer (some ⟨P, 0, none⟩)] w fun e w' => e = .returned (.int .u32 (s.next : Int)) ∧ Dr w w' := by
  have gP := hq.cells
  have cP0 : w.cell? ⟨P, 0, none⟩ = some (.int .u32 (s.next : Int)) := cell_at gP 0
  have cP1 : w.cell? ⟨P, 1, none⟩ = some (.int .i64 (s.size : Int)) := cell_at gP 1
  have cP2 : w.cell? ⟨P, 2, none⟩ = some rv := cell_at gP 2
  have cP3 : w.cell? ⟨P, 3, none⟩ = some (.map (some M)) := cell_at gP 3
  have cP4 : w.cell? ⟨P, 4, none⟩ = some (.bool s.hasEnd) := cell_at gP 4
  have cP5 : w.cell? ⟨P, 5, none⟩ = some (.int .u32 en) := cell_at gP 5
  have cP6 : w.cell? ⟨P, 6, none⟩ = some (.bool s.ended) := cell_at gP 6
  have fP := free_at gP
  go_enter Try.func12, Try.ntmps12
  go_wp2
  go_ret
  exact ⟨rfl, Dr.refl _⟩

set_option maxHeartbeats 400000 in
theorem ended_any (hq : QAt w P M rv en s) : Calls Try.prog 9 #[.pointer (some ⟨P, 0, none⟩)] w fun e w' => e = .returned (.bool s.ended) ∧ Dr w w' := by
  have gP := hq.cells
  have cP0 : w.cell? ⟨P, 0, none⟩ = some (.int .u32 (s.next : Int)) := cell_at gP 0
  have cP1 : w.cell? ⟨P, 1, none⟩ = some (.int .i64 (s.size : Int)) := cell_at gP 1
  have cP2 : w.cell? ⟨P, 2, none⟩ = some rv := cell_at gP 2
  have cP3 : w.cell? ⟨P, 3, none⟩ = some (.map (some M)) := cell_at gP 3
  have cP4 : w.cell? ⟨P, 4, none⟩ = some (.bool s.hasEnd) := cell_at gP 4
  have cP5 : w.cell? ⟨P, 5, none⟩ = some (.int .u32 en) := cell_at gP 5
  have cP6 : w.cell? ⟨P, 6, none⟩ = some (.bool s.ended) := cell_at gP 6
  have fP := free_at gP
  go_enter Try.func9, Try.ntmps9
  go_wp2
  go_ret
  exact ⟨rfl, Dr.refl _⟩

set_option maxHeartbeats 400000 in
theorem ready_any (hq : QAt w P M rv en s) : Calls Try.prog 24 #[.pointer (some ⟨P, 0, none⟩)] w fun e w' => e = .returned (.int .i64 (s.ready.length : Int)) ∧ Dr w w' := by
  have gP := hq.cells
  have cP0 : w.cell? ⟨P, 0, none⟩ = some (.int .u32 (s.next : Int)) := cell_at gP 0
  have cP1 : w.cell? ⟨P, 1, none⟩ = some (.int .i64 (s.size : Int)) := cell_at gP 1
  have cP2 : w.cell? ⟨P, 2, none⟩ = some rv := cell_at gP 2
  have cP3 : w.cell? ⟨P, 3, none⟩ = some (.map (some M)) := cell_at gP 3
  have cP4 : w.cell? ⟨P, 4, none⟩ = some (.bool s.hasEnd) := cell_at gP 4
  have cP5 : w.cell? ⟨P, 5, none⟩ = some (.int .u32 en) := cell_at gP 5
  have cP6 : w.cell? ⟨P, 6, none⟩ = some (.bool s.ended) := cell_at gP 6
  have fP := free_at gP
  obtain ⟨a, cap, rfl, _⟩ := hq.ready.shape
  go_enter Try.func24, Try.ntmps24
  go_wp2
  go_ret
  exact ⟨rfl, Dr.refl _⟩

set_option maxHeartbeats 400000 in
theorem held_any (hq : QAt w P M rv en s) : Calls Try.prog 25 #[.pointer (some ⟨P, 0, none⟩)] w fun e w' => e = .returned (.int .i64 (s.cnt : Int)) ∧ Dr w w' := by
  have gP := hq.cells
  have cP0 : w.cell? ⟨P, 0, none⟩ = some (.int .u32 (s.next : Int)) := cell_at gP 0
  have cP1 : w.cell? ⟨P, 1, none⟩ = some (.int .i64 (s.size : Int)) := cell_at gP 1
  have cP2 : w.cell? ⟨P, 2, none⟩ = some rv := cell_at gP 2
  have cP3 : w.cell? ⟨P, 3, none⟩ = some (.map (some M)) := cell_at gP 3
  have cP4 : w.cell? ⟨P, 4, none⟩ = some (.bool s.hasEnd) := cell_at gP 4
  have cP5 : w.cell? ⟨P, 5, none⟩ = some (.int .u32 en) := cell_at gP 5
  have cP6 : w.cell? ⟨P, 6, none⟩ = some (.bool s.ended) := cell_at gP 6
  have fP := free_at gP
  obtain ⟨D, hown, hD⟩ := hq.own
  have hl := hown.len Try.underlying53 3
  rw [hD.size] at hl
  change _ = Result.ok (Value.int .i64 (s.cnt : Int)) w at hl
  go_enter Try.func25, Try.ntmps25
  go_wp2_with (at_len; refine wpList_len_own _ rfl _ 53 rfl 22 5 Try.underlying53 _ M _ D rfl hown ?_)
  go_ret
  refine ⟨?_, Dr.refl _⟩
  show Ending.returned (Value.int .i64 _) = _
  rw [hD.size]; rfl
end

/-! ### no queue -/
set_option maxHeartbeats 400000 in
theorem next_nil (w : World) : Calls Try.prog 12 #[.pointer none] w fun e w' => e = .returned (.int .u32 0) ∧ Dr w w' := by
  go_enter Try.func12, Try.ntmps12
  go_wp2
  go_ret
  exact ⟨rfl, Dr.refl _⟩
set_option maxHeartbeats 400000 in
theorem window_nil (w : World) : Calls Try.prog 22 #[.pointer none] w fun e w' => e = .returned (.int .i64 0) ∧ Dr w w' := by
  go_enter Try.func22, Try.ntmps22
  go_wp2
  go_ret
  exact ⟨rfl, Dr.refl _⟩
set_option maxHeartbeats 400000 in
theorem ended_nil (w : World) : Calls Try.prog 9 #[.pointer none] w fun e w' => e = .returned (.bool false) ∧ Dr w w' := by
  go_enter Try.func9, Try.ntmps9
  go_wp2
  go_ret
  exact ⟨rfl, Dr.refl _⟩
set_option maxHeartbeats 400000 in
theorem ready_nil (w : World) : Calls Try.prog 24 #[.pointer none] w fun e w' => e = .returned (.int .i64 0) ∧ Dr w w' := by
  go_enter Try.func24, Try.ntmps24
  go_wp2
  go_ret
  exact ⟨rfl, Dr.refl _⟩
set_option maxHeartbeats 400000 in
theorem held_nil (w : World) : Calls Try.prog 25 #[.pointer none] w fun e w' => e = .returned (.int .i64 0) ∧ Dr w w' := by
  go_enter Try.func25, Try.ntmps25
  go_wp2
  go_ret
  exact ⟨rfl, Dr.refl _⟩
set_option maxRecDepth 100000 in
set_option maxHeartbeats 400000 in
theorem put_nil (x : Int) (d : ByteArray) (f : Bool) (w : World) : Calls Try.prog 10 #[.pointer none, .int .u32 x, .string d, .bool f] w fun e w' => e = .returned (.bool false) ∧ Dr w w' := by
  go_enter Try.func10, Try.ntmps10
  go_wp2
  go_ret
  exact ⟨rfl, Dr.refl _⟩
set_option maxRecDepth 100000 in
set_option maxHeartbeats 400000 in
theorem read_nil (x : Int) (w : World) : Calls Try.prog 11 #[.pointer none, .int .i64 x] w fun e w' => e = .returned (.string ⟨#[]⟩) ∧ Dr w w' := by
  go_enter Try.func11, Try.ntmps11
  go_wp2_with fail
  refine bodyPost_ret (v := .string ⟨#[]⟩) (by simp [results, Try.results11, go_sem]) rfl ?_
  exact ⟨rfl, Dr.refl _⟩

/-! ### a new one -/
set_option maxHeartbeats 400000 in
theorem new_no (x n : Int) (w : World) (h : n < 1 ∨ 65536 < n) : Calls Try.prog 8 #[.int .u32 x, .int .i64 n] w fun e w' => e = .returned (.tuple #[.pointer none, .int .i64 2]) ∧ Dr w w' := by
  by_cases h1 : n < 1
  · have d1 : decide (n < 1) = true := decide_eq_true h1
    go_enter Try.func8, Try.ntmps8
    go_wp2
    go_ret2
    exact ⟨rfl, Dr.refl _⟩
  · have d1 : decide (n < 1) = false := decide_eq_false h1
    have d2 : decide (65536 < n) = true := decide_eq_true (by omega)
    go_enter Try.func8, Try.ntmps8
    go_wp2
    go_ret2
    exact ⟨rfl, Dr.refl _⟩
set_option maxHeartbeats 400000 in
theorem new_any (x n : Nat) (w : World) (hx : x < 4294967296) (h : 1 ≤ n ∧ n ≤ 65536) : Calls Try.prog 8 #[.int .u32 (x : Int), .int .i64 (n : Int)] w fun e w' => e = .returned (.tuple #[.pointer (some ⟨w.heap.size + 1, 0, none⟩), .int .i64 0]) ∧
    QAt w' (w.heap.size + 1) w.heap.size (.slice none 0 0) 0 (new x n) ∧ Below w.heap.size w w' := by
  have d1 : decide ((n : Int) < 1) = false := decide_eq_false (by omega)
  have d2 : decide (65536 < (n : Int)) = false := decide_eq_false (by omega)
  have hmm := @run_makeMap Try.prog
  go_enter Try.func8, Try.ntmps8
  go_wp2_with fail
  go_ret2
  obtain ⟨W1, hW1⟩ : ∃ W1, W1 = (w.alloc (.map #[] 0)).alloc (.cells #[.int .u32 (x : Int), .int .i64 (n : Int), .slice none 0 0, .map (some w.heap.size), .bool false, .int .u32 0, .bool false] 55) := ⟨_, rfl⟩
  have hm := World.ownsMap_made w Try.prog 22 (plainElem (H := Unit) Try.prog 5)
  have hm1 := hm.alloc (.cells #[.int .u32 (x : Int), .int .i64 (n : Int), .slice none 0 0, .map (some w.heap.size), .bool false, .int .u32 0, .bool false] 55)
  have hc : hget ((w.alloc (.map #[] 0)).alloc (.cells #[.int .u32 (x : Int), .int .i64 (n : Int), .slice none 0 0, .map (some w.heap.size), .bool false, .int .u32 0, .bool false] 55)) (w.heap.size + 1) = some (.cells #[.int .u32 (x : Int), .int .i64 (n : Int), .slice none 0 0, .map (some w.heap.size), .bool false, .int .u32 0, .bool false] 55 (0, 0)) := alloc_at' (by simp) _
  refine ⟨rfl, ⟨hc, ⟨.map [], hm1, fmap_new x (n + 1)⟩, OwnsQ.nil _, by omega, by simp [Value.ownBlock], by simp [Value.ownBlock], by omega, fun e => by cases e⟩, below_alloc (below_new _) _⟩

end Go.Proofs.Ytkmkgfgppblleaa
