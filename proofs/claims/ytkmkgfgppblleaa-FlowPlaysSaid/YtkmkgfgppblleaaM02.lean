/- The queue's small functions: what each answers. The queue's inner functions: free, moves. The queue's moves: what is held next is ready. The queue's Put. -/
import Derived.Test.YtkmkgfgppblleaaM01
import Derived.Maps.RangeWalk
namespace Go.Proofs.Ytkmkgfgppblleaa
open Go.RowKit FL

theorem u32law : Maps.Keyed Try.prog 22 := Maps.int_keyed Try.underlying22
theorem zero8 (w : World) : (zeroValue 5).run Try.prog w = .ok (.int .u8 0) w := by kernel_rfl

/-- The queue in memory: its struct at P, its map at M, what is ready by rv, the number of the end. -/
structure QAt (w : World) (P M : Nat) (rv : Value) (en : Int) (s : FS) : Prop where
  cells : hget w P = some (.cells #[.int .u32 (s.next : Int), .int .i64 (s.size : Int), rv, .map (some M), .bool s.hasEnd, .int .u32 en, .bool s.ended] 55 (0, 0))
  own : ∃ D, w.ownsMap Try.prog 22 (plainElem (H := Unit) Try.prog 5) M (Maps.size D) D ∧ FMap D s.next s.held
  ready : OwnsQ w rv s.ready
  ne : P ≠ M
  rp : rv.ownBlock ≠ some P
  rm : rv.ownBlock ≠ some M
  enr : 0 ≤ en ∧ en < 4294967296
  fin : s.hasEnd = true → s.ended = false → ∃ e : Nat, en = (e : Int) ∧ ofs e s.next = s.endo

theorem QAt.keep {w w' : World} {P M : Nat} {rv : Value} {en : Int} {s : FS} (h : QAt w P M rv en s) (hk : ∀ b o, (b = P ∨ b = M ∨ rv.ownBlock = some b) → hget w b = some o → hget w' b = some o) : QAt w' P M rv en s := by
  obtain ⟨D, h1, h2⟩ := h.own
  refine ⟨hk P _ (.inl rfl) h.cells, ⟨D, ?_, h2⟩, h.ready.keep fun g o hg ho => hk g o (.inr (.inr hg)) ho, h.ne, h.rp, h.rm, h.enr, h.fin⟩
  obtain ⟨es, clock, hb, r⟩ := h1
  exact ⟨es, clock, hk M _ (.inr (.inl rfl)) hb, r⟩
/-- The blocks of a queue. -/
def QEx (P M : Nat) (rv : Value) (k : Nat) : Prop := k = P ∨ k = M ∨ rv.ownBlock = some k
theorem QAt.out {w w' : World} {P M : Nat} {rv : Value} {en : Int} {s : FS} {ex : Nat → Prop} (h : QAt w P M rv en s) (ho : Out ex w w') (hn : ∀ k, QEx P M rv k → ¬ ex k) : QAt w' P M rv en s :=
  h.keep fun b _ hb hg => ho.get hg (hn b hb)
theorem QAt.dr {w w' : World} {P M : Nat} {rv : Value} {en : Int} {s : FS} (h : QAt w P M rv en s) (hd : Dr w w') : QAt w' P M rv en s :=
  h.out (ex := fun _ => False) (Out.of_dr hd) fun _ _ e => e
theorem QAt.below {w w' : World} {P M : Nat} {rv : Value} {en : Int} {s : FS} (h : QAt w P M rv en s) (hd : Below w.heap.size w w') : QAt w' P M rv en s :=
  h.out (ex := fun _ => False) (Out.of_below hd) fun _ _ e => e
theorem QAt.lt {w : World} {P M : Nat} {rv : Value} {en : Int} {s : FS} (h : QAt w P M rv en s) (k : Nat) (hk : QEx P M rv k) : k < w.heap.size := by
  rcases hk with rfl | rfl | hk
  · exact hget_lt h.cells
  · obtain ⟨D, h1, _⟩ := h.own; exact h1.lt
  · exact h.ready.lt hk

def lessB (x y : Nat) : Bool := decide (1 ≤ ((y : Int) - x) % 4294967296) && decide (((y : Int) - x) % 4294967296 ≤ 2147483647)
set_option maxHeartbeats 400000 in
theorem less_any (x y : Nat) (w : World) : Calls Try.prog 14 #[.int .u32 (x : Int), .int .u32 (y : Int)] w fun e w' => e = .returned (.bool (lessB x y)) ∧ w = w' := by
  go_enter Try.func14, Try.ntmps14
  go_wp2
  go_ret
  refine ⟨?_, rfl⟩
  have : decide (0 < wrap32 (((y : Int) - x) % 4294967296)) = lessB x y := by
    unfold lessB wrap32; rw [← Bool.decide_and]; exact decide_eq_decide.2 (by omega)
  simp only [← this]; rfl

set_option maxHeartbeats 400000 in
theorem in_any (x f n : Nat) (w : World) (hf : f < 4294967296) : Calls Try.prog 16 #[.int .u32 (x : Int), .int .u32 (f : Int), .int .u32 (n : Int)] w fun e w' => e = .returned (.bool (decide (ofs x f < n))) ∧ w = w' := by
  have h1 := ofs_int x f hf
  go_enter Try.func16, Try.ntmps16
  go_wp2
  go_ret
  exact ⟨rfl, rfl⟩

section
variable {w : World} {P M : Nat} {rv : Value} {en : Int} {s : FS}
set_option maxHeartbeats 400000 in
theorem window_any (hq : QAt w P M rv en s) (hs : Inv s) : Calls Try.prog 22 #[.pointer (some ⟨P, 0, none⟩)] w fun e w' => e = .returned (.int .i64 (s.win : Int)) ∧ Dr w w' := by
  have gP := hq.cells
  have cP0 : w.cell? ⟨P, 0, none⟩ = some (.int .u32 (s.next : Int)) := cell_at gP 0
  have cP1 : w.cell? ⟨P, 1, none⟩ = some (.int .i64 (s.size : Int)) := cell_at gP 1
  have cP2 : w.cell? ⟨P, 2, none⟩ = some rv := cell_at gP 2
  have cP3 : w.cell? ⟨P, 3, none⟩ = some (.map (some M)) := cell_at gP 3
  have cP4 : w.cell? ⟨P, 4, none⟩ = some (.bool s.hasEnd) := cell_at gP 4
  have cP5 : w.cell? ⟨P, 5, none⟩ = some (.int .u32 en) := cell_at gP 5
  have cP6 : w.cell? ⟨P, 6, none⟩ = some (.bool s.ended) := cell_at gP 6
  have fP := free_at gP
  obtain ⟨a, cap, rfl, _⟩ := hq.ready.shape
  have h1 := hs.room
  have h2 := hs.size
  go_enter Try.func22, Try.ntmps22
  go_wp2_with fail
  · go_ret
    refine ⟨?_, Dr.refl _⟩
    unfold FS.win
    simp only [*, if_true]
    rfl
  · go_quiet (fail)
    go_wp2
    go_ret
    refine ⟨?_, (Dr.refl _).drewN _⟩
    unfold FS.win
    simp only [*, Bool.false_eq_true, if_false]
    show Ending.returned (Value.int .i64 _) = _
    congr 2
    omega

set_option maxHeartbeats 400000 in
theorem next_any (hq : QAt w P M rv en s) : Calls Try.prog 12 #[.pointer (some ⟨P, 0, none⟩)] w fun e w' => e = .returned (.int .u32 (s.next : Int)) ∧ Dr w w' := by
  have gP := hq.cells
  have cP0 : w.cell? ⟨P, 0, none⟩ = some (.int .u32 (s.next : Int)) := cell_at gP 0
  have cP1 : w.cell? ⟨P, 1, none⟩ = some (.int .i64 (s.size : Int)) := cell_at gP 1
  have cP2 : w.cell? ⟨P, 2, none⟩ = some rv := cell_at gP 2
  have cP3 : w.cell? ⟨P, 3, none⟩ = some (.map (some M)) := cell_at gP 3
  have cP4 : w.cell? ⟨P, 4, none⟩ = some (.bool s.hasEnd) := cell_at gP 4
  have cP5 : w.cell? ⟨P, 5, none⟩ = some (.int .u32 en) := cell_at gP 5
  have cP6 : w.cell? ⟨P, 6, none⟩ = some (.bool s.ended) := cell_at gP 6
  have fP := free_at gP
  go_enter Try.func12, Try.ntmps12
  go_wp2
  go_ret
  exact ⟨rfl, Dr.refl _⟩

set_option maxHeartbeats 400000 in
theorem ended_any (hq : QAt w P M rv en s) : Calls Try.prog 9 #[.pointer (some ⟨P, 0, none⟩)] w fun e w' => e = .returned (.bool s.ended) ∧ Dr w w' := by
  have gP := hq.cells
  have cP0 : w.cell? ⟨P, 0, none⟩ = some (.int .u32 (s.next : Int)) := cell_at gP 0
  have cP1 : w.cell? ⟨P, 1, none⟩ = some (.int .i64 (s.size : Int)) := cell_at gP 1
  have cP2 : w.cell? ⟨P, 2, none⟩ = some rv := cell_at gP 2
  have cP3 : w.cell? ⟨P, 3, none⟩ = some (.map (some M)) := cell_at gP 3
  have cP4 : w.cell? ⟨P, 4, none⟩ = some (.bool s.hasEnd) := cell_at gP 4
  have cP5 : w.cell? ⟨P, 5, none⟩ = some (.int .u32 en) := cell_at gP 5
  have cP6 : w.cell? ⟨P, 6, none⟩ = some (.bool s.ended) := cell_at gP 6
  have fP := free_at gP
  go_enter Try.func9, Try.ntmps9
  go_wp2
  go_ret
  exact ⟨rfl, Dr.refl _⟩

set_option maxHeartbeats 400000 in
theorem ready_any (hq : QAt w P M rv en s) : Calls Try.prog 24 #[.pointer (some ⟨P, 0, none⟩)] w fun e w' => e = .returned (.int .i64 (s.ready.length : Int)) ∧ Dr w w' := by
  have gP := hq.cells
  have cP0 : w.cell? ⟨P, 0, none⟩ = some (.int .u32 (s.next : Int)) := cell_at gP 0
  have cP1 : w.cell? ⟨P, 1, none⟩ = some (.int .i64 (s.size : Int)) := cell_at gP 1
  have cP2 : w.cell? ⟨P, 2, none⟩ = some rv := cell_at gP 2
  have cP3 : w.cell? ⟨P, 3, none⟩ = some (.map (some M)) := cell_at gP 3
  have cP4 : w.cell? ⟨P, 4, none⟩ = some (.bool s.hasEnd) := cell_at gP 4
  have cP5 : w.cell? ⟨P, 5, none⟩ = some (.int .u32 en) := cell_at gP 5
  have cP6 : w.cell? ⟨P, 6, none⟩ = some (.bool s.ended) := cell_at gP 6
  have fP := free_at gP
  obtain ⟨a, cap, rfl, _⟩ := hq.ready.shape
  go_enter Try.func24, Try.ntmps24
  go_wp2
  go_ret
  exact ⟨rfl, Dr.refl _⟩

set_option maxHeartbeats 400000 in
theorem held_any (hq : QAt w P M rv en s) : Calls Try.prog 25 #[.pointer (some ⟨P, 0, none⟩)] w fun e w' => e = .returned (.int .i64 (s.cnt : Int)) ∧ Dr w w' := by
  have gP := hq.cells
  have cP0 : w.cell? ⟨P, 0, none⟩ = some (.int .u32 (s.next : Int)) := cell_at gP 0
  have cP1 : w.cell? ⟨P, 1, none⟩ = some (.int .i64 (s.size : Int)) := cell_at gP 1
  have cP2 : w.cell? ⟨P, 2, none⟩ = some rv := cell_at gP 2
  have cP3 : w.cell? ⟨P, 3, none⟩ = some (.map (some M)) := cell_at gP 3
  have cP4 : w.cell? ⟨P, 4, none⟩ = some (.bool s.hasEnd) := cell_at gP 4
  have cP5 : w.cell? ⟨P, 5, none⟩ = some (.int .u32 en) := cell_at gP 5
  have cP6 : w.cell? ⟨P, 6, none⟩ = some (.bool s.ended) := cell_at gP 6
  have fP := free_at gP
  obtain ⟨D, hown, hD⟩ := hq.own
  have hl := hown.len Try.underlying53 3
  rw [hD.size] at hl
  change _ = Result.ok (Value.int .i64 (s.cnt : Int)) w at hl
  go_enter Try.func25, Try.ntmps25
  go_wp2_with (at_len; refine wpList_len_own _ rfl _ 53 rfl 22 5 Try.underlying53 _ M _ D rfl hown ?_)
  go_ret
  refine ⟨?_, Dr.refl _⟩
  show Ending.returned (Value.int .i64 _) = _
  rw [hD.size]; rfl
end

/-! ### no queue -/
set_option maxHeartbeats 400000 in
theorem next_nil (w : World) : Calls Try.prog 12 #[.pointer none] w fun e w' => e = .returned (.int .u32 0) ∧ Dr w w' := by
  go_enter Try.func12, Try.ntmps12
  go_wp2
  go_ret
  exact ⟨rfl, Dr.refl _⟩
set_option maxHeartbeats 400000 in
theorem window_nil (w : World) : Calls Try.prog 22 #[.pointer none] w fun e w' => e = .returned (.int .i64 0) ∧ Dr w w' := by
  go_enter Try.func22, Try.ntmps22
  go_wp2
  go_ret
  exact ⟨rfl, Dr.refl _⟩
set_option maxHeartbeats 400000 in
theorem ended_nil (w : World) : Calls Try.prog 9 #[.pointer none] w fun e w' => e = .returned (.bool false) ∧ Dr w w' := by
  go_enter Try.func9, Try.ntmps9
  go_wp2
  go_ret
  exact ⟨rfl, Dr.refl _⟩
set_option maxHeartbeats 400000 in
theorem ready_nil (w : World) : Calls Try.prog 24 #[.pointer none] w fun e w' => e = .returned (.int .i64 0) ∧ Dr w w' := by
  go_enter Try.func24, Try.ntmps24
  go_wp2
  go_ret
  exact ⟨rfl, Dr.refl _⟩
set_option maxHeartbeats 400000 in
theorem held_nil (w : World) : Calls Try.prog 25 #[.pointer none] w fun e w' => e = .returned (.int .i64 0) ∧ Dr w w' := by
  go_enter Try.func25, Try.ntmps25
  go_wp2
  go_ret
  exact ⟨rfl, Dr.refl _⟩
set_option maxRecDepth 100000 in
set_option maxHeartbeats 400000 in
theorem put_nil (x : Int) (d : ByteArray) (f : Bool) (w : World) : Calls Try.prog 10 #[.pointer none, .int .u32 x, .string d, .bool f] w fun e w' => e = .returned (.bool false) ∧ Dr w w' := by
  go_enter Try.func10, Try.ntmps10
  go_wp2
  go_ret
  exact ⟨rfl, Dr.refl _⟩
set_option maxRecDepth 100000 in
set_option maxHeartbeats 400000 in
theorem read_nil (x : Int) (w : World) : Calls Try.prog 11 #[.pointer none, .int .i64 x] w fun e w' => e = .returned (.string ⟨#[]⟩) ∧ Dr w w' := by
  go_enter Try.func11, Try.ntmps11
  go_wp2_with fail
  refine bodyPost_ret (v := .string ⟨#[]⟩) (by simp [results, Try.results11, go_sem]) rfl ?_
  exact ⟨rfl, Dr.refl _⟩

/-! ### a new one -/
set_option maxHeartbeats 400000 in
theorem new_no (x n : Int) (w : World) (h : n < 1 ∨ 65536 < n) : Calls Try.prog 8 #[.int .u32 x, .int .i64 n] w fun e w' => e = .returned (.tuple #[.pointer none, .int .i64 2]) ∧ Dr w w' := by
  by_cases h1 : n < 1
  · have d1 : decide (n < 1) = true := decide_eq_true h1
    go_enter Try.func8, Try.ntmps8
    go_wp2
    go_ret2
    exact ⟨rfl, Dr.refl _⟩
  · have d1 : decide (n < 1) = false := decide_eq_false h1
    have d2 : decide (65536 < n) = true := decide_eq_true (by omega)
    go_enter Try.func8, Try.ntmps8
    go_wp2
    go_ret2
    exact ⟨rfl, Dr.refl _⟩
set_option maxHeartbeats 400000 in
theorem new_any (x n : Nat) (w : World) (_hx : x < 4294967296) (h : 1 ≤ n ∧ n ≤ 65536) : Calls Try.prog 8 #[.int .u32 (x : Int), .int .i64 (n : Int)] w fun e w' => e = .returned (.tuple #[.pointer (some ⟨w.heap.size + 1, 0, none⟩), .int .i64 0]) ∧
    QAt w' (w.heap.size + 1) w.heap.size (.slice none 0 0) 0 (new x n) ∧ Below w.heap.size w w' := by
  have d1 : decide ((n : Int) < 1) = false := decide_eq_false (by omega)
  have d2 : decide (65536 < (n : Int)) = false := decide_eq_false (by omega)
  have hmm := @run_makeMap Try.prog
  go_enter Try.func8, Try.ntmps8
  go_wp2_with fail
  go_ret2
  obtain ⟨W1, hW1⟩ : ∃ W1, W1 = (w.alloc (.map #[] 0)).alloc (.cells #[.int .u32 (x : Int), .int .i64 (n : Int), .slice none 0 0, .map (some w.heap.size), .bool false, .int .u32 0, .bool false] 55) := ⟨_, rfl⟩
  have hm := World.ownsMap_made w Try.prog 22 (plainElem (H := Unit) Try.prog 5)
  have hm1 := hm.alloc (.cells #[.int .u32 (x : Int), .int .i64 (n : Int), .slice none 0 0, .map (some w.heap.size), .bool false, .int .u32 0, .bool false] 55)
  have hc : hget ((w.alloc (.map #[] 0)).alloc (.cells #[.int .u32 (x : Int), .int .i64 (n : Int), .slice none 0 0, .map (some w.heap.size), .bool false, .int .u32 0, .bool false] 55)) (w.heap.size + 1) = some (.cells #[.int .u32 (x : Int), .int .i64 (n : Int), .slice none 0 0, .map (some w.heap.size), .bool false, .int .u32 0, .bool false] 55 (0, 0)) := alloc_at' (by simp) _
  refine ⟨rfl, ⟨hc, ⟨.map [], hm1, fmap_new x (n + 1)⟩, OwnsQ.nil _, by omega, by simp [Value.ownBlock], by simp [Value.ownBlock], by omega, fun e => by cases e⟩, below_alloc (below_new _) _⟩

end Go.Proofs.Ytkmkgfgppblleaa

namespace Go.Proofs.Ytkmkgfgppblleaa
open Go.RowKit FL

theorem key_wf {x : Int} (h : (Lit.int .u32 x).wf = true) : ∃ y : Nat, x = (y : Int) ∧ y < 4294967296 := by
  have h0 : 0 ≤ x ∧ x < 4294967296 := by
    simp [Lit.wf, IntKind.min, IntKind.max, IntKind.signed, IntKind.bits] at h
    omega
  obtain ⟨y, rfl⟩ := Int.eq_ofNat_of_zero_le h0.1
  exact ⟨y, rfl, by omega⟩
/-- The number that stands so far behind. -/
def at' (n i : Nat) : Nat := (n + i) % 4294967296
theorem ofs_at {n i : Nat} (hn : n < 4294967296) (hi : i < 4294967296) : ofs (at' n i) n = i := by unfold at'; unfold ofs; omega
theorem at_lt (n i : Nat) : at' n i < 4294967296 := Nat.mod_lt _ (by decide)

section
variable {w : World} {P M : Nat} {rv : Value} {en : Int} {s : FS}
set_option maxHeartbeats 1000000 in
theorem free_any (hq : QAt w P M rv en s) (hs : Inv s) (e : Nat) (_he : e < 4294967296) : Calls Try.prog 27 #[.pointer (some ⟨P, 0, none⟩), .int .u32 (e : Int)] w fun r w' => r = .returned (.bool ((s.held.drop (ofs e s.next)).all Option.isNone)) ∧ Below w.heap.size w w' := by
  have gP := hq.cells
  have cP0 : w.cell? ⟨P, 0, none⟩ = some (.int .u32 (s.next : Int)) := cell_at gP 0
  have cP1 : w.cell? ⟨P, 1, none⟩ = some (.int .i64 (s.size : Int)) := cell_at gP 1
  have cP2 : w.cell? ⟨P, 2, none⟩ = some rv := cell_at gP 2
  have cP3 : w.cell? ⟨P, 3, none⟩ = some (.map (some M)) := cell_at gP 3
  have cP4 : w.cell? ⟨P, 4, none⟩ = some (.bool s.hasEnd) := cell_at gP 4
  have cP5 : w.cell? ⟨P, 5, none⟩ = some (.int .u32 en) := cell_at gP 5
  have cP6 : w.cell? ⟨P, 6, none⟩ = some (.bool s.ended) := cell_at gP 6
  have fP := free_at gP
  obtain ⟨D, hown, hD⟩ := hq.own
  have hnx := hs.next
  have h1 := ofs_int e s.next hnx
  have hPw := hget_lt gP
  have HQ := hid hq
  have HS := hid hs
  clear hq hs
  go_enter Try.func27, Try.ntmps27
  go_wp2_with (first | (at_range; refine wpList_range_own _ rfl _ 53 rfl 22 5 u32law Try.underlying53 _ M _ D rfl hown ?_; intro w0 hrg0 hg0 hs0) | fail)
  go_frame
  have hb0 : Below w.heap.size w w0 := ⟨hg0.os, hg0.tape, hg0.output, hg0.size, fun k hk => hg0.block k hk (by simp)⟩
  clear cP0 cP1 cP2 cP3 cP4 cP5 cP6 fP
  go_loopw [5] (fun _ wr => ∃ left cnt, wr.ranges Try.prog 22 (plainElem (H := Unit) Try.prog 5) M w.heap.size (Maps.size D) D left cnt ∧ (∀ x, x < 4294967296 → Maps.has D (key x) = true → left (key x) = false → ofs x s.next < ofs e s.next) ∧ Below w.heap.size w wr) (fun _ wr => wr.rangeLeft M w.heap.size)
  case atStart => exact ⟨_, _, hrg0, fun x _ h h' => absurd h (by rw [h']; exact Bool.noConfusion), hb0⟩
  case round =>
    obtain ⟨left, cnt, hrg, hall, hb⟩ := hrel
    clear hrg0 hg0 hs0 hb0
    have gr : hget wr P = _ := (hb.block P hPw).trans gP
    have HALL := hid hall
    have HD := hid hD
    clear hall hD
    go_wp2_with (first | (at_next; refine wpList_next_ranges_ii _ rfl _ rfl 22 5 .u32 .u8 u32law Try.underlying22 Try.underlying5 M w.heap.size (Maps.size D) _ _ _ rfl hrg ?_ ?_) | fail)
    · intro _ hl0
      go_wp2_with fail
      go_ret
      refine ⟨?_, hb⟩
      show Ending.returned (Value.bool true) = _
      have : (s.held.drop (ofs e s.next)).all Option.isNone = true := by
        refine List.all_eq_true.2 fun y hy => ?_
        obtain ⟨j, hj, rfl⟩ := List.mem_iff_getElem.1 hy
        rw [List.length_drop] at hj
        rw [List.getElem_drop]
        have hlen := HS.out.len
        have hz := HS.out.size
        cases hc : s.held[ofs e s.next + j] with
        | none => rfl
        | some c =>
          have hi : ofs e s.next + j < 4294967296 := by omega
          have h2 := HD.out.has (at' s.next (ofs e s.next + j)) (at_lt _ _)
          rw [ofs_at HS.out.next hi, List.getD_eq_getElem?_getD, List.getElem?_eq_getElem (by omega), hc] at h2
          have := HALL.out _ (at_lt _ _) h2 (hl0 _)
          rw [ofs_at HS.out.next hi] at this
          omega
      rw [this]
    · intro x c w1 cnt1 hwx hwc hlx hat hrg1 hlt hg1 hs1 hen
      have g1 : hget w1 P = _ := hget_grown gr hg1 (by simp; omega)
      have b1 : Below w.heap.size w w1 := hb.trans ⟨hg1.os, hg1.tape, hg1.output, hg1.size, fun k hk => hg1.block k (Nat.lt_of_lt_of_le hk hb.size) (by simp; omega)⟩
      have c0 : w1.cell? ⟨P, 0, none⟩ = some (.int .u32 (s.next : Int)) := cell_at g1 0
      obtain ⟨x, rfl, hx⟩ := key_wf hwx
      have h2 := ofs_int x s.next hnx
      have HAT := hid hat
      have HG := hid hg1
      have HLX := hid hlx
      clear hat hg1 hlx
      go_wp2_with fail
      by_cases hge : ofs e s.next ≤ ofs x s.next
      · have d1 : decide (ofs e s.next ≤ ofs x s.next) = true := decide_eq_true hge
        go_quiet (fail)
        go_wp2_with fail
        go_ret
        refine ⟨?_, (b1.trans (Dr.below ⟨_, rfl⟩))⟩
        show Ending.returned (Value.bool false) = _
        have : (s.held.drop (ofs e s.next)).all Option.isNone = false := by
          cases ha : (s.held.drop (ofs e s.next)).all Option.isNone
          · rfl
          · have h3 := HD.out.has x hx
            have h4 : Maps.has D (key x) = true := Maps.has_true_of_atKey HAT.out
            rw [h4] at h3
            have := all_none ha _ h3.symm
            omega
        rw [this]
      · have d1 : decide (ofs e s.next ≤ ofs x s.next) = false := decide_eq_false hge
        go_quiet (fail)
        go_wp2_with fail
        refine ⟨⟨_, _, hrg1.kept (row := none) ⟨rfl, rfl, rfl, Nat.le_refl _, fun _ _ _ => rfl⟩ (by simp) (by simp), fun y hy hhas hleft => ?_, (b1.trans (Dr.below ⟨_, rfl⟩))⟩, ?_⟩
        · by_cases hyx : y = x
          · subst hyx; omega
          · refine HALL.out y hy hhas ?_
            have h3 : (key y).sameKey (Lit.int .u32 (x : Int)) = false := Maps.sameKey_ne (key_ne hyx)
            simpa [h3] using hleft
        · show w1.rangeLeft M w.heap.size < wr.rangeLeft M w.heap.size
          rw [hrg1.left_eq, hrg.left_eq]; exact hlt
end
end Go.Proofs.Ytkmkgfgppblleaa

namespace Go.Proofs.Ytkmkgfgppblleaa
open Go.RowKit FL

namespace FL
/-- Behind k bytes that were moved. -/
def mid (s : FS) (k : Nat) : FS := { s with next := at' s.next k, ready := s.ready ++ bytes (s.held.take k), held := s.held.drop k, endo := s.endo - k }
theorem ofs_step {e n m k : Nat} (he : e < 4294967296) (hn : n < 4294967296) (h : ofs e n = m) (hk : k ≤ m) : ofs e (at' n k) = m - k := by unfold at'; unfold ofs at *; omega
theorem ofs_zero {e n : Nat} (he : e < 4294967296) (hn : n < 4294967296) : ofs e n = 0 ↔ e = n := by unfold ofs; omega
theorem at_succ {n k : Nat} : at' n (k + 1) = (at' n k + 1) % 4294967296 := by unfold at'; omega
theorem at_zero {n : Nat} (hn : n < 4294967296) : at' n 0 = n := by unfold at'; omega
theorem bytes_snoc {l : List (Option UInt8)} {k : Nat} {c : UInt8} (h : l.getD k none = some c) : bytes (l.take (k + 1)) = bytes (l.take k) ++ [c] := by
  have hk : k < l.length := getD_some (by rw [h]; rfl)
  rw [List.getD_eq_getElem?_getD, List.getElem?_eq_getElem hk] at h
  rw [List.take_succ_eq_append_getElem hk]
  unfold bytes
  rw [List.filterMap_append]
  congr 1
  simp only [List.filterMap_cons, List.filterMap_nil, id]
  rw [show l[k] = some c from h]
theorem drop_cons {l : List (Option UInt8)} {k : Nat} {c : UInt8} (h : l.getD k none = some c) : l.drop k = some c :: l.drop (k + 1) := by
  have hk : k < l.length := getD_some (by rw [h]; rfl)
  rw [List.getD_eq_getElem?_getD, List.getElem?_eq_getElem hk] at h
  rw [List.drop_eq_getElem_cons hk, show l[k] = some c from h]
end FL

/-- What a look-up hands back. -/
def byteAt : Option UInt8 → Int
  | some c => (c.toNat : Int)
  | none => 0
theorem look_run {w : World} {M n nx : Nat} {D : Dt} {l : List (Option UInt8)} (hown : w.ownsMap Try.prog 22 (plainElem (H := Unit) Try.prog 5) M n D) (hD : FMap D nx l) {x : Nat} (hx : x < 4294967296) :
    (Instr.lookup 53 (.map (some M)) (.int .u32 (x : Int)) true).run Try.prog w = .ok (.tuple #[.int .u8 (byteAt (l.getD (ofs x nx) none)), .bool (l.getD (ofs x nx) none).isSome]) w := by
  have hkw : (Lit.int .u32 (x : Int)).wf = true := WalkArith.wf_u32 (by omega)
  obtain ⟨v, ps, hrun, hv⟩ := hown.look_ok u32law Try.underlying53 (zero8 _) (plainElem_int Try.underlying5 (by decide)) (Maps.keyOf_int_mk Try.underlying22 hkw)
  change (Instr.lookup _ _ _ _).run _ _ = .ok (.tuple #[v, .bool (Maps.has D (key x))]) _ at hrun
  change plainElem _ _ v = some (D.atKey (key x) _, ps) at hv
  rw [hD.has x hx] at hrun
  rw [hrun]
  cases hc : l.getD (ofs x nx) none with
  | some c =>
    rw [hD.val x c hx hc] at hv
    obtain ⟨a, rfl, ha, _⟩ := plainElem_int_inv Try.underlying5 hv
    simp only [Prod.mk.injEq, DataW.lit.injEq, Lit.int.injEq, true_and] at ha
    rw [← ha.1]; rfl
  | none =>
    rw [Maps.atKey_of_not_has (by rw [hD.has x hx, hc]; rfl)] at hv
    obtain ⟨a, rfl, ha, _⟩ := plainElem_int_inv Try.underlying5 hv
    simp only [Prod.mk.injEq, DataW.lit.injEq, Lit.int.injEq, true_and] at ha
    rw [← ha.1]; rfl

theorem World.ownsMap.fit_size {H : Type} {P : Program} {k : TypeId} {R : Value → Option (DataW H × List MemPlace)} {w : World} {b n : Nat} {D : DataW H} (h : w.ownsMap P k R b n D) : w.ownsMap P k R b (Maps.size D) D := by
  obtain ⟨es, clock, hb, F, _, rfl⟩ := h
  have e1 : Maps.size (DataW.map ((es.toList.map (WideElems.rg P k R)).foldr DataW.insert [])) = es.size := by simp [Maps.size, length_sorted]
  exact ⟨es, clock, hb, F, by rw [e1]; exact Nat.le_refl _, rfl⟩

/-- The bytes' row lies where it lay, or in a new block. -/
def Near (w : World) (rv rv' : Value) : Prop := rv'.ownBlock = rv.ownBlock ∨ ∃ g, rv'.ownBlock = some g ∧ w.heap.size ≤ g

section
variable {w : World} {P M : Nat} {rv : Value} {en : Int} {s : FS}
set_option maxHeartbeats 2000000 in
theorem moves_any (hq : QAt w P M rv en s) (hs : Inv s) (hne : s.ended = false) : Calls Try.prog 28 #[.pointer (some ⟨P, 0, none⟩)] w fun r w' => r = .returned (.tuple #[]) ∧ ∃ rv', QAt w' P M rv' en (FL.move s) ∧ Out (QEx P M rv) w w' ∧ Near w rv rv' := by
  have HQ := hid hq
  have HS := hid hs
  have hPw := hget_lt hq.cells
  have hMw := hq.lt M (.inr (.inl rfl))
  have hln := lead_le s.held
  have hb := lead_some s.held
  have hstop := lead_stop s.held
  generalize hn : lead s.held = n at *
  have q0 : QAt w P M rv en (mid s 0) := by
    have : mid s 0 = s := by unfold mid; rw [at_zero hs.next]; simp [FL.bytes]
    rw [this]; exact hq
  clear hq
  go_enter Try.func28, Try.ntmps28
  go_wp2_with fail
  go_loopg [] (n + 1) (fun g wr => ∃ (k : Nat) (rk : Value), k + g = n + 1 ∧ 0 < g ∧ QAt wr P M rk en (mid s k) ∧ Out (QEx P M rv) w wr ∧ Near w rv rk)
  case atStart => exact ⟨0, rv, by omega, by omega, q0, Out.refl _ _, .inl rfl⟩
  case round =>
    obtain ⟨k, rk, hk, hg, hq, ho, hnear⟩ := hrel
    have hk' : k ≤ n := by omega
    have gP : hget wr P = some (.cells #[.int .u32 ((at' s.next k : Nat) : Int), .int .i64 (s.size : Int), rk, .map (some M), .bool s.hasEnd, .int .u32 en, .bool s.ended] 55 (0, 0)) := hq.cells
    rw [hne] at gP
    have cP0 : wr.cell? ⟨P, 0, none⟩ = some (.int .u32 _) := cell_at gP 0
    have cP1 : wr.cell? ⟨P, 1, none⟩ = some (.int .i64 _) := cell_at gP 1
    have cP2 : wr.cell? ⟨P, 2, none⟩ = some _ := cell_at gP 2
    have cP3 : wr.cell? ⟨P, 3, none⟩ = some (.map (some M)) := cell_at gP 3
    have cP4 : wr.cell? ⟨P, 4, none⟩ = some (.bool _) := cell_at gP 4
    have cP5 : wr.cell? ⟨P, 5, none⟩ = some (.int .u32 _) := cell_at gP 5
    have cP6 : wr.cell? ⟨P, 6, none⟩ = some (.bool _) := cell_at gP 6
    have fP := free_at gP
    obtain ⟨D, hown, hD⟩ := hq.own
    change FMap D (at' s.next k) (s.held.drop k) at hD
    have hnk := at_lt s.next k
    have e0 : (s.held.drop k).getD (ofs (at' s.next k) (at' s.next k)) none = s.held.getD k none := by
      rw [ofs_self hnk]
      simp only [List.getD_eq_getElem?_getD, List.getElem?_drop, Nat.add_zero]
    have hrun := fun nq => look_run (w := wr.drewN nq) (hown.kept (row := none) ⟨rfl, rfl, rfl, Nat.le_refl _, fun _ _ _ => rfl⟩ (by simp)) hD hnk
    rw [e0] at hrun
    by_cases hkn : k < n
    · obtain ⟨c, hc⟩ := Option.isSome_iff_exists.1 (hb k hkn)
      rw [hc] at hrun
      simp only [byteAt, Option.isSome_some] at hrun
      have HD := hid hD
      have HOWN := hid hown
      have HQK := hid hq
      have HO := hid ho
      have HNE := hid hnear
      clear hD hown hq ho hnear e0
      go_wp2_with fail
      go_quiet (fail)
      go_wp2_with fail
      refine still_tail 8 (by kernel_rfl) (by kernel_rfl) ?_
      simp only [List.take_succ_cons, List.take_zero, List.drop_succ_cons, List.drop_zero]
      repeat (first | (refine wpStill_step (fun K hK => ?_); go_simp; refine hK _ ?_; clear hK K; try go_ints))
      refine wpStill_nil ?_
      have hown' := HOWN.out.kept (w' := (wr.drewN nq).drew) (row := none) ⟨rfl, rfl, rfl, Nat.le_refl _, fun _ _ _ => rfl⟩ (by simp)
      refine wpList_delete_own _ rfl _ _ 53 22 rfl 5 u32law Try.underlying53 _ M _ D rfl hown' _ _ rfl (Maps.keyOf_int_mk Try.underlying22 (WalkArith.wf_u32 (by omega))) ?_
      intro w1 hown1 hturn1
      have hPM := HQ.out.ne
      have hg1 := hturn1.grown
      have g1 : hget w1 P = _ := hget_grown (show hget (wr.drewN nq).drew P = _ from gP) hg1 (by simp; exact hPM)
      have hrd : OwnsQ (w1.alloc (.cells #[.int .u8 (c.toNat : Int)] 5)) rk (s.ready ++ FL.bytes (s.held.take k)) :=
        HQK.out.ready.keep fun g o hg ho => hget_grown (hget_grown (show hget (wr.drewN nq).drew g = _ from ho) hg1 (by rintro e; injection e with e; subst e; exact HQK.out.rm hg)) (World.grownBy_alloc w1 _ none) (by simp)
      have HOWN1 := hid hown1
      have HTURN := hid hturn1
      have HG1 := hid hg1
      have HRD := hid hrd
      clear hown1 hturn1 hg1 hrd hown' hrun cP0 cP1 cP2 cP3 cP4 cP5 cP6 fP
      have cP0 : w1.cell? ⟨P, 0, none⟩ = some (.int .u32 _) := cell_at g1 0
      have cP1 : w1.cell? ⟨P, 1, none⟩ = some (.int .i64 _) := cell_at g1 1
      have cP2 : w1.cell? ⟨P, 2, none⟩ = some _ := cell_at g1 2
      have cP3 : w1.cell? ⟨P, 3, none⟩ = some (.map (some M)) := cell_at g1 3
      have cP4 : w1.cell? ⟨P, 4, none⟩ = some (.bool _) := cell_at g1 4
      have cP5 : w1.cell? ⟨P, 5, none⟩ = some (.int .u32 _) := cell_at g1 5
      have cP6 : w1.cell? ⟨P, 6, none⟩ = some (.bool _) := cell_at g1 6
      have fP := free_at g1
      have hsrc := Src.ofSlice (P := Try.prog) (size := 1) (w := w1.alloc (.cells #[.int .u8 (c.toNat : Int)] 5)) Try.underlying24 ⟨w1.heap.size, 0, none⟩ 1 1 (u8s [c]) rfl (cell_one_new _ _ _) (by simp [u8s, Value.oneCell'])
      obtain ⟨i0, hi, hz0, hz1, hz2⟩ := info_parts info_u8
      have HSRC := hid hsrc
      have hln1 := HS.out.room
      clear hsrc
      go_wp2_with (at_builtin; refine wpList_append_Q rfl _ _ 24 24 rfl i0 Try.underlying24 hi hz0 hz1 hz2 _ _ rfl rfl _ [c] HRD.out HSRC.out (Nat.succ_pos 0) ?ca ?_)
      case ca =>
        have h1 := HS.out.len
        have h2 := HS.out.size
        have h3 : (FL.bytes (s.held.take k)).length ≤ s.held.length := by
          unfold FL.bytes
          exact Nat.le_trans (List.length_filterMap_le _ _) (by rw [List.length_take]; omega)
        simp only [List.length_append, List.length_cons, List.length_nil]
        omega
      intro v' w2 hq2 hg2 hn2
      obtain ⟨va, vl, vc, hvs⟩ : ∃ a n c, v' = .slice a n c := by obtain ⟨a, c, h, _⟩ := hq2.shape; exact ⟨_, _, _, h⟩
      subst hvs
      have hrkP : rk.ownBlock ≠ some P := HQK.out.rp
      have hrkM : rk.ownBlock ≠ some M := HQK.out.rm
      have g2 : hget w2 P = _ := hget_grown (hget_grown g1 (World.grownBy_alloc w1 (.cells #[.int .u8 (c.toNat : Int)] 5) none) (by simp)) hg2 (fun e => hrkP e.symm)
      have hv' : (Value.slice va vl vc).ownBlock = rk.ownBlock ∨ (Value.slice va vl vc).ownBlock = some (w1.heap.size + 1) := by
        rcases hn2 with h | h
        · exact .inl h
        · right; exact h
      have hw1 : w.heap.size ≤ w1.heap.size := Nat.le_trans HO.out.size HG1.out.size
      have hvP : (Value.slice va vl vc).ownBlock ≠ some P := by
        rcases hv' with h | h <;> rw [h]
        · exact hrkP
        · simp; omega
      have hvM : (Value.slice va vl vc).ownBlock ≠ some M := by
        rcases hv' with h | h <;> rw [h]
        · exact hrkM
        · simp; omega
      have HQ2 := hid hq2
      have HG2 := hid hg2
      have HV := hid hv'
      have HVP := hid hvP
      have HVM := hid hvM
      clear hq2 hg2 hn2 hv' hvP hvM hrkP hrkM cP0 cP1 cP2 cP3 cP4 cP5 cP6 fP
      have cP0 : w2.cell? ⟨P, 0, none⟩ = some (.int .u32 _) := cell_at g2 0
      have cP1 : w2.cell? ⟨P, 1, none⟩ = some (.int .i64 _) := cell_at g2 1
      have cP2 : w2.cell? ⟨P, 2, none⟩ = some _ := cell_at g2 2
      have cP3 : w2.cell? ⟨P, 3, none⟩ = some (.map (some M)) := cell_at g2 3
      have cP4 : w2.cell? ⟨P, 4, none⟩ = some (.bool _) := cell_at g2 4
      have cP5 : w2.cell? ⟨P, 5, none⟩ = some (.int .u32 _) := cell_at g2 5
      have cP6 : w2.cell? ⟨P, 6, none⟩ = some (.bool _) := cell_at g2 6
      have fP := free_at g2
      go_wp2_with fail
      go_roundg (gk - 1)
      case measure => omega
      case rel =>
        refine ⟨k + 1, .slice va vl vc, by omega, by omega, ?_, ?_, ?_⟩
        · have e1 : (((at' s.next k : Nat) : Int) + 1) % 4294967296 = ((at' s.next (k + 1) : Nat) : Int) := by rw [at_succ]; omega
          have hM2 : w2.ownsMap Try.prog 22 (plainElem (H := Unit) Try.prog 5) M (Maps.size D) (D.del (key (at' s.next k))) := (HOWN1.out.alloc _).kept HG2.out (fun e => HQK.out.rm e.symm)
          have hM3 := (hM2.setCell (a := ⟨P, 2, none⟩) (Ne.symm hPM) (.slice va vl vc)).setCell (a := ⟨P, 0, none⟩) (Ne.symm hPM) (.int .u32 ((((at' s.next k : Nat) : Int) + 1) % 4294967296))
          have hD1 : FMap (D.del (key (at' s.next k))) (at' s.next (k + 1)) (s.held.drop (k + 1)) := by
            have h1 := HD.out
            rw [drop_cons hc] at h1
            have h2 := h1.del hnk (by rw [List.length_drop]; have := HS.out.len; have := HS.out.size; omega)
            rw [← at_succ] at h2
            exact h2
          have hgP := hget_setCell (hget_setCell g2 2 (.slice va vl vc)) 0 (.int .u32 ((((at' s.next k : Nat) : Int) + 1) % 4294967296))
          rw [e1] at hgP hM3
          rw [e1]
          refine ⟨?_, ⟨_, World.ownsMap.fit_size hM3, hD1⟩, ?_, hPM, HVP.out, HVM.out, HQK.out.enr, fun he hd => ?_⟩
          · show hget _ P = some (.cells #[.int .u32 ((at' s.next (k + 1) : Nat) : Int), .int .i64 (s.size : Int), .slice va vl vc, .map (some M), .bool s.hasEnd, .int .u32 en, .bool s.ended] 55 (0, 0))
            rw [hne]
            exact hgP
          · have h1 : OwnsQ w2 (.slice va vl vc) (s.ready ++ (FL.bytes (s.held.take k) ++ [c])) := HQ2.out
            rw [← bytes_snoc hc] at h1
            exact h1.keep fun g o hg ho => hget_setCell_ne (hget_setCell_ne ho (fun e => HVP.out (by rw [hg, e])) _) (fun e => HVP.out (by rw [hg, e])) _
          · obtain ⟨e, he1, he2⟩ := HQ.out.fin he hne
            have := HS.out.behind he hne
            have h3 := this.2 k (hb k hkn)
            have := HQ.out.enr
            exact ⟨e, he1, ofs_step (by omega) HS.out.next he2 (by omega)⟩
        · have h1 : Out (QEx P M rv) w w1 := (HO.out.drewN nq).drew.then (Out.of_grown HG1.out fun j e => by injection e with e; subst e; exact .inr (.inl rfl))
          have h2 : Out (QEx P M rv) w w2 := (h1.alloc _).trans (Out.of_grown (ex := fun j => rk.ownBlock = some j) HG2.out fun j e => e) fun j hj e => by
            rcases HNE.out with h | ⟨g, h, hge⟩
            · exact .inr (.inr (by rw [← h]; exact e))
            · rw [h] at e; injection e with e; omega
          exact (h2.setCell (.inl (.inl rfl)) _).setCell (.inl (.inl rfl)) _
        · rcases HV.out with h | h
          · rcases HNE.out with h2 | ⟨g, h2, h3⟩
            · exact .inl (h.trans h2)
            · exact .inr ⟨g, h.trans h2, h3⟩
          · exact .inr ⟨_, h, by omega⟩
    · have hkn' : k = n := by omega
      subst hkn'
      have hnone : s.held.getD k none = none := by cases hc : s.held.getD k none <;> rw [hc] at hstop <;> first | rfl | cases hstop
      rw [hnone] at hrun
      simp only [byteAt, Option.isSome_none] at hrun
      have HD := hid hD
      have HOWN := hid hown
      have HQK := hid hq
      have HO := hid ho
      have HNE := hid hnear
      clear hD hown hq ho hnear e0
      cases he : s.hasEnd
      · rw [he] at cP4
        go_wp2_with fail
        go_quiet (fail)
        go_wp2_with fail
        go_quiet (fail)
        go_wp2_with fail
        go_end0
        refine ⟨rfl, rk, ?_, (HO.out.drewN _).drewN _, HNE.out⟩
        have hmv : FL.move s = { mid s k with held := s.held.drop k ++ List.replicate k none } := by
          unfold FL.move mid
          rw [hn, he]
          simp [at', hne]
        rw [hmv]
        have hq := HQK.out
        exact ⟨hq.cells, ⟨D, HOWN.out, HD.out.pad k⟩, hq.ready, hq.ne, hq.rp, hq.rm, hq.enr, hq.fin⟩
      · obtain ⟨e, he1, he2⟩ := HQ.out.fin he hne
        have hen := HQ.out.enr
        rw [he] at cP4
        rw [he1] at cP5
        by_cases hd : s.endo = k
        · have hb1 : ((e : Int) == ((at' s.next k : Nat) : Int)) = true := by
            rw [beq_iff_eq]
            have := ofs_step (k := k) (by omega) HS.out.next he2 (by omega)
            rw [hd, Nat.sub_self, ofs_zero (by omega) hnk] at this
            omega
          go_wp2_with fail
          go_quiet (fail)
          go_wp2_with fail
          go_quiet (fail)
          go_wp2_with fail
          go_end0
          refine ⟨rfl, rk, ?_, ((HO.out.setCell (p := ⟨P, 6, none⟩) (.inl (.inl rfl)) _).setCell (p := ⟨P, 0, none⟩) (.inl (.inl rfl)) _).drewN _, HNE.out⟩
          have hmv : FL.move s = { mid s k with next := (at' s.next k + 1) % 4294967296, held := s.held.drop k ++ List.replicate k none, ended := true } := by
            unfold FL.move mid
            rw [hn, he, hd]
            simp [at']
          rw [hmv]
          have hq := HQK.out
          have hgP := hget_setCell (hget_setCell gP 6 (.bool true)) 0 (.int .u32 ((((at' s.next k : Nat) : Int) + 1) % 4294967296))
          have e1 : (((at' s.next k : Nat) : Int) + 1) % 4294967296 = (((at' s.next k + 1) % 4294967296 : Nat) : Int) := by omega
          have hM3 := (HOWN.out.setCell (a := ⟨P, 6, none⟩) (Ne.symm hq.ne) (.bool true)).setCell (a := ⟨P, 0, none⟩) (Ne.symm hq.ne) (.int .u32 ((((at' s.next k : Nat) : Int) + 1) % 4294967296))
          rw [e1] at hgP hM3
          rw [e1]
          refine ⟨hgP, ⟨D, hM3, (HD.out.none_any ?_ _).pad k⟩, ?_, hq.ne, hq.rp, hq.rm, hq.enr, fun _ h => by cases h⟩
          · intro i
            cases hx : ((s.held.drop k).getD i none).isSome
            · rfl
            · rw [List.getD_eq_getElem?_getD, List.getElem?_drop, ← List.getD_eq_getElem?_getD] at hx
              have := (HS.out.behind he hne).2 _ hx
              omega
          · exact hq.ready.keep fun g o hg ho => hget_setCell_ne (hget_setCell_ne ho (fun e => hq.rp (by rw [hg, e])) _) (fun e => hq.rp (by rw [hg, e])) _
        · have hb1 : ((e : Int) == ((at' s.next k : Nat) : Int)) = false := by
            rw [beq_eq_false_iff_ne]
            intro h
            have hke : k ≤ s.endo := by
              have := HS.out.behind he hne
              rcases Nat.eq_zero_or_pos k with h0 | h0
              · omega
              · have := this.2 (k - 1) (hb (k - 1) (by omega)); omega
            have := ofs_step (k := k) (by omega) HS.out.next he2 hke
            have h2 := (ofs_zero (e := e) (n := at' s.next k) (by omega) hnk).2 (by omega)
            omega
          go_wp2_with fail
          go_quiet (fail)
          go_wp2_with fail
          go_quiet (fail)
          go_wp2_with fail
          go_end0
          refine ⟨rfl, rk, ?_, (HO.out.drewN _).drewN _, HNE.out⟩
          have hmv : FL.move s = { mid s k with held := s.held.drop k ++ List.replicate k none } := by
            unfold FL.move mid
            rw [hn, he]
            simp [at', hne, hd]
          rw [hmv]
          have hq := HQK.out
          exact ⟨hq.cells, ⟨D, HOWN.out, HD.out.pad k⟩, hq.ready, hq.ne, hq.rp, hq.rm, hq.enr, hq.fin⟩
end
end Go.Proofs.Ytkmkgfgppblleaa

namespace Go.Proofs.Ytkmkgfgppblleaa
open Go.RowKit FL

section
variable {w : World} {P M : Nat} {rv : Value} {en : Int} {s : FS}
theorem getD_bytes {d : ByteArray} {k : Nat} (h : k < d.size) : d[k]'h = d.data.toList.getD k 0 := by
  have h' : k < d.data.toList.length := by simpa using h
  rw [List.getD_eq_getElem?_getD, List.getElem?_eq_getElem h']
  simp; rfl
theorem wf_u8 {n : Int} (h : 0 ≤ n ∧ n ≤ 255) : (Lit.int .u8 n).wf = true := by
  simp [Lit.wf, IntKind.min, IntKind.max, IntKind.signed, IntKind.bits]; omega
theorem bne_cast (a b : Nat) : ((a : Int) != (b : Int)) = (a != b) := by
  rw [Bool.eq_iff_iff, bne_iff_ne, bne_iff_ne]; omega
theorem lay1_held {a : Nat} {c : UInt8} {l : List (Option UInt8)} (h : (l.getD a none).isSome = true) : lay1 s a c l = l := by
  unfold lay1
  rw [if_neg]
  cases hx : l.getD a none <;> rw [hx] at h
  · cases h
  · simp
theorem lay1_out {a : Nat} {c : UInt8} {l : List (Option UInt8)} (h : ¬ a < s.win) : lay1 s a c l = l := by
  unfold lay1
  rw [if_neg]
  simp [h]
theorem lay1_end {a : Nat} {c : UInt8} {l : List (Option UInt8)} (he : s.hasEnd = true) (h : ¬ a < s.endo) : lay1 s a c l = l := by
  unfold lay1
  rw [if_neg]
  simp [h, he]
theorem lay1_new {a : Nat} {c : UInt8} {l : List (Option UInt8)} (h : a < s.win) (hl : l.getD a none = none) (he : s.hasEnd = true → a < s.endo) : lay1 s a c l = l.set a (some c) := by
  unfold lay1
  rw [if_pos]
  rw [hl, decide_eq_true h]
  cases hx : s.hasEnd
  · rfl
  · simp [he hx]
theorem win_size (_hs : Inv s) : s.win ≤ s.size := by
  unfold FS.win
  split <;> omega
theorem win_le (hs : Inv s) : s.win ≤ 65536 := by
  have := hs.size
  unfold FS.win
  split <;> omega

set_option maxHeartbeats 1000000 in
set_option maxRecDepth 100000 in
theorem put_no_any (hq : QAt w P M rv en s) (x : Nat) (d : ByteArray) (f : Bool) (h : (s.ended || decide (65536 < d.size)) = true) : Calls Try.prog 10 #[.pointer (some ⟨P, 0, none⟩), .int .u32 (x : Int), .string d, .bool f] w fun r w' => r = .returned (.bool false) ∧ Dr w w' := by
  have gP : hget w P = some (.cells #[.int .u32 (s.next : Int), .int .i64 (s.size : Int), rv, .map (some M), .bool s.hasEnd, .int .u32 en, .bool s.ended] 55 (0, 0)) := hq.cells
  cases he : s.ended
  · rw [he] at h gP
    have d0 : 65536 < d.size := by simpa using h
    have d1 : decide (65536 < (d.size : Int)) = true := decide_eq_true (by omega)
    have cP0 : w.cell? ⟨P, 0, none⟩ = some (.int .u32 _) := cell_at gP 0
    have cP1 : w.cell? ⟨P, 1, none⟩ = some (.int .i64 _) := cell_at gP 1
    have cP2 : w.cell? ⟨P, 2, none⟩ = some rv := cell_at gP 2
    have cP3 : w.cell? ⟨P, 3, none⟩ = some (.map (some M)) := cell_at gP 3
    have cP4 : w.cell? ⟨P, 4, none⟩ = some (.bool _) := cell_at gP 4
    have cP5 : w.cell? ⟨P, 5, none⟩ = some (.int .u32 _) := cell_at gP 5
    have cP6 : w.cell? ⟨P, 6, none⟩ = some (.bool _) := cell_at gP 6
    have fP := free_at gP
    go_enter Try.func10, Try.ntmps10
    go_wp2_with fail
    go_ret
    exact ⟨rfl, Dr.refl _⟩
  · rw [he] at gP
    have cP0 : w.cell? ⟨P, 0, none⟩ = some (.int .u32 _) := cell_at gP 0
    have cP1 : w.cell? ⟨P, 1, none⟩ = some (.int .i64 _) := cell_at gP 1
    have cP2 : w.cell? ⟨P, 2, none⟩ = some rv := cell_at gP 2
    have cP3 : w.cell? ⟨P, 3, none⟩ = some (.map (some M)) := cell_at gP 3
    have cP4 : w.cell? ⟨P, 4, none⟩ = some (.bool _) := cell_at gP 4
    have cP5 : w.cell? ⟨P, 5, none⟩ = some (.int .u32 _) := cell_at gP 5
    have cP6 : w.cell? ⟨P, 6, none⟩ = some (.bool _) := cell_at gP 6
    have fP := free_at gP
    go_enter Try.func10, Try.ntmps10
    go_wp2_with fail
    go_ret
    exact ⟨rfl, Dr.refl _⟩

/-- The loop's state. -/
def PutRel (w : World) (P M : Nat) (rv : Value) (en : Int) (s : FS) (x : Nat) (d : ByteArray) (i : Value) (wr : World) : Prop :=
  ∃ k : Nat, k ≤ d.size ∧ i = .int .i64 (k : Int) ∧ QAt wr P M rv en { s with held := layK s x d.data.toList k } ∧ Out (fun j => j = M) w wr
theorem PutRel.at {wr : World} {x : Nat} {d : ByteArray} {k : Nat} (hk : k < d.size) (h : QAt wr P M rv en { s with held := layK s x d.data.toList (k + 1) }) (ho : Out (fun j => j = M) w wr) : PutRel w P M rv en s x d (.int .i64 ((k : Int) + 1)) wr ∧ (((d.size : Int) - intOf (.int .i64 ((k : Int) + 1))).toNat < ((d.size : Int) - intOf (.int .i64 (k : Int))).toNat) :=
  ⟨⟨k + 1, by omega, by simp, h, ho⟩, by simp only [intOf]; omega⟩

set_option maxHeartbeats 4000000 in
set_option maxRecDepth 100000 in
theorem put_yes_any (hq : QAt w P M rv en s) (hs : Inv s) (x : Nat) (_hx : x < 4294967296) (d : ByteArray) (f : Bool) (hne : s.ended = false) (hd : d.size ≤ 65536) :
    Calls Try.prog 10 #[.pointer (some ⟨P, 0, none⟩), .int .u32 (x : Int), .string d, .bool f] w fun r w' => r = .returned (.bool (took s x d.data.toList f)) ∧ ∃ rv' en', QAt w' P M rv' en' (put s x d.data.toList f) ∧ Out (QEx P M rv) w w' ∧ Near w rv rv' := by
  have gP : hget w P = some (.cells #[.int .u32 (s.next : Int), .int .i64 (s.size : Int), rv, .map (some M), .bool s.hasEnd, .int .u32 en, .bool s.ended] 55 (0, 0)) := hq.cells
  rw [hne] at gP
  have d1 : decide (65536 < (d.size : Int)) = false := decide_eq_false (by omega)
  have hw := win_le hs
  have hnx := hs.next
  have HQ := hid hq
  have HS := hid hs
  have hwin : (s.win : Int) % 4294967296 = (s.win : Int) := by omega
  clear hq hs
  have cP0 : w.cell? ⟨P, 0, none⟩ = some (.int .u32 _) := cell_at gP 0
  have cP1 : w.cell? ⟨P, 1, none⟩ = some (.int .i64 _) := cell_at gP 1
  have cP2 : w.cell? ⟨P, 2, none⟩ = some rv := cell_at gP 2
  have cP3 : w.cell? ⟨P, 3, none⟩ = some (.map (some M)) := cell_at gP 3
  have cP4 : w.cell? ⟨P, 4, none⟩ = some (.bool _) := cell_at gP 4
  have cP5 : w.cell? ⟨P, 5, none⟩ = some (.int .u32 _) := cell_at gP 5
  have cP6 : w.cell? ⟨P, 6, none⟩ = some (.bool _) := cell_at gP 6
  have fP := free_at gP
  go_enter Try.func10, Try.ntmps10
  go_wp2_with fail
  go_quiet ((go_at_call 22; exact Calls.quiet_of (window_any (HQ.out.dr ⟨_, rfl⟩) HS.out)))
  go_wp2_with fail
  go_loopw [38] (fun i wr => PutRel w P M rv en s x d i wr) (fun i _ => (d.size - intOf i).toNat)
  case atStart => exact ⟨0, by omega, rfl, HQ.out.dr ⟨_, rfl⟩, Out.of_dr ⟨_, rfl⟩⟩
  case round =>
    obtain ⟨k, hk, rfl, hq, ho⟩ := hrel
    clear cP0 cP1 cP2 cP3 cP4 cP5 cP6 fP gP
    have gP : hget wr P = some (.cells #[.int .u32 (s.next : Int), .int .i64 (s.size : Int), rv, .map (some M), .bool s.hasEnd, .int .u32 en, .bool s.ended] 55 (0, 0)) := hq.cells
    rw [hne] at gP
    have cP0 : wr.cell? ⟨P, 0, none⟩ = some (.int .u32 _) := cell_at gP 0
    have cP1 : wr.cell? ⟨P, 1, none⟩ = some (.int .i64 _) := cell_at gP 1
    have cP2 : wr.cell? ⟨P, 2, none⟩ = some rv := cell_at gP 2
    have cP3 : wr.cell? ⟨P, 3, none⟩ = some (.map (some M)) := cell_at gP 3
    have cP4 : wr.cell? ⟨P, 4, none⟩ = some (.bool _) := cell_at gP 4
    have cP5 : wr.cell? ⟨P, 5, none⟩ = some (.int .u32 _) := cell_at gP 5
    have cP6 : wr.cell? ⟨P, 6, none⟩ = some (.bool _) := cell_at gP 6
    have fP := free_at gP
    obtain ⟨D, hown, hD⟩ := hq.own
    change FMap D s.next (layK s x d.data.toList k) at hD
    by_cases hkd : k < d.size
    · have hlt : decide ((k : Int) < d.size) = true := decide_eq_true (by omega)
      have hN : ((x : Int) + k) % 4294967296 = (((x + k) % 4294967296 : Nat) : Int) := by omega
      have hlay : layK s x d.data.toList (k + 1) = lay1 s (ofs ((x + k) % 4294967296) s.next) (d.data.toList.getD k 0) (layK s x d.data.toList k) := rfl
      have hNl : (x + k) % 4294967296 < 4294967296 := Nat.mod_lt _ (by decide)
      have hrun := fun nq => look_run (w := wr.drewN nq) (hown.kept (row := none) ⟨rfl, rfl, rfl, Nat.le_refl _, fun _ _ _ => rfl⟩ (by simp)) hD hNl
      generalize (x + k) % 4294967296 = N at *
      generalize hA : ofs N s.next = A at *
      have HQK := hid hq
      have HO := hid ho
      have HD := hid hD
      have HOWN := hid hown
      have HLAY := hid hlay
      clear hq ho hD hown hlay
      by_cases c1 : A < s.win
      · have hin := fun nq => hid (in_any N s.next s.win (wr.drewN nq) hnx)
        rw [hA, decide_eq_true c1] at hin
        cases he : s.hasEnd
        · rw [he] at cP4
          have HE := hid he
          clear he
          go_wp2_with fail
          go_quiet ((go_at_call 16; exact Calls.quiet_of_same (rsame (hin _).out)))
          cases hl : (layK s x d.data.toList k).getD A none with
          | some c =>
            rw [hl] at hrun
            simp only [byteAt, Option.isSome_some] at hrun
            go_wp2_with fail
            refine PutRel.at hkd ?_ (HO.out.drewN _)
            rw [HLAY.out, lay1_held (by rw [hl]; rfl)]
            exact HQK.out.dr ⟨_, rfl⟩
          | none =>
            rw [hl] at hrun
            simp only [byteAt, Option.isSome_none] at hrun
            go_wp2_with fail
            refine still_tail 8 (by kernel_rfl) (by kernel_rfl) ?_
            simp only [List.take_succ_cons, List.take_zero, List.drop_succ_cons, List.drop_zero]
            repeat (first | (refine wpStill_step (fun K hK => ?_); go_simp; refine hK _ ?_; clear hK K; try go_ints))
            refine wpStill_nil ?_
            have hown' := HOWN.out.kept (w' := (wr.drewN nq).drew) (row := none) ⟨rfl, rfl, rfl, Nat.le_refl _, fun _ _ _ => rfl⟩ (by simp)
            obtain ⟨c, hc⟩ : ∃ c, d.data.toList.getD k 0 = c := ⟨_, rfl⟩
            have hcd : d[k]'hkd = c := by rw [← hc]; exact getD_bytes hkd
            have hlen := (layK_len s x d.data.toList k).trans HS.out.len
            have hz := HS.out.size
            refine wpList_mapUpdate_own _ rfl _ _ _ 53 rfl 22 5 u32law Try.underlying53 _ M _ D rfl hown' ?ca _ _ _ rfl rfl (Maps.keyOf_int_mk Try.underlying22 (WalkArith.wf_u32 (by omega))) (.lit (.int .u8 (c.toNat : Int))) [] ?cb ?_
            case ca =>
              have h1 := List.countP_le_length (p := Option.isSome) (l := layK s x d.data.toList k)
              have h2 := HD.out.size
              unfold maxLen
              omega
            case cb =>
              rw [hcd]
              have := c.toNat_lt
              exact plainElem_int Try.underlying5 (wf_u8 (by omega))
            intro w1 hown1 hg1
            go_wp2_with fail
            refine PutRel.at hkd ?_ ((HO.out.drewN nq).drew.then (Out.of_grown hg1 fun j e => by injection e with e; exact e.symm))
            have hq := HQK.out
            rw [HLAY.out, hc, lay1_new c1 hl (fun e => by rw [HE.out] at e; cases e)]
            refine ⟨hget_grown hq.cells (w := (wr.drewN nq).drew) hg1 (by simp; exact hq.ne), ⟨_, World.ownsMap.fit_size hown1, ?_⟩, ?_, hq.ne, hq.rp, hq.rm, hq.enr, hq.fin⟩
            · have h1 := HD.out.put (c := c) hNl hnx (by rw [hA]; have := win_size HS.out; omega) (by rw [hA, hl]; rfl)
              rw [hA] at h1
              exact h1
            · exact hq.ready.keep fun g o hg ho => hget_grown (w := (wr.drewN nq).drew) ho hg1 (by intro e; injection e with e; subst e; exact hq.rm hg)
        · obtain ⟨e, he1, he2⟩ := HQ.out.fin he hne
          have hen := HQ.out.enr
          rw [he] at cP4
          rw [he1] at cP5
          have hofs := ofs_int e s.next hnx
          rw [he2] at hofs
          have hin2 := fun nq => hid (in_any N s.next s.endo (wr.drewN nq) hnx)
          rw [hA] at hin2
          have HE := hid he
          have HE1 := hid he1
          have HE2 := hid he2
          clear he he1 he2
          by_cases c3 : A < s.endo
          · rw [decide_eq_true c3] at hin2
            go_wp2_with fail
            go_quiet ((go_at_call 16; first | with_reducible exact Calls.quiet_of_same (rsame (hin _).out) | with_reducible exact Calls.quiet_of_same (rsame (hin2 _).out)))
            cases hl : (layK s x d.data.toList k).getD A none with
            | some c =>
              rw [hl] at hrun
              simp only [byteAt, Option.isSome_some] at hrun
              go_wp2_with fail
              refine PutRel.at hkd ?_ (HO.out.drewN _)
              rw [HLAY.out, lay1_held (by rw [hl]; rfl)]
              exact HQK.out.dr ⟨_, rfl⟩
            | none =>
              rw [hl] at hrun
              simp only [byteAt, Option.isSome_none] at hrun
              go_wp2_with fail
              refine still_tail 8 (by kernel_rfl) (by kernel_rfl) ?_
              simp only [List.take_succ_cons, List.take_zero, List.drop_succ_cons, List.drop_zero]
              repeat (first | (refine wpStill_step (fun K hK => ?_); go_simp; refine hK _ ?_; clear hK K; try go_ints))
              refine wpStill_nil ?_
              have hown' := HOWN.out.kept (w' := (wr.drewN nq).drew) (row := none) ⟨rfl, rfl, rfl, Nat.le_refl _, fun _ _ _ => rfl⟩ (by simp)
              obtain ⟨c, hc⟩ : ∃ c, d.data.toList.getD k 0 = c := ⟨_, rfl⟩
              have hcd : d[k]'hkd = c := by rw [← hc]; exact getD_bytes hkd
              have hlen := (layK_len s x d.data.toList k).trans HS.out.len
              have hz := HS.out.size
              refine wpList_mapUpdate_own _ rfl _ _ _ 53 rfl 22 5 u32law Try.underlying53 _ M _ D rfl hown' ?ca _ _ _ rfl rfl (Maps.keyOf_int_mk Try.underlying22 (WalkArith.wf_u32 (by omega))) (.lit (.int .u8 (c.toNat : Int))) [] ?cb ?_
              case ca =>
                have h1 := List.countP_le_length (p := Option.isSome) (l := layK s x d.data.toList k)
                have h2 := HD.out.size
                unfold maxLen
                omega
              case cb =>
                rw [hcd]
                have := c.toNat_lt
                exact plainElem_int Try.underlying5 (wf_u8 (by omega))
              intro w1 hown1 hg1
              go_wp2_with fail
              refine PutRel.at hkd ?_ ((HO.out.drewN nq).drew.then (Out.of_grown hg1 fun j e => by injection e with e; exact e.symm))
              have hq := HQK.out
              rw [HLAY.out, hc, lay1_new c1 hl (fun _ => c3)]
              refine ⟨hget_grown hq.cells (w := (wr.drewN nq).drew) hg1 (by simp; exact hq.ne), ⟨_, World.ownsMap.fit_size hown1, ?_⟩, ?_, hq.ne, hq.rp, hq.rm, hq.enr, hq.fin⟩
              · have h1 := HD.out.put (c := c) hNl hnx (by rw [hA]; have := win_size HS.out; omega) (by rw [hA, hl]; rfl)
                rw [hA] at h1
                exact h1
              · exact hq.ready.keep fun g o hg ho => hget_grown (w := (wr.drewN nq).drew) ho hg1 (by intro e; injection e with e; subst e; exact hq.rm hg)
          · rw [decide_eq_false c3] at hin2
            go_wp2_with fail
            go_quiet ((go_at_call 16; first | with_reducible exact Calls.quiet_of_same (rsame (hin _).out) | with_reducible exact Calls.quiet_of_same (rsame (hin2 _).out)))
            go_wp2_with fail
            refine PutRel.at hkd ?_ (HO.out.drewN _)
            rw [HLAY.out, lay1_end HE.out c3]
            exact HQK.out.dr ⟨_, rfl⟩
      · have hin := fun nq => hid (in_any N s.next s.win (wr.drewN nq) hnx)
        rw [hA, decide_eq_false c1] at hin
        go_wp2_with fail
        go_quiet ((go_at_call 16; exact Calls.quiet_of_same (rsame (hin _).out)))
        go_wp2_with fail
        refine PutRel.at hkd ?_ (HO.out.drewN _)
        rw [HLAY.out, lay1_out c1]
        exact HQK.out.dr ⟨_, rfl⟩
    · have hk' : k = d.size := by omega
      have hlt : decide ((k : Int) < d.size) = false := decide_eq_false (by omega)
      subst hk'
      have hE : ((x : Int) + d.size) % 4294967296 = (((x + d.size) % 4294967296 : Nat) : Int) := by omega
      have hEl : (x + d.size) % 4294967296 < 4294967296 := Nat.mod_lt _ (by decide)
      have hlist : d.data.toList.length = d.size := by simp
      have HNO := hid (show (s.ended || decide (65536 < d.data.toList.length)) = false by rw [hne, hlist]; simpa using hd)
      have HW1 := hid (show ((s.win : Int) + 1) = ((s.win + 1 : Nat) : Int) by omega)
      have HLD := hid (fun f => show laid s x d.data.toList f = { s with held := layK s x d.data.toList d.size, hasEnd := s.hasEnd || ends s (layK s x d.data.toList d.size) (ofs ((x + d.size) % 4294967296) s.next) f, endo := if ends s (layK s x d.data.toList d.size) (ofs ((x + d.size) % 4294967296) s.next) f = true then ofs ((x + d.size) % 4294967296) s.next else s.endo } by unfold laid; rw [hlist])
      generalize (x + d.size) % 4294967296 = E at *
      have HO1 := hid (ho.mono (ex' := QEx P M rv) fun j _ e => .inr (.inl e))
      have HQK := hid hq
      clear hq ho hlist hD hown
      cases f
      · have HQL := hid (show QAt wr P M rv en (laid s x d.data.toList false) by
          have h := HQK.out
          rw [HLD.out]
          simpa [ends] using h)
        have HOL := HO1
        go_wp2_with fail
        refine (moves_any HQL.out (inv_laid HS.out hne x d.data.toList false) hne).mono ?_
        rintro r w2 ⟨rfl, rv', hq2, ho2, hn2⟩
        have g2 := hq2.cells
        have hput : put s x d.data.toList false = FL.move (laid s x d.data.toList false) := put_eq HNO.out
        have htook : took s x d.data.toList false = ((put s x d.data.toList false).next != s.next) := by unfold took; rw [if_neg (by rw [HNO.out]; exact Bool.noConfusion)]
        rw [← hput] at g2 hq2
        clear hput
        have cP0 : w2.cell? ⟨P, 0, none⟩ = some (.int .u32 ((put s x d.data.toList false).next : Int)) := cell_at g2 0
        have HQ2 := hid hq2
        have HTOOK := hid htook
        clear hq2 htook g2
        obtain ⟨nn, hnn⟩ : ∃ nn, (put s x d.data.toList false).next = nn := ⟨_, rfl⟩
        rw [hnn] at cP0
        go_wp2_with fail
        go_ret
        refine ⟨?_, rv', _, HQ2.out, HOL.out.then ho2, ?_⟩
        · rw [HTOOK.out, hnn]
          show Ending.returned (Value.bool ((nn : Int) != (s.next : Int))) = _
          rw [bne_cast]
        · rcases hn2 with h | ⟨g, h, h2⟩
          · exact .inl h
          · exact .inr ⟨g, h, Nat.le_trans HOL.out.size h2⟩
      · cases he : s.hasEnd
        · have hI := inv_laid HS.out hne x d.data.toList false
          rw [HLD.out] at hI
          have HI := hid (show Inv { s with held := layK s x d.data.toList d.size } by simpa [ends] using hI)
          clear hI
          have hin := in_any E s.next (s.win + 1) wr hnx
          rw [← HW1.out] at hin
          have HIN := hid hin
          clear hin
          rw [he] at cP4
          by_cases hc : ofs E s.next < s.win + 1
          · rw [decide_eq_true hc] at HIN
            have hfr := free_any HQK.out HI.out E hEl
            cases ha : ((layK s x d.data.toList d.size).drop (ofs E s.next)).all Option.isNone
            · change Calls _ _ _ _ fun r w' => r = .returned (.bool (((layK s x d.data.toList d.size).drop (ofs E s.next)).all Option.isNone)) ∧ _ at hfr
              rw [ha] at hfr
              have HFR := hid hfr
              have HEND := hid (show ends s (layK s x d.data.toList d.size) (ofs E s.next) true = false by unfold ends; rw [ha]; simp)
              clear hfr ha he
              go_wp2_with (go_at_call 16; refine HIN.out.mono ?_; rintro e w' ⟨rfl, rfl⟩)
              refine HFR.out.mono ?_
              rintro e w1 ⟨rfl, hb1⟩
              have HQL := hid (show QAt w1 P M rv en (laid s x d.data.toList true) by
                have h := HQK.out.below hb1
                rw [HLD.out, HEND.out]
                simpa using h)
              have HOL := hid (HO1.out.then (Out.of_below hb1))
              clear hb1
              go_wp2_with fail
              refine (moves_any HQL.out (inv_laid HS.out hne x d.data.toList true) hne).mono ?_
              rintro r w2 ⟨rfl, rv', hq2, ho2, hn2⟩
              have g2 := hq2.cells
              have hput : put s x d.data.toList true = FL.move (laid s x d.data.toList true) := put_eq HNO.out
              have htook : took s x d.data.toList true = ((put s x d.data.toList true).next != s.next) := by unfold took; rw [if_neg (by rw [HNO.out]; exact Bool.noConfusion)]
              rw [← hput] at g2 hq2
              clear hput
              have cP0 : w2.cell? ⟨P, 0, none⟩ = some (.int .u32 ((put s x d.data.toList true).next : Int)) := cell_at g2 0
              have HQ2 := hid hq2
              have HTOOK := hid htook
              clear hq2 htook g2
              obtain ⟨nn, hnn⟩ : ∃ nn, (put s x d.data.toList true).next = nn := ⟨_, rfl⟩
              rw [hnn] at cP0
              go_wp2_with fail
              go_ret
              refine ⟨?_, rv', _, HQ2.out, HOL.out.then ho2, ?_⟩
              · rw [HTOOK.out, hnn]
                show Ending.returned (Value.bool ((nn : Int) != (s.next : Int))) = _
                rw [bne_cast]
              · rcases hn2 with h | ⟨g, h, h2⟩
                · exact .inl h
                · exact .inr ⟨g, h, Nat.le_trans HOL.out.size h2⟩
            · change Calls _ _ _ _ fun r w' => r = .returned (.bool (((layK s x d.data.toList d.size).drop (ofs E s.next)).all Option.isNone)) ∧ _ at hfr
              rw [ha] at hfr
              have HFR := hid hfr
              have HEND := hid (show ends s (layK s x d.data.toList d.size) (ofs E s.next) true = true by unfold ends; rw [ha, he, decide_eq_true hc]; rfl)
              clear hfr ha he
              go_wp2_with (go_at_call 16; refine HIN.out.mono ?_; rintro e w' ⟨rfl, rfl⟩)
              refine HFR.out.mono ?_
              rintro e w1 ⟨rfl, hb1⟩
              have hq1 := HQK.out.below hb1
              have g1 := hq1.cells
              clear cP0 cP1 cP2 cP3 cP4 cP5 cP6 fP
              have cP0 : w1.cell? ⟨P, 0, none⟩ = some (.int .u32 _) := cell_at g1 0
              have cP1 : w1.cell? ⟨P, 1, none⟩ = some (.int .i64 _) := cell_at g1 1
              have cP2 : w1.cell? ⟨P, 2, none⟩ = some rv := cell_at g1 2
              have cP3 : w1.cell? ⟨P, 3, none⟩ = some (.map (some M)) := cell_at g1 3
              have cP4 : w1.cell? ⟨P, 4, none⟩ = some (.bool _) := cell_at g1 4
              have cP5 : w1.cell? ⟨P, 5, none⟩ = some (.int .u32 _) := cell_at g1 5
              have cP6 : w1.cell? ⟨P, 6, none⟩ = some (.bool _) := cell_at g1 6
              have fP := free_at g1
              have HQ1 := hid hq1
              have HOL := hid (((HO1.out.then (Out.of_below hb1)).setCell (p := ⟨P, 4, none⟩) (.inl (.inl rfl)) (.bool true)).setCell (p := ⟨P, 5, none⟩) (.inl (.inl rfl)) (.int .u32 (E : Int)))
              clear hb1 hq1
              go_wp2_with fail
              have HQL := hid (show QAt ((w1.setCell ⟨P, 4, none⟩ (.bool true)).setCell ⟨P, 5, none⟩ (.int .u32 (E : Int))) P M rv (E : Int) (laid s x d.data.toList true) by
                rw [HLD.out, HEND.out, Bool.or_true]
                have h := HQ1.out
                obtain ⟨D1, h1, h2⟩ := h.own
                exact ⟨hget_setCell (hget_setCell h.cells 4 (.bool true)) 5 (.int .u32 (E : Int)), ⟨D1, (h1.setCell (a := ⟨P, 4, none⟩) (Ne.symm h.ne) _).setCell (a := ⟨P, 5, none⟩) (Ne.symm h.ne) _, h2⟩,
                  h.ready.keep fun g o hg ho => hget_setCell_ne (hget_setCell_ne ho (fun e => h.rp (by rw [hg, e])) _) (fun e => h.rp (by rw [hg, e])) _,
                  h.ne, h.rp, h.rm, by omega, fun _ _ => ⟨E, rfl, by rw [if_pos rfl]⟩⟩)
              refine (moves_any HQL.out (inv_laid HS.out hne x d.data.toList true) hne).mono ?_
              rintro r w2 ⟨rfl, rv', hq2, ho2, hn2⟩
              have g2 := hq2.cells
              have hput : put s x d.data.toList true = FL.move (laid s x d.data.toList true) := put_eq HNO.out
              have htook : took s x d.data.toList true = ((put s x d.data.toList true).next != s.next) := by unfold took; rw [if_neg (by rw [HNO.out]; exact Bool.noConfusion)]
              rw [← hput] at g2 hq2
              clear hput
              have cP0 : w2.cell? ⟨P, 0, none⟩ = some (.int .u32 ((put s x d.data.toList true).next : Int)) := cell_at g2 0
              have HQ2 := hid hq2
              have HTOOK := hid htook
              clear hq2 htook g2
              obtain ⟨nn, hnn⟩ : ∃ nn, (put s x d.data.toList true).next = nn := ⟨_, rfl⟩
              rw [hnn] at cP0
              go_wp2_with fail
              go_ret
              refine ⟨?_, rv', _, HQ2.out, HOL.out.then ho2, ?_⟩
              · rw [HTOOK.out, hnn]
                show Ending.returned (Value.bool ((nn : Int) != (s.next : Int))) = _
                rw [bne_cast]
              · rcases hn2 with h | ⟨g, h, h2⟩
                · exact .inl h
                · exact .inr ⟨g, h, Nat.le_trans HOL.out.size h2⟩
          · rw [decide_eq_false hc] at HIN
            have HQL := hid (show QAt wr P M rv en (laid s x d.data.toList true) by
              have h := HQK.out
              rw [HLD.out]
              simpa [ends, hc] using h)
            have HOL := HO1
            clear he
            go_wp2_with (go_at_call 16; refine HIN.out.mono ?_; rintro e w' ⟨rfl, rfl⟩)
            refine (moves_any HQL.out (inv_laid HS.out hne x d.data.toList true) hne).mono ?_
            rintro r w2 ⟨rfl, rv', hq2, ho2, hn2⟩
            have g2 := hq2.cells
            have hput : put s x d.data.toList true = FL.move (laid s x d.data.toList true) := put_eq HNO.out
            have htook : took s x d.data.toList true = ((put s x d.data.toList true).next != s.next) := by unfold took; rw [if_neg (by rw [HNO.out]; exact Bool.noConfusion)]
            rw [← hput] at g2 hq2
            clear hput
            have cP0 : w2.cell? ⟨P, 0, none⟩ = some (.int .u32 ((put s x d.data.toList true).next : Int)) := cell_at g2 0
            have HQ2 := hid hq2
            have HTOOK := hid htook
            clear hq2 htook g2
            obtain ⟨nn, hnn⟩ : ∃ nn, (put s x d.data.toList true).next = nn := ⟨_, rfl⟩
            rw [hnn] at cP0
            go_wp2_with fail
            go_ret
            refine ⟨?_, rv', _, HQ2.out, HOL.out.then ho2, ?_⟩
            · rw [HTOOK.out, hnn]
              show Ending.returned (Value.bool ((nn : Int) != (s.next : Int))) = _
              rw [bne_cast]
            · rcases hn2 with h | ⟨g, h, h2⟩
              · exact .inl h
              · exact .inr ⟨g, h, Nat.le_trans HOL.out.size h2⟩
        · have HQL := hid (show QAt wr P M rv en (laid s x d.data.toList true) by
            have h := HQK.out
            rw [HLD.out]
            simpa [ends, he] using h)
          have HOL := HO1
          rw [he] at cP4
          clear he
          go_wp2_with fail
          refine (moves_any HQL.out (inv_laid HS.out hne x d.data.toList true) hne).mono ?_
          rintro r w2 ⟨rfl, rv', hq2, ho2, hn2⟩
          have g2 := hq2.cells
          have hput : put s x d.data.toList true = FL.move (laid s x d.data.toList true) := put_eq HNO.out
          have htook : took s x d.data.toList true = ((put s x d.data.toList true).next != s.next) := by unfold took; rw [if_neg (by rw [HNO.out]; exact Bool.noConfusion)]
          rw [← hput] at g2 hq2
          clear hput
          have cP0 : w2.cell? ⟨P, 0, none⟩ = some (.int .u32 ((put s x d.data.toList true).next : Int)) := cell_at g2 0
          have HQ2 := hid hq2
          have HTOOK := hid htook
          clear hq2 htook g2
          obtain ⟨nn, hnn⟩ : ∃ nn, (put s x d.data.toList true).next = nn := ⟨_, rfl⟩
          rw [hnn] at cP0
          go_wp2_with fail
          go_ret
          refine ⟨?_, rv', _, HQ2.out, HOL.out.then ho2, ?_⟩
          · rw [HTOOK.out, hnn]
            show Ending.returned (Value.bool ((nn : Int) != (s.next : Int))) = _
            rw [bne_cast]
          · rcases hn2 with h | ⟨g, h, h2⟩
            · exact .inl h
            · exact .inr ⟨g, h, Nat.le_trans HOL.out.size h2⟩
end
end Go.Proofs.Ytkmkgfgppblleaa
