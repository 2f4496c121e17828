/- Bytes in memory: texts to bytes and back, a row of bytes that is appended to. -/
import Derived.Test.YtejkimhmpnogkaaDoorBUT
import Derived.Test.YtejkimhmpnogkaaDoorROW
import Derived.Lib.ConvBytes
namespace Go.Proofs.YtejkimhmpnogkaaDoor
open Go.RowKit

theorem info_u8 : (Tryd.prog.info? 5).map (fun i => (i.zero, i.size, i.bytes)) = some (some (.int .u8 0), 1, 1) := by kernel_rfl

/-- Bytes as values. -/
def u8s (l : List UInt8) : List Value := l.map fun c => Value.int .u8 (c.toNat : Int)

set_option maxRecDepth 100000 in
theorem conv_string (w : World) (b off len cap : Nat) (l : List UInt8) (hl : l.length = len) (hc : ∀ j, j < len → w.cell? ⟨b, off + j, none⟩ = some (.int .u8 ((l.getD j 0).toNat : Int))) :
    (convert 57 9 (.slice (some ⟨b, off, none⟩) len cap)).run Tryd.prog w = .ok (.string ⟨l.toArray⟩) w := by
  have h := run_convert_bytes_arg (P := Tryd.prog) w 57 5 Tryd.underlying57 Tryd.underlying5 b off len cap (l.map fun c => (c.toNat : Int)) (by simpa using hl) (fun i hi => by
    rw [hc i hi]; simp [hl, hi]) 9 Tryd.underlying9
  rw [h]
  congr 2
  unfold strOfNums
  congr 1
  rw [List.map_map]
  congr 1
  conv => rhs; rw [← List.map_id l]
  exact List.map_congr_left fun c _ => by simp

theorem block_le {w : World} {base : Nat} {e : TypeId} {size : Nat} {v : Value} {n : Nat} {xs : List Value} (h : w.ownsRow base e size v n xs) {g : Nat} (hg : v.ownBlock = some g) : base ≤ g := by
  obtain ⟨_, h2⟩ := h
  rcases h2 with ⟨rfl, _⟩ | ⟨g', cap, cur, rfl, hb, _⟩
  · simp [Value.ownBlock] at hg
  · simp [Value.ownBlock] at hg; omega

@[go_sem] theorem conv_bytes (s : ByteArray) (w : World) : (convert 9 57 (.string s)).run Tryd.prog w = .ok (.slice (some ⟨w.heap.size, 0, none⟩) s.size (grownCap w s.size 0 5)) (Lib.bytesWorld w 5 s) :=
  Lib.run_convert_string_bytes w 9 57 5 s Tryd.underlying9 Tryd.underlying57 Tryd.underlying5
theorem bytesWorld_below (w : World) (e : TypeId) (s : ByteArray) : Below w.heap.size w (Lib.bytesWorld w e s) :=
  ⟨rfl, rfl, rfl, by rw [Lib.bytesWorld_size]; omega, fun k hk => Lib.bytesWorld_at_old w e s k hk⟩
/-- What is known of the bytes that are laid. -/
structure Laid (w : World) (b : Nat) (l : List UInt8) : Prop where
  ex : ∃ C T n, w.heap[b]? = some (.cells C T (n, n + 1)) ∧ l.length ≤ n ∧ ∀ j, j < l.length → C[j]? = some (.int .u8 ((l.getD j 0).toNat : Int))
theorem laid_bytes (w : World) (s : ByteArray) : Laid (Lib.bytesWorld w 5 s) w.heap.size s.data.toList := by
  refine ⟨⟨_, _, _, Lib.bytesWorld_at_new w 5 s, ?_, fun j hj => ?_⟩⟩
  · simp [Lib.bytesCells]
  · have := Lib.bytesWorld_cell w 5 s j (by simpa using hj)
    rwa [cell_at (Lib.bytesWorld_at_new w 5 s)] at this
theorem Laid.cell {w : World} {b : Nat} {l : List UInt8} (h : Laid w b l) {j : Nat} (hj : j < l.length) : w.cell? ⟨b, j, none⟩ = some (.int .u8 ((l.getD j 0).toNat : Int)) := by
  obtain ⟨C, T, n, h1, _, h3⟩ := h.ex
  rw [cell_at h1, h3 j hj]
theorem Laid.free {w : World} {b : Nat} {l : List UInt8} (h : Laid w b l) {j : Nat} (hj : j < l.length) : w.frozen? ⟨b, j, none⟩ = false := by
  obtain ⟨C, T, n, h1, h2, h3⟩ := h.ex
  simp [World.frozen?, h1]; omega
theorem Laid.set {w : World} {b : Nat} {l : List UInt8} (h : Laid w b l) (j : Nat) (x : UInt8) : Laid (w.setCell ⟨b, j, none⟩ (.int .u8 (x.toNat : Int))) b (l.set j x) := by
  obtain ⟨C, T, n, h1, h2, h3⟩ := h.ex
  refine ⟨⟨_, _, _, at_setCell h1 _ _, by simpa using h2, fun i hi => ?_⟩⟩
  rw [List.length_set] at hi
  rw [Array.getElem?_setIfInBounds]
  by_cases hij : j = i
  · subst hij
    have hlt : j < C.size := by
      have := h3 j hi
      rcases Nat.lt_or_ge j C.size with h' | h'
      · exact h'
      · simp [Array.getElem?_eq_none h'] at this
    simp [hlt, hi]
  · rw [if_neg hij, h3 i hi]; simp [hij]

theorem u8s_append (l m : List UInt8) : u8s (l ++ m) = u8s l ++ u8s m := by simp [u8s]
theorem u8s_length (l : List UInt8) : (u8s l).length = l.length := by simp [u8s]
/-- The cells of a row that is appended to. -/
theorem owns_cell {w : World} {base : Nat} {v : Value} {n : Nat} {l : List UInt8} (h : w.ownsRow base 5 1 v n (u8s l)) (hn : n = l.length) (h0 : 0 < n) :
    ∃ g cap, v = .slice (some ⟨g, 0, none⟩) n cap ∧ base ≤ g ∧ n ≤ cap ∧ (∀ j, j < n → w.cell? ⟨g, j, none⟩ = some (.int .u8 ((l.getD j 0).toNat : Int))) := by
  obtain ⟨_, h2⟩ := h
  rcases h2 with ⟨_, h0'⟩ | ⟨g, cap, cur, rfl, hg, hc, hle, _, hsz, hxs⟩
  · omega
  refine ⟨g, cap, rfl, hg, hle, fun j hj => ?_⟩
  rw [cell_at hc]
  have h3 : cur.toList[j]? = (u8s l)[j]? := by
    have h4 : (cur.toList.take (n * 1))[j]? = cur.toList[j]? := by rw [List.getElem?_take, if_pos (by omega)]
    rw [← h4, hxs]
  rw [← Array.getElem?_toList, h3]
  unfold u8s
  have hjl : j < l.length := by omega
  simp [hjl]

end Go.Proofs.YtejkimhmpnogkaaDoor
