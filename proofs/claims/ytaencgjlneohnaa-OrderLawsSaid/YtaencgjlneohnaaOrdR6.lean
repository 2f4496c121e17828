/- The walks of Clamp, of the order's and the document's. -/
import Derived.Test.YtaencgjlneohnaaOrdR5
import Derived.Lib.ConvBytes
namespace Go.Proofs.Ytaencgjlneohnaa
open Go.RowKit DG

def clampL (l : List UInt8) : List UInt8 := (l.set 0 (l.getD 0 0 &&& 248)).set 31 ((l.getD 31 0 &&& 127) ||| 64)
@[go_sem] theorem conv_bytes (s : ByteArray) (w : World) : (convert 9 42 (.string s)).run Try.prog w = .ok (.slice (some ⟨w.heap.size, 0, none⟩) s.size (grownCap w s.size 0 5)) (Lib.bytesWorld w 5 s) :=
  Lib.run_convert_string_bytes w 9 42 5 s Try.underlying9 Try.underlying42 Try.underlying5
theorem bytesWorld_below (w : World) (e : TypeId) (s : ByteArray) : Below w.heap.size w (Lib.bytesWorld w e s) :=
  ⟨rfl, rfl, rfl, by rw [Lib.bytesWorld_size]; omega, fun k hk => Lib.bytesWorld_at_old w e s k hk⟩
/-- What is known of the bytes that are laid. -/
structure Laid (w : World) (b : Nat) (l : List UInt8) : Prop where
  ex : ∃ C T n, w.heap[b]? = some (.cells C T (n, n + 1)) ∧ l.length ≤ n ∧ ∀ j, j < l.length → C[j]? = some (.int .u8 ((l.getD j 0).toNat : Int))
theorem laid_bytes (w : World) (s : ByteArray) : Laid (Lib.bytesWorld w 5 s) w.heap.size s.data.toList := by
  refine ⟨⟨_, _, _, Lib.bytesWorld_at_new w 5 s, ?_, fun j hj => ?_⟩⟩
  · simp [Lib.bytesCells]
  · have := Lib.bytesWorld_cell w 5 s j (by simpa using hj)
    rwa [cell_at (Lib.bytesWorld_at_new w 5 s)] at this
theorem Laid.cell {w : World} {b : Nat} {l : List UInt8} (h : Laid w b l) {j : Nat} (hj : j < l.length) : w.cell? ⟨b, j, none⟩ = some (.int .u8 ((l.getD j 0).toNat : Int)) := by
  obtain ⟨C, T, n, h1, _, h3⟩ := h.ex
  rw [cell_at h1, h3 j hj]
theorem Laid.free {w : World} {b : Nat} {l : List UInt8} (h : Laid w b l) {j : Nat} (hj : j < l.length) : w.frozen? ⟨b, j, none⟩ = false := by
  obtain ⟨C, T, n, h1, h2, h3⟩ := h.ex
  simp [World.frozen?, h1]; omega
theorem Laid.set {w : World} {b : Nat} {l : List UInt8} (h : Laid w b l) (j : Nat) (x : UInt8) : Laid (w.setCell ⟨b, j, none⟩ (.int .u8 (x.toNat : Int))) b (l.set j x) := by
  obtain ⟨C, T, n, h1, h2, h3⟩ := h.ex
  refine ⟨⟨_, _, _, at_setCell h1 _ _, by simpa using h2, fun i hi => ?_⟩⟩
  rw [List.length_set] at hi
  rw [Array.getElem?_setIfInBounds]
  by_cases hij : j = i
  · subst hij
    have hlt : j < C.size := by
      have := h3 j hi
      rcases Nat.lt_or_ge j C.size with h' | h'
      · exact h'
      · simp [Array.getElem?_eq_none h'] at this
    simp [hlt, hi]
  · rw [if_neg hij, h3 i hi]; simp [List.getElem?_set, hij]
theorem and248 (x : UInt8) : bits .and .u8 (x.toNat : Int) 248 = ((x &&& 248).toNat : Int) := by
  rw [show (248 : Int) = ((248 : Nat) : Int) from rfl, u8_and_nat _ _ x.toNat_lt (by decide), UInt8.toNat_and]; rfl
theorem and127 (x : UInt8) : bits .and .u8 (x.toNat : Int) 127 = ((x &&& 127).toNat : Int) := by
  rw [show (127 : Int) = ((127 : Nat) : Int) from rfl, u8_and_nat _ _ x.toNat_lt (by decide), UInt8.toNat_and]; rfl
theorem or64 (x : UInt8) : bits .or .u8 (x.toNat : Int) 64 = ((x ||| 64).toNat : Int) := by
  rw [show (64 : Int) = ((64 : Nat) : Int) from rfl, u8_or_nat _ _ x.toNat_lt (by decide), UInt8.toNat_or]; rfl
theorem andNot7 (x : UInt8) : bits .andNot .u8 (x.toNat : Int) 7 = ((x &&& 248).toNat : Int) := by
  rw [show (7 : Int) = ((7 : Nat) : Int) from rfl, u8_andNot_nat _ _ x.toNat_lt (by decide), UInt8.toNat_and]; rfl
theorem andNot128 (x : UInt8) : bits .andNot .u8 (x.toNat : Int) 128 = ((x &&& 127).toNat : Int) := by
  rw [show (128 : Int) = ((128 : Nat) : Int) from rfl, u8_andNot_nat _ _ x.toNat_lt (by decide), UInt8.toNat_and]; rfl

set_option maxHeartbeats 400000 in
theorem Clamp_32 (s : ByteArray) (W : World) (h32 : s.size = 32) :
    Calls Try.prog 8 #[.string s] W fun e w' => e = .returned (.tuple #[.string ⟨(clampL s.data.toList).toArray⟩, .int .i64 0]) ∧ Below W.heap.size W w' := by
  have hn : ((s.size : Int) != 32) = false := by rw [bne_eq_false_iff_eq]; omega
  have HN := hid h32
  have hll : s.data.toList.length = 32 := by simpa using h32
  obtain ⟨l, hl⟩ : ∃ l, s.data.toList = l := ⟨_, rfl⟩
  rw [hl] at hll ⊢
  have HLL := hid hll
  have HL := hid hl
  clear hll hl
  go_enter Try.func8, Try.ntmps8
  go_upto_region 4 with (fail)
  clear hn
  have hL := laid_bytes W s
  have hB := hid (bytesWorld_below W 5 s)
  rw [HL.out] at hL
  clear h32 HN
  generalize Lib.bytesWorld W 5 s = w1 at *
  generalize grownCap W 32 0 5 = cap at *
  generalize hNN : W.heap.size = N at *
  have hlen := HLL.out
  obtain ⟨x0, hx0⟩ : ∃ x, l.getD 0 0 = x := ⟨_, rfl⟩
  obtain ⟨x1, hx1⟩ : ∃ x, l.getD 31 0 = x := ⟨_, rfl⟩
  have hcl : clampL l = (l.set 0 (x0 &&& 248)).set 31 ((x1 &&& 127) ||| 64) := by unfold clampL; rw [hx0, hx1]
  have HCL := hid hcl
  have c0 := hL.cell (j := 0) (by omega)
  have c1 := hL.cell (j := 31) (by omega)
  have f0 := hL.free (j := 0) (by omega)
  have f1 := hL.free (j := 31) (by omega)
  rw [hx0] at c0
  rw [hx1] at c1
  have L2 := (hL.set 0 (x0 &&& 248)).set 31 (x1 &&& 127)
  have L3 := hid (L2.set 31 ((x1 &&& 127) ||| 64))
  rw [List.set_set] at L3
  have BE := hid (((hB.out.setCell (p := ⟨N, 0, none⟩) (Nat.le_refl _) (.int .u8 ((x0 &&& 248).toNat : Int))).setCell (p := ⟨N, 31, none⟩) (Nat.le_refl _) (.int .u8 ((x1 &&& 127).toNat : Int))).setCell (p := ⟨N, 31, none⟩) (Nat.le_refl _) (.int .u8 (((x1 &&& 127) ||| 64).toNat : Int)))
  clear hlen hcl hx0 hx1 L2 hL
  go_upto_region 7 with (fail)
  rw [and248, and127, or64]
  have l3 := L3.out
  have be := BE.out
  generalize (((x0 &&& 248).toNat : Nat) : Int) = v0 at *
  generalize (((x1 &&& 127).toNat : Nat) : Int) = v1 at *
  generalize ((((x1 &&& 127) ||| 64).toNat : Nat) : Int) = v2 at *
  have hl3 : ((l.set 0 (x0 &&& 248)).set 31 ((x1 &&& 127) ||| 64)).length = 32 := by simp [HLL.out]
  have hconv := fun (cap : Nat) => conv_string _ N 0 32 cap _ hl3 (fun j hj => by rw [Nat.zero_add]; exact l3.cell (by rw [hl3]; exact hj))
  go_wp2_with fail
  refine bodyPost_ret (v := .tuple #[.string ⟨((l.set 0 (x0 &&& 248)).set 31 ((x1 &&& 127) ||| 64)).toArray⟩, .int .i64 0]) (by simp [results, Try.results8, go_sem]) rfl ?_
  exact ⟨by rw [HCL.out], by rw [hNN]; exact be⟩

theorem Clamp_no (s : ByteArray) (W : World) (h32 : ¬ s.size = 32) :
    Calls Try.prog 8 #[.string s] W fun e w' => e = .returned (.tuple #[.string ⟨#[]⟩, .int .i64 2]) ∧ Below W.heap.size W w' := by
  have hn : ((s.size : Int) != 32) = true := by rw [bne_iff_ne]; omega
  clear h32
  go_enter Try.func8, Try.ntmps8
  go_wp2_with fail
  exact bodyPost_ret (v := .tuple #[.string ⟨#[]⟩, .int .i64 2]) (by simp [results, Try.results8, go_sem]) rfl ⟨rfl, Below.refl _ _⟩

set_option maxHeartbeats 400000 in
theorem ref_Clamp (s : ByteArray) (W : World) (h32 : s.size = 32) :
    Calls Try.prog 11 #[.string s] W fun e w' => e = .returned (.string ⟨(clampL s.data.toList).toArray⟩) ∧ Below W.heap.size W w' := by
  have HN := hid h32
  have hll : s.data.toList.length = 32 := by simpa using h32
  obtain ⟨l, hl⟩ : ∃ l, s.data.toList = l := ⟨_, rfl⟩
  rw [hl] at hll ⊢
  have HLL := hid hll
  have HL := hid hl
  clear hll hl
  go_enter Try.func11, Try.ntmps11
  go_upto_region 2 with (fail)
  have hL := laid_bytes W s
  have hB := hid (bytesWorld_below W 5 s)
  rw [HL.out] at hL
  clear h32 HN
  generalize Lib.bytesWorld W 5 s = w1 at *
  generalize grownCap W 32 0 5 = cap at *
  generalize hNN : W.heap.size = N at *
  have hlen := HLL.out
  obtain ⟨x0, hx0⟩ : ∃ x, l.getD 0 0 = x := ⟨_, rfl⟩
  obtain ⟨x1, hx1⟩ : ∃ x, l.getD 31 0 = x := ⟨_, rfl⟩
  have hcl : clampL l = (l.set 0 (x0 &&& 248)).set 31 ((x1 &&& 127) ||| 64) := by unfold clampL; rw [hx0, hx1]
  have HCL := hid hcl
  have c0 := hL.cell (j := 0) (by omega)
  have c1 := hL.cell (j := 31) (by omega)
  have f0 := hL.free (j := 0) (by omega)
  have f1 := hL.free (j := 31) (by omega)
  rw [hx0] at c0
  rw [hx1] at c1
  have L3 := hid ((hL.set 0 (x0 &&& 248)).set 31 ((x1 &&& 127) ||| 64))
  have BE := hid ((hB.out.setCell (p := ⟨N, 0, none⟩) (Nat.le_refl _) (.int .u8 ((x0 &&& 248).toNat : Int))).setCell (p := ⟨N, 31, none⟩) (Nat.le_refl _) (.int .u8 (((x1 &&& 127) ||| 64).toNat : Int)))
  clear hlen hcl hx0 hx1 hL
  go_upto_region 4 with (fail)
  rw [andNot7, andNot128, or64]
  have l3 := L3.out
  have be := BE.out
  generalize (((x0 &&& 248).toNat : Nat) : Int) = v0 at *
  generalize ((((x1 &&& 127) ||| 64).toNat : Nat) : Int) = v2 at *
  have hl3 : ((l.set 0 (x0 &&& 248)).set 31 ((x1 &&& 127) ||| 64)).length = 32 := by simp [HLL.out]
  have hconv := fun (cap : Nat) => conv_string _ N 0 32 cap _ hl3 (fun j hj => by rw [Nat.zero_add]; exact l3.cell (by rw [hl3]; exact hj))
  go_wp2_with fail
  refine bodyPost_ret (v := .string ⟨((l.set 0 (x0 &&& 248)).set 31 ((x1 &&& 127) ||| 64)).toArray⟩) (by simp [results, Try.results11, go_sem]) rfl ?_
  exact ⟨by rw [HCL.out], by rw [hNN]; exact be⟩

end Go.Proofs.Ytaencgjlneohnaa
