/- The walks of the digest: turns of a word. Plain lemmas on the digest's lists. The walks of the document's digest: a word, a block. The walk of the document's block. The walk of the program's block. The walk of what takes one byte. -/
import Derived.Test.YtceljjnohjnepaaDoorM11
import Derived.Test.YtceljjnohjnepaaDoorM02
import Derived.Test.YtceljjnohjnepaaDoorM03
namespace Go.Proofs.YtceljjnohjnepaaDoor
open Go.RowKit

set_option maxRecDepth 100000 in
theorem int_u64 {a b : Int} (h : a = b) : Ending.returned (.int .u64 a) = .returned (.int .u64 b) := by rw [h]

set_option maxRecDepth 100000 in
theorem sand63 (n : Nat) (h0 : 0 < n) (h : n < 64) : bits .and .u64 (IntKind.u64.wrap (-(n : Int))) 63 = ((64 - n : Nat) : Int) := by
  rw [IntKind.wrap_u64, show (-(n : Int)) % 18446744073709551616 = ((18446744073709551616 - n : Nat) : Int) by omega, show (63 : Int) = ((63 : Nat) : Int) from rfl, u64_and_nat _ _ (by omega) (by decide)]
  congr 1
  rw [show (63 : Nat) = 2 ^ 6 - 1 from rfl, Nat.and_two_pow_sub_one_eq_mod]
  omega
set_option maxRecDepth 100000 in
theorem or_toNat (x y : UInt64) : (x ||| y) = (y ||| x) := UInt64.or_comm x y

set_option maxRecDepth 100000 in
set_option maxHeartbeats 400000 in
theorem rot_any (x : UInt64) (n : Nat) (h0 : 0 < n) (h : n < 64) (w : World) :
    Calls Tryd.prog 55 #[.int .u64 (UW x), .int .i64 (-(n : Int))] w fun e w' => e = .returned (.int .u64 (UW (SH.ror n x))) ∧ w = w' := by
  have ha := sand63 n h0 h
  obtain ⟨m, hm⟩ : ∃ m, 64 - n = m := ⟨_, rfl⟩
  rw [hm] at ha
  have hm0 : 0 < m := by omega
  have hm1 : m < 64 := by omega
  have HM := hid hm
  clear hm
  go_enter Tryd.func55, Tryd.ntmps55
  go_wp2_with fail
  go_ret
  refine ⟨int_u64 ?_, rfl⟩
  have hmm := HM.out
  rw [u_shr x _ (by omega), u_shl x _ hm1, u_or, or_toNat]
  unfold SH.ror
  rw [hmm, show 64 - m = n by omega]

/-- Turned by each of a list, and all together. -/
def mixl (x : UInt64) (ns : List Nat) : UInt64 := ns.foldl (fun y n => y ^^^ SH.ror n x) 0
set_option maxRecDepth 100000 in
theorem mixl_snoc (x : UInt64) (ns : List Nat) (n : Nat) : mixl x (ns ++ [n]) = mixl x ns ^^^ SH.ror n x := by simp [mixl]

set_option maxRecDepth 100000 in
set_option maxHeartbeats 400000 in
theorem mixed_any (x : UInt64) (bw cap : Nat) (ns : List Nat) (W : World) (hn : ∀ n ∈ ns, 0 < n ∧ n < 64) (hl : ns.length ≤ 3) (_hcap : ns.length ≤ cap)
    (hc : ∀ j, j < ns.length → W.cell? ⟨bw, j, none⟩ = some (.int .i64 ((ns.getD j 0 : Nat) : Int))) :
    Calls Tryd.prog 54 #[.int .u64 (UW x), .slice (some ⟨bw, 0, none⟩) ns.length cap] W fun e w' => e = .returned (.int .u64 (UW (mixl x ns))) ∧ W = w' := by
  have HC := hid hc
  have HN := hid hn
  clear hc hn
  generalize hlen : ns.length = len at *
  have HL := hid hlen
  clear hlen
  go_enter Tryd.func54, Tryd.ntmps54
  go_wp2_with fail
  go_loop [4, 9] (fun y i => ∃ k : Nat, k ≤ len ∧ i = .int .i64 (k : Int) ∧ y = .int .u64 (UW (mixl x (ns.take k)))) (fun _ i => (len - intOf i).toNat)
  case atStart => exact ⟨0, Nat.zero_le _, rfl, rfl⟩
  case round =>
    obtain ⟨k, hk, rfl, rfl⟩ := hrel
    by_cases hlt : k < len
    · have hd : decide ((k : Int) < (len : Int)) = true := decide_eq_true (by omega)
      have ck := HC.out k hlt
      have hkl : k < ns.length := by rw [HL.out]; exact hlt
      have hmem : ns.getD k 0 ∈ ns := by simp [hkl]
      have hb := HN.out _ hmem
      have hs : mixl x (ns.take (k + 1)) = mixl x (ns.take k) ^^^ SH.ror (ns.getD k 0) x := by
        rw [List.take_succ_eq_append_getElem hkl, mixl_snoc]; simp [hkl]
      have HS := hid hs
      clear hs hmem hkl
      generalize ns.getD k 0 = n at *
      generalize mixl x (ns.take k) = y at *
      go_wp2_with fail
      refine (rot_any x n hb.1 hb.2 _).mono ?_
      rintro e w' ⟨rfl, rfl⟩
      go_wp2_with fail
      go_round
      case rel => exact ⟨k + 1, by omega, by go_num, by rw [HS.out]⟩
      case measure => simp [intOf]; omega
    · have hd : decide ((k : Int) < (len : Int)) = false := decide_eq_false (by omega)
      have hkk : k = len := by omega
      have he : mixl x (ns.take k) = mixl x ns := by rw [hkk, List.take_of_length_le (by rw [HL.out]; omega)]
      rw [he]
      clear he hkk
      go_wp2_with fail
      go_ret
      exact ⟨rfl, rfl⟩

end Go.Proofs.YtceljjnohjnepaaDoor

namespace Go.Proofs.YtceljjnohjnepaaDoor
open SH

/-- The words of a block, of which i bytes were read. -/
def ld (bl : List UInt8) (i : Nat) : List UInt64 := (List.range 80).map fun j => be (((bl.take i).drop (8 * j)).take 8)
set_option maxRecDepth 100000 in
theorem ld_length (bl : List UInt8) (i : Nat) : (ld bl i).length = 80 := by simp [ld]
set_option maxRecDepth 100000 in
theorem ld_getD (bl : List UInt8) (i : Nat) {j : Nat} (h : j < 80) : (ld bl i).getD j 0 = be (((bl.take i).drop (8 * j)).take 8) := by simp [ld, h]
set_option maxRecDepth 100000 in
theorem ld_zero (bl : List UInt8) : ld bl 0 = List.replicate 80 0 := by
  apply List.ext_getElem
  · simp [ld]
  · intro j h1 h2
    rw [List.getElem_replicate]
    simp [ld, be]
set_option maxRecDepth 100000 in
theorem dnil {α : Type} {l : List α} {k : Nat} (h : l.length ≤ k) : l.drop k = [] := List.drop_eq_nil_of_le h
set_option maxRecDepth 100000 in
theorem tk8 {α : Type} {X : List α} (c : α) (h : X.length < 8) : (X ++ [c]).take 8 = X.take 8 ++ [c] := by
  rw [List.take_of_length_le (by simp; omega), List.take_of_length_le (by omega)]
set_option maxRecDepth 100000 in
theorem be_snoc (l : List UInt8) (c : UInt8) : be (l ++ [c]) = (be l <<< 8) ||| c.toUInt64 := by simp [be]
set_option maxRecDepth 100000 in
theorem ld_step (bl : List UInt8) (i : Nat) (hb : i < bl.length) (hi : i < 128) : ld bl (i + 1) = (ld bl i).set (i / 8) (((ld bl i).getD (i / 8) 0 <<< 8) ||| (bl.getD i 0).toUInt64) := by
  rw [ld_getD bl i (by omega), ← be_snoc]
  apply List.ext_getElem
  · simp [ld]
  · intro j h1 h2
    have hj : j < 80 := by simpa [ld] using h1
    rw [List.getElem_set]
    have e1 : (ld bl (i + 1))[j]'h1 = be (((bl.take (i + 1)).drop (8 * j)).take 8) := by simp [ld]
    have ht : bl.take (i + 1) = bl.take i ++ [bl.getD i 0] := by rw [List.take_succ_eq_append_getElem hb]; simp [hb]
    have hlen : (bl.take i).length = i := by rw [List.length_take]; omega
    rw [e1, ht]
    split
    · rename_i hij
      subst hij
      congr 1
      rw [List.drop_append_of_le_length (by omega), tk8 _ (by rw [List.length_drop]; omega)]
    · rename_i hij
      have e2 : (ld bl i)[j]'(by simp [ld]; exact hj) = be (((bl.take i).drop (8 * j)).take 8) := by simp [ld]
      rw [e2]
      congr 1
      rcases Nat.lt_or_ge i (8 * j) with h | h
      · rw [dnil (l := bl.take i ++ [bl.getD i 0]) (by simp; omega), dnil (l := bl.take i) (by omega)]
      · rw [List.drop_append_of_le_length (by omega), List.take_append_of_le_length (by rw [List.length_drop]; omega)]
set_option maxRecDepth 100000 in
theorem ld_end (bl : List UInt8) (hb : bl.length = 128) : ld bl 128 = words bl 16 ++ List.replicate 64 0 := by
  apply List.ext_getElem
  · simp [ld, words]
  · intro j h1 h2
    have hj : j < 80 := by simpa [ld] using h1
    rw [List.getElem_append]
    have e1 : (ld bl 128)[j]'h1 = be (((bl.take 128).drop (8 * j)).take 8) := by simp [ld]
    rw [e1, List.take_of_length_le (l := bl) (by omega)]
    split
    · simp [words]
    · rename_i h
      have : 16 ≤ j := by simpa [words] using h
      rw [dnil (by omega), List.getElem_replicate]
      simp [be]
set_option maxRecDepth 100000 in
theorem words_length (bl : List UInt8) (n : Nat) : (words bl n).length = n := by simp [words]

def wordOf (a b c d : UInt64) : UInt64 := a + s0 b + c + s1 d
/-- The row while it grows. -/
def gr (W : List UInt64) (n : Nat) : List UInt64 := ext n W ++ List.replicate (64 - n) 0
set_option maxRecDepth 100000 in
theorem gr_length {W : List UInt64} (hW : W.length = 16) {n : Nat} (h : n ≤ 64) : (gr W n).length = 80 := by
  unfold gr; rw [List.length_append, ext_length, List.length_replicate]; omega
set_option maxRecDepth 100000 in
theorem gr_step {W : List UInt64} (hW : W.length = 16) {n i : Nat} (h : n < 64) (hi : i = 16 + n) :
    (gr W n).set i (wordOf ((gr W n).getD (i - 16) 0) ((gr W n).getD (i - 15) 0) ((gr W n).getD (i - 7) 0) ((gr W n).getD (i - 2) 0)) = gr W (n + 1) := by
  subst hi
  have hl : (ext n W).length = 16 + n := by rw [ext_length, hW]
  have g : ∀ k, k < 16 + n → (gr W n).getD k 0 = (ext n W).getD k 0 := fun k hk => by
    unfold gr
    simp [List.getElem?_append, hl, hk]
  rw [g _ (by omega), g _ (by omega), g _ (by omega), g _ (by omega)]
  have hw : wordOf ((ext n W).getD (16 + n - 16) 0) ((ext n W).getD (16 + n - 15) 0) ((ext n W).getD (16 + n - 7) 0) ((ext n W).getD (16 + n - 2) 0) = word (ext n W) := by
    unfold wordOf word; rw [hl]
  rw [hw]
  unfold gr
  rw [ext, List.append_assoc, ← hl, List.set_append_right _ _ (Nat.le_refl _), Nat.sub_self, show 64 - n = (64 - (n + 1)) + 1 by omega, List.replicate_succ, List.set_cons_zero]
  rfl

set_option maxRecDepth 100000 in
/-- One after the other of a row is put anew. -/
theorem put_len {α : Type} {A B : List α} (h : A.length = B.length) (i : Nat) : (A.take i ++ B.drop i).length = A.length := by
  rw [List.length_append, List.length_take, List.length_drop]; omega
set_option maxRecDepth 100000 in
theorem sput_get {A B : List UInt64} (h : A.length = B.length) {i : Nat} (hi : i < A.length) : (A.take i ++ B.drop i).getD i 0 = B.getD i 0 := by
  have : (A.take i).length = i := by rw [List.length_take]; omega
  simp [List.getElem?_append, this, List.getElem?_drop]
set_option maxRecDepth 100000 in
theorem put_step {A B : List UInt64} (h : A.length = B.length) {i : Nat} (hi : i < A.length) : (A.take i ++ B.drop i).set i (A.getD i 0) = A.take (i + 1) ++ B.drop (i + 1) := by
  have h1 : (A.take i).length = i := by rw [List.length_take]; omega
  rw [List.set_append_right _ _ (by omega), h1, Nat.sub_self, List.drop_eq_getElem_cons (by omega), List.set_cons_zero, List.take_succ_eq_append_getElem hi, List.append_assoc]
  simp [hi]

/-- Eight words in a list. -/
def stl (x : St) : List UInt64 := [x.a, x.b, x.c, x.d, x.e, x.f, x.g, x.h]
set_option maxRecDepth 100000 in
theorem stl_plus (x y : St) : List.zipWith (· + ·) (stl x) (stl y) = stl (plus x y) := rfl
set_option maxRecDepth 100000 in
theorem zip_get {A B : List UInt64} {i : Nat} (h : i < A.length) (hB : i < B.length) : (List.zipWith (· + ·) A B).getD i 0 = A.getD i 0 + B.getD i 0 := by
  simp [List.getElem?_zipWith, h, hB]

end Go.Proofs.YtceljjnohjnepaaDoor

namespace Go.Proofs.YtceljjnohjnepaaDoor
open Go.RowKit

set_option maxRecDepth 100000 in
theorem info_A80 : (Tryd.prog.info? 90).map (·.size) = some 80 := by kernel_rfl
set_option maxRecDepth 100000 in
theorem info_A8 : (Tryd.prog.info? 62).map (·.size) = some 8 := by kernel_rfl

/-- Eight words in memory. -/
def stv (x : SH.St) : Array Value := wrow (stl x)

set_option maxRecDepth 100000 in
@[go_sem] theorem zc80 : Tryd.zeroCells90 = wrow (List.replicate 80 0) := by kernel_rfl
set_option maxRecDepth 100000 in
@[go_sem] theorem zero80 (w : World) : (zeroValue 90).run Tryd.prog w = .ok (.agg (wrow (List.replicate 80 0))) w := by kernel_rfl

end Go.Proofs.YtceljjnohjnepaaDoor

namespace Go.Proofs.YtceljjnohjnepaaDoor
open Go.RowKit

set_option maxRecDepth 100000 in
@[go_sem] theorem u_push (x : UInt64) (c : UInt8) : bits .or .u64 (IntKind.u64.wrap (UW x * (256 : Int))) (c.toNat : Int) = UW ((x <<< 8) ||| c.toUInt64) := by
  have h := u_shl x 8 (by decide)
  rw [show ((2 : Int) ^ 8) = 256 from rfl] at h
  rw [h, show (c.toNat : Int) = UW c.toUInt64 by unfold UW; rw [UInt8.toNat_toUInt64], u_or]
  rfl
set_option maxRecDepth 100000 in
@[go_sem] theorem u_push' (x : UInt64) (c : UInt8) : bits .or .u64 (IntKind.u64.wrap (UW x * (256 : Int))) (IntKind.u64.wrap (c.toNat : Int)) = UW ((x <<< 8) ||| c.toUInt64) := by
  rw [show IntKind.u64.wrap (c.toNat : Int) = (c.toNat : Int) from IntWalk.u64_in _ (by have := c.toNat_lt; omega), u_push]
set_option maxRecDepth 100000 in
theorem store80 (l : List UInt64) (hl : l.length = 80) (w : World) : (storeCells ⟨w.heap.size, 0, none⟩ (wrow l).toList).run Tryd.prog (w.alloc (.cells (wrow [0, 0, 0, 0, 0, 0, 0, 0, 0, 0, 0, 0, 0, 0, 0, 0, 0, 0, 0, 0, 0, 0, 0, 0, 0, 0, 0, 0, 0, 0, 0, 0, 0, 0, 0, 0, 0, 0, 0, 0, 0, 0, 0, 0, 0, 0, 0, 0, 0, 0, 0, 0, 0, 0, 0, 0, 0, 0, 0, 0, 0, 0, 0, 0, 0, 0, 0, 0, 0, 0, 0, 0, 0, 0, 0, 0, 0, 0, 0, 0]) 90)) = .ok () (w.alloc (.cells (wrow l) 90)) :=
  store_cells_new w 90 _ (wrow l) (by rw [info_A80, wrow_size, hl]) (by rw [wrow_size, wrow_size, hl]; rfl) (wrow_one l)

end Go.Proofs.YtceljjnohjnepaaDoor

namespace Go.Proofs.YtceljjnohjnepaaDoor
open Go.RowKit

/-- Bytes in memory. -/
def brow (l : List UInt8) : Array Value := (l.map fun (c : UInt8) => Value.int .u8 (c.toNat : Int)).toArray
set_option maxRecDepth 100000 in
theorem brow_size (l : List UInt8) : (brow l).size = l.length := by simp [brow]
set_option maxRecDepth 100000 in
theorem brow_cell {w : World} {b : Nat} {l : List UInt8} {T : TypeId} {fz : Nat × Nat} (h : w.heap[b]? = some (.cells (brow l) T fz)) {j : Nat} (hj : j < l.length) : w.cell? ⟨b, j, none⟩ = some (.int .u8 ((l.getD j 0).toNat : Int)) := by
  rw [cell_at h]; simp [brow, hj]
set_option maxRecDepth 100000 in
theorem brow_store {w : World} {b : Nat} {l : List UInt8} {T : TypeId} {fz : Nat × Nat} (h : w.heap[b]? = some (.cells (brow l) T fz)) (j : Nat) (c : UInt8) : (w.setCell ⟨b, j, none⟩ (.int .u8 (c.toNat : Int))).heap[b]? = some (.cells (brow (l.set j c)) T fz) := by
  rw [at_setCell h]
  unfold brow
  rw [List.setIfInBounds_toArray, List.map_set]
set_option maxRecDepth 100000 in
theorem keepA {w : World} {p : Addr} {v : Value} (o : Obj) (h : w.cell? p = some v) : (w.alloc o).cell? p = some v := by rw [World.cell?_alloc_some _ _ _ (by rw [h]; rfl)]; exact h
set_option maxRecDepth 100000 in
theorem keepC {w : World} {b i j : Nat} {u v : Value} (h : w.cell? ⟨b, j, none⟩ = some v) (hne : j ≠ i) : (w.setCell ⟨b, i, none⟩ u).cell? ⟨b, j, none⟩ = some v := by
  have e : (⟨b, i, none⟩ : Addr) ≠ ⟨b, j, none⟩ := by intro hh; injection hh with _ h2; exact hne h2.symm
  rw [World.cell?_setCell_other (h := e)]; exact h
set_option maxRecDepth 100000 in
theorem mixed_18 (x : UInt64) (bw : Nat) (W : World) (h0 : W.cell? ⟨bw, 0, none⟩ = some (.int .i64 1)) (h1 : W.cell? ⟨bw, 1, none⟩ = some (.int .i64 8)) :
    Calls Tryd.prog 54 #[.int .u64 (UW x), .slice (some ⟨bw, 0, none⟩) 2 2] W fun e w' => e = .returned (.int .u64 (UW (SH.ror 1 x ^^^ SH.ror 8 x))) ∧ W = w' := by
  have h := mixed_any x bw 2 [1, 8] W (by decide) (by decide) (by decide) (fun j hj => match j, hj with | 0, _ => h0 | 1, _ => h1)
  have e : mixl x [1, 8] = SH.ror 1 x ^^^ SH.ror 8 x := by simp [mixl]
  rw [e] at h
  exact h
set_option maxRecDepth 100000 in
theorem mixed_1961 (x : UInt64) (bw : Nat) (W : World) (h0 : W.cell? ⟨bw, 0, none⟩ = some (.int .i64 19)) (h1 : W.cell? ⟨bw, 1, none⟩ = some (.int .i64 61)) :
    Calls Tryd.prog 54 #[.int .u64 (UW x), .slice (some ⟨bw, 0, none⟩) 2 2] W fun e w' => e = .returned (.int .u64 (UW (SH.ror 19 x ^^^ SH.ror 61 x))) ∧ W = w' := by
  have h := mixed_any x bw 2 [19, 61] W (by decide) (by decide) (by decide) (fun j hj => match j, hj with | 0, _ => h0 | 1, _ => h1)
  have e : mixl x [19, 61] = SH.ror 19 x ^^^ SH.ror 61 x := by simp [mixl]
  rw [e] at h
  exact h
set_option maxRecDepth 100000 in
theorem mixed_141841 (x : UInt64) (bw : Nat) (W : World) (h0 : W.cell? ⟨bw, 0, none⟩ = some (.int .i64 14)) (h1 : W.cell? ⟨bw, 1, none⟩ = some (.int .i64 18)) (h2 : W.cell? ⟨bw, 2, none⟩ = some (.int .i64 41)) :
    Calls Tryd.prog 54 #[.int .u64 (UW x), .slice (some ⟨bw, 0, none⟩) 3 3] W fun e w' => e = .returned (.int .u64 (UW (SH.ror 14 x ^^^ SH.ror 18 x ^^^ SH.ror 41 x))) ∧ W = w' := by
  have h := mixed_any x bw 3 [14, 18, 41] W (by decide) (by decide) (by decide) (fun j hj => match j, hj with | 0, _ => h0 | 1, _ => h1 | 2, _ => h2)
  have e : mixl x [14, 18, 41] = SH.ror 14 x ^^^ SH.ror 18 x ^^^ SH.ror 41 x := by simp [mixl]
  rw [e] at h
  exact h
set_option maxRecDepth 100000 in
theorem mixed_283439 (x : UInt64) (bw : Nat) (W : World) (h0 : W.cell? ⟨bw, 0, none⟩ = some (.int .i64 28)) (h1 : W.cell? ⟨bw, 1, none⟩ = some (.int .i64 34)) (h2 : W.cell? ⟨bw, 2, none⟩ = some (.int .i64 39)) :
    Calls Tryd.prog 54 #[.int .u64 (UW x), .slice (some ⟨bw, 0, none⟩) 3 3] W fun e w' => e = .returned (.int .u64 (UW (SH.ror 28 x ^^^ SH.ror 34 x ^^^ SH.ror 39 x))) ∧ W = w' := by
  have h := mixed_any x bw 3 [28, 34, 39] W (by decide) (by decide) (by decide) (fun j hj => match j, hj with | 0, _ => h0 | 1, _ => h1 | 2, _ => h2)
  have e : mixl x [28, 34, 39] = SH.ror 28 x ^^^ SH.ror 34 x ^^^ SH.ror 39 x := by simp [mixl]
  rw [e] at h
  exact h
set_option maxRecDepth 100000 in
theorem word_eq (a c x y : UInt64) : a + c + x + y = a + x + c + y := by rw [UInt64.add_assoc a c x, UInt64.add_comm c x, ← UInt64.add_assoc]
set_option maxRecDepth 100000 in
theorem info_State : (Tryd.prog.info? 77).map (·.size) = some 8 := by kernel_rfl
set_option maxRecDepth 100000 in
theorem idx80 (l : List UInt64) (hl : l.length = 80) (i : Nat) (hi : i < 80) (w : World) : (Instr.index 90 (.agg (wrow l)) (.int .i64 (i : Int))).run Tryd.prog w = .ok (.int .u64 (UW (l.getD i 0))) w := by
  have hsz : (sizeOf 34).run Tryd.prog w = .ok 1 w := by kernel_rfl
  unfold Instr.index
  simp only [Sem.run_bind, asIntOf, Sem.run_pure, Result.andThen_ok, run_underlying Tryd.underlying90]
  rw [if_pos (by omega)]
  simp only [Sem.run_bind, hsz, Result.andThen_ok, Nat.mul_one, Int.toNat_natCast]
  unfold part
  have hagg : (isAgg 34).run Tryd.prog w = .ok false w := by
    unfold isAgg
    rw [Sem.run_bind, run_underlying Tryd.underlying34 w]
    rfl
  simp [Sem.run_bind, hagg, wrow_get l (show i < l.length by omega)]

set_option maxRecDepth 100000 in
theorem slice_A128 (bb k : Nat) (hk : k < 16) (w : World) : (Instr.sliceAt 78 (.pointer (some ⟨bb, 0, none⟩)) (some (.int .i64 (8 * (k : Int)))) (some (.int .i64 (8 * (k : Int) + 8))) none).run Tryd.prog w = .ok (.slice (some ⟨bb, 8 * k, none⟩) 8 (128 - 8 * k)) w := by
  have ha : Tryd.prog.arrayLen 78 = 128 := by kernel_rfl
  have hsz : (sizeOf (Tryd.prog.elem 78)).run Tryd.prog w = .ok 1 w := by kernel_rfl
  rw [run_sliceAt_array_lh w 78 _ Tryd.underlying78 _ _ _ _ (by omega) (by omega) (by rw [ha]; omega), hsz, ha]
  unfold slicedAt
  simp only [Result.andThen_ok, Nat.mul_one]
  rw [if_neg (by omega), show (8 * (k : Int)).toNat = 8 * k by omega, show (8 * (k : Int) + 8).toNat - 8 * k = 8 by omega]
  by_cases hk0 : k = 0
  · subst hk0; rfl
  · simp [Addr.add]; omega

set_option maxRecDepth 100000 in
set_option maxHeartbeats 4000000 in
theorem block_any (h : SH.St) (bl : List UInt8) (sb bb : Nat) (fb fg : Nat × Nat) (TB TG : TypeId) (W : World) (hb : bl.length = 128) (hS : W.heap[sb]? = some (.cells (stv h) 77 (0, 0))) (hB : W.heap[bb]? = some (.cells (brow bl) TB fb))
    (hG : W.heap[0]? = some (.cells (wrow SH.K) TG fg)) (_hne : sb ≠ bb) (_hn0 : sb ≠ 0) :
    Calls Tryd.prog 45 #[.pointer (some ⟨sb, 0, none⟩), .pointer (some ⟨bb, 0, none⟩)] W fun e w' => e = .returned (.tuple #[]) ∧ Only sb W w' ∧ w'.heap[sb]? = some (.cells (stv (SH.block h bl)) 77 (0, 0)) := by
  have lS := lt_blk hS
  have lB := lt_blk hB
  have HS := hid hS
  have HBB := hid hB
  have HG := hid hG
  have HB := hid hb
  clear hS hB hG hb
  go_enter Tryd.func45, Tryd.ntmps45
  go_wp2_with fail
  obtain ⟨N, hN⟩ : ∃ N, N = W.heap.size := ⟨_, rfl⟩
  rw [← hN]
  have HN := hid hN
  rw [← hN] at lS lB
  go_loopw [18] (fun i wr => ∃ k : Nat, k ≤ 16 ∧ i = .int .i64 (k : Int) ∧ wr.heap[sb]? = some (.cells (stv h) 77 (0, 0)) ∧ wr.heap[bb]? = some (.cells (brow bl) TB fb) ∧ wr.heap[0]? = some (.cells (wrow SH.K) TG fg) ∧
    wr.heap[N]? = some (.cells (wrow (ld bl (8 * k))) 90 (0, 0)) ∧ Only sb W wr) (fun i _ => (16 - intOf i).toNat)
  case atStart =>
    refine ⟨0, by omega, rfl, alloc_old HS.out, alloc_old HBB.out, alloc_old HG.out, ?_, (Only.refl _ _).alloc _⟩
    rw [show 8 * 0 = 0 from rfl, ld_zero]
    exact alloc_at' hN _
  case round =>
    clear hN
    obtain ⟨k, hk, rfl, rS, rB, rG, rW, ro⟩ := hrel
    have RS := hid rS
    have RB := hid rB
    have RG := hid rG
    have RW := hid rW
    have RO := hid ro
    by_cases hlt : k < 16
    · have hd : decide ((k : Int) < 16) = true := decide_eq_true (by omega)
      have hi0 : 0 ≤ (k : Int) := by omega
      have hi1 : (k : Int) < 16 := by omega
      clear rS rB rG rW ro HS HBB HG
      have hsl := slice_A128 bb k hlt
      go_wp2_with fail
      clear hsl
      go_loopw [30] (fun i wr => ∃ j : Nat, j ≤ 8 ∧ i = .int .i64 (j : Int) ∧ wr.heap[sb]? = some (.cells (stv h) 77 (0, 0)) ∧ wr.heap[bb]? = some (.cells (brow bl) TB fb) ∧ wr.heap[0]? = some (.cells (wrow SH.K) TG fg) ∧
        wr.heap[N]? = some (.cells (wrow (ld bl (8 * k + j))) 90 (0, 0)) ∧ Only sb W wr) (fun i _ => (8 - intOf i).toNat)
      case atStart => exact ⟨0, by omega, rfl, RS.out, RB.out, RG.out, RW.out, RO.out⟩
      case round =>
        clear RS RB RG RW RO
        obtain ⟨j, hj, rfl, rS, rB, rG, rW, ro⟩ := hrel
        have RS := hid rS
        have RB := hid rB
        have RG := hid rG
        have RW := hid rW
        have RO := hid ro
        by_cases hlt2 : j < 8
        · have hd2 : decide ((j : Int) < 8) = true := decide_eq_true (by omega)
          have hj0 : 0 ≤ (j : Int) := by omega
          have hj1 : (j : Int) < 8 := by omega
          have cb := brow_cell rB (j := 8 * k + j) (by rw [HB.out]; omega)
          have cw := wrow_cell rW (j := k) (by rw [ld_length]; omega)
          have hf := free_at rW
          have hk80 : (k : Int) < 80 := by omega
          have hst := ld_step bl (8 * k + j) (by rw [HB.out]; omega) (by omega)
          rw [show (8 * k + j) / 8 = k by omega] at hst
          generalize (ld bl (8 * k + j)).getD k 0 = x at *
          generalize bl.getD (8 * k + j) 0 = c at *
          have HST := hid hst
          clear rS rB rG rW ro hst
          go_wp2_with fail
          refine ⟨⟨j + 1, by omega, by go_num, at_setCell_other RS.out (by show sb ≠ N; omega) _, at_setCell_other RB.out (by show bb ≠ N; omega) _, at_setCell_other RG.out (by show 0 ≠ N; omega) _, ?_, RO.out.setCell (.inr (by have := HN.out; simp; omega)) _⟩, by simp [intOf]; omega⟩
          rw [show 8 * k + (j + 1) = 8 * k + j + 1 by omega, HST.out]
          exact wrow_store RW.out _ _
        · have hd2 : decide ((j : Int) < 8) = false := decide_eq_false (by omega)
          have hj5 : j = 8 := by omega
          rw [hj5] at rW
          have RW2 := hid rW
          clear rS rB rG rW ro RW hj5
          go_wp2_with fail
          exact ⟨⟨k + 1, by omega, by go_num, RS.out, RB.out, RG.out, RW2.out, RO.out⟩, by simp [intOf]; omega⟩
    · have hd : decide ((k : Int) < 16) = false := decide_eq_false (by omega)
      have hk5 : k = 16 := by omega
      rw [hk5, show 8 * 16 = 128 from rfl, ld_end bl HB.out] at rW
      have RW2 := hid rW
      have hwl : (SH.words bl 16).length = 16 := words_length bl 16
      have hW0 : SH.words bl 16 ++ List.replicate 64 0 = gr (SH.words bl 16) 0 := rfl
      rw [hW0] at RW2
      clear rS rB rG rW ro RW hW0 hk5 HS HBB HG
      generalize hW16 : SH.words bl 16 = W16 at *
      have HW16 := hid hW16
      clear hW16
      go_wp2_with fail
      clear hd hlt hk
      go_loopw [9] (fun i wq => ∃ n : Nat, n ≤ 64 ∧ i = .int .i64 ((16 + n : Nat) : Int) ∧ wq.heap[sb]? = some (.cells (stv h) 77 (0, 0)) ∧ wq.heap[0]? = some (.cells (wrow SH.K) TG fg) ∧
        wq.heap[N]? = some (.cells (wrow (gr W16 n)) 90 (0, 0)) ∧ Only sb W wq) (fun i _ => (80 - intOf i).toNat)
      case atStart => exact ⟨0, by omega, rfl, RS.out, RG.out, RW2.out, RO.out⟩
      case round =>
        clear RS RB RG RW2 RO
        obtain ⟨n, hn, rfl, rS, rG, rW, ro⟩ := hrel
        have RS := hid rS
        have RG := hid rG
        have RW := hid rW
        have RO := hid ro
        obtain ⟨i, hi⟩ : ∃ i, 16 + n = i := ⟨_, rfl⟩
        rw [hi]
        have HI := hid hi
        have HWL := hid hwl
        by_cases hlt : i < 80
        · have hd : decide ((i : Int) < 80) = true := decide_eq_true (by omega)
          have hlen := gr_length hwl hn
          have hst := gr_step hwl (n := n) (i := i) (by omega) (by omega)
          have hi16 : 16 ≤ i := by omega
          have hi0 : 0 ≤ (i : Int) := by omega
          have hi1 : (i : Int) < 80 := by omega
          have h1 : (i : Int) - 16 = ((i - 16 : Nat) : Int) := by omega
          have h2 : (i : Int) - 15 = ((i - 15 : Nat) : Int) := by omega
          have h3 : (i : Int) - 7 = ((i - 7 : Nat) : Int) := by omega
          have h4 : (i : Int) - 2 = ((i - 2 : Nat) : Int) := by omega
          have c1 := wrow_cell rW (j := i - 16) (by omega)
          have c2 := wrow_cell rW (j := i - 15) (by omega)
          have c3 := wrow_cell rW (j := i - 7) (by omega)
          have c4 := wrow_cell rW (j := i - 2) (by omega)
          have hf := free_at rW
          have hcw := wrow_cell rW (j := i) (by omega)
          generalize (gr W16 n).getD (i - 16) 0 = a at *
          generalize (gr W16 n).getD (i - 15) 0 = b at *
          generalize (gr W16 n).getD (i - 7) 0 = c at *
          generalize (gr W16 n).getD (i - 2) 0 = d at *
          obtain ⟨i1, e1⟩ : ∃ i1, i - 16 = i1 := ⟨_, rfl⟩
          obtain ⟨i2, e2⟩ : ∃ i1, i - 15 = i1 := ⟨_, rfl⟩
          obtain ⟨i3, e3⟩ : ∃ i1, i - 7 = i1 := ⟨_, rfl⟩
          obtain ⟨i4, e4⟩ : ∃ i1, i - 2 = i1 := ⟨_, rfl⟩
          have g1 : i1 < i := by omega
          have g2 : i2 < i := by omega
          have g3 : i3 < i := by omega
          have g4 : i4 < i := by omega
          rw [e1] at h1 c1
          rw [e2] at h2 c2
          rw [e3] at h3 c3
          rw [e4] at h4 c4
          have q1 : IntKind.i64.wrap ((i : Int) - 16) = (i1 : Int) := by rw [h1]; exact IntWalk.i64_in _ (by omega)
          have q2 : IntKind.i64.wrap ((i : Int) - 15) = (i2 : Int) := by rw [h2]; exact IntWalk.i64_in _ (by omega)
          have q3 : IntKind.i64.wrap ((i : Int) - 7) = (i3 : Int) := by rw [h3]; exact IntWalk.i64_in _ (by omega)
          have q4 : IntKind.i64.wrap ((i : Int) - 2) = (i4 : Int) := by rw [h4]; exact IntWalk.i64_in _ (by omega)
          have k1 : IntKind.i64.wrap (i1 : Int) = (i1 : Int) := IntWalk.i64_in _ (by omega)
          have k3 : IntKind.i64.wrap (i3 : Int) = (i3 : Int) := IntWalk.i64_in _ (by omega)
          have m1 : 0 ≤ (i1 : Int) := by omega
          have m2 : 0 ≤ (i2 : Int) := by omega
          have m3 : 0 ≤ (i3 : Int) := by omega
          have m4 : 0 ≤ (i4 : Int) := by omega
          have f1 : (i1 : Int) < 80 := by omega
          have f2 : (i2 : Int) < 80 := by omega
          have f3 : (i3 : Int) < 80 := by omega
          have f4 : (i4 : Int) < 80 := by omega
          have HST := hid hst
          have HLEN := hid hlen
          clear rS rG rW ro hi hst hlen hwl e1 e2 e3 e4
          go_wp2_with fail
          go_quiet (fail)
          have S3 : (wr.drewN nq).heap[sb]? = some (.cells (stv h) 77 (0, 0)) := RS.out
          have G3 : (wr.drewN nq).heap[0]? = some (.cells (wrow SH.K) TG fg) := RG.out
          have W3 : (wr.drewN nq).heap[N]? = some (.cells (wrow (gr W16 n)) 90 (0, 0)) := RW.out
          have O3 : Only sb W (wr.drewN nq) := RO.out.drewN _
          have d1 : (wr.drewN nq).cell? ⟨N, i1, none⟩ = some (.int .u64 (UW a)) := c1
          have d3 : (wr.drewN nq).cell? ⟨N, i3, none⟩ = some (.int .u64 (UW c)) := c3
          have dw : (wr.drewN nq).cell? ⟨N, i, none⟩ = some (.int .u64 (UW ((gr W16 n).getD i 0))) := hcw
          have df : ∀ k, (wr.drewN nq).frozen? ⟨N, k, none⟩ = false := hf
          generalize wr.drewN nq = w3 at *
          clear RS RG RW RO c1 c2 c3 c4 hcw hf
          have lN3 := lt_blk W3
          have dd1 : w3.drew.cell? ⟨N, i1, none⟩ = some (.int .u64 (UW a)) := d1
          have dd3 : w3.drew.cell? ⟨N, i3, none⟩ = some (.int .u64 (UW c)) := d3
          have n1 : i1 ≠ i := by omega
          have n3 : i3 ≠ i := by omega
          go_wp2_with fail
          go_region_held3 (fun w' => w'.cell? ⟨N, i1, none⟩ = some (.int .u64 (UW a)) ∧ w'.cell? ⟨N, i3, none⟩ = some (.int .u64 (UW c)))
            (first | with_reducible exact ⟨dd1, dd3⟩ | (go_split_ands; refine ⟨?_, ?_⟩ <;> first | with_reducible assumption | go_simp))
            (first | (go_at_call 54; (with_reducible refine Calls.mono (mixed_18 b _ _ ?_ ?_) ?_); (· go_simp); (· go_simp); rintro e w4 ⟨rfl, rfl⟩) | (go_at_call 54; (with_reducible refine Calls.mono (mixed_1961 d _ _ ?_ ?_) ?_); (· go_simp); (· go_simp); rintro e w5 ⟨rfl, rfl⟩))
          all_goals
            go_wp2_with fail
            have hv : a + c + (SH.ror 1 b ^^^ SH.ror 8 b ^^^ b >>> 7) + (SH.ror 19 d ^^^ SH.ror 61 d ^^^ d >>> 6) = wordOf a b c d := word_eq _ _ _ _
            refine ⟨⟨n + 1, by have := HI.out; omega, by rw [← HI.out]; go_num, alloc_old (alloc_old (at_setCell_other S3 (by show sb ≠ N; omega) _)), alloc_old (alloc_old (at_setCell_other G3 (by show 0 ≠ N; omega) _)), ?_, (((O3.setCell (.inr (by have := HN.out; simp; omega)) _).alloc _).alloc _).drew⟩, by simp [intOf]; omega⟩
            rw [← HST.out, ← hv]
            exact alloc_old (alloc_old (wrow_store W3 _ _))
        · have hd : decide ((i : Int) < 80) = false := decide_eq_false (by omega)
          have hn5 : n = 64 := by omega
          rw [hn5] at rW
          have hg : gr W16 64 = SH.ext 64 W16 := by unfold gr; simp
          rw [hg] at rW
          have RW2 := hid rW
          have hwl2 : (SH.ext 64 W16).length = 80 := by rw [SH.ext_length, hwl]
          obtain ⟨c0, c1, c2, c3, c4, c5, c6, c7⟩ := oct_cells rS
          clear rS rG rW ro RW hg hn5 hi hwl
          generalize hWLe : SH.ext 64 W16 = WL at *
          have HWLE := hid hWLe
          clear hWLe
          go_wp2_with fail
          refine opwp_load_row _ _ (by rfl) (by rfl) (alloc_old RG.out) Tryd.underlying90 rfl (by rw [info_A80, wrow_size]; rfl) ?_
          rename_i hK
          refine hK _ _ ?_
          go_wp2_with fail
          have S4 := alloc_old (o' := .cells (stv h) 77) RS.out
          have W4 := alloc_old (o' := .cells (stv h) 77) RW2.out
          have X4 := alloc_at wr (.cells (stv h) 77)
          have O4 := RO.out.alloc (.cells (stv h) 77)
          have hNM : N < wr.heap.size := lt_blk RW2.out
          have hSM : sb < wr.heap.size := lt_blk RS.out
          have hWM : W.heap.size ≤ wr.heap.size := RO.out.size
          have hM4 : wr.heap.size < (wr.alloc (.cells (stv h) 77)).heap.size := lt_blk X4
          have hxx : #[.int .u64 (UW h.a), .int .u64 (UW h.b), .int .u64 (UW h.c), .int .u64 (UW h.d), .int .u64 (UW h.e), .int .u64 (UW h.f), .int .u64 (UW h.g), .int .u64 (UW h.h)] = stv h := rfl
          rw [hxx]
          clear c0 c1 c2 c3 c4 c5 c6 c7 RS RG RW2 RO hxx hK
          generalize wr.alloc (.cells (stv h) 77) = w4 at *
          generalize wr.heap.size = M at *
          have S4' := hid S4
          have W4' := hid W4
          have X4' := hid X4
          have O4' := hid O4
          clear S4 W4 X4 O4
          go_loopw [88] (fun i wq => ∃ n : Nat, n ≤ 80 ∧ i = .int .i64 (n : Int) ∧ wq.heap[sb]? = some (.cells (stv h) 77 (0, 0)) ∧ wq.heap[N]? = some (.cells (wrow WL) 90 (0, 0)) ∧ wq.heap[M]? = some (.cells (stv (SH.rounds WL h n)) 77 (0, 0)) ∧ Only sb W wq) (fun i _ => (80 - intOf i).toNat)
          case atStart => exact ⟨0, by omega, rfl, S4'.out, W4'.out, X4'.out, O4'.out⟩
          case round =>
            clear S4' W4' X4' O4' hM4
            obtain ⟨n, hn, rfl, rS, rW, rX, ro⟩ := hrel
            have RS := hid rS
            have RW := hid rW
            have RO := hid ro
            have HWL2 := hid hwl2
            by_cases hlt : n < 80
            · have hd : decide ((n : Int) < 80) = true := decide_eq_true (by omega)
              have hi0 : 0 ≤ (n : Int) := by omega
              have hi1 : (n : Int) < 80 := by omega
              have hix := fun w => idx80 SH.K rfl n hlt w
              have cw := wrow_cell rW (j := n) (by rw [hwl2]; exact hlt)
              have hrr : SH.rounds WL h (n + 1) = SH.round (SH.rounds WL h n) (SH.K.getD n 0) (WL.getD n 0) := rfl
              generalize SH.K.getD n 0 = kk at *
              obtain ⟨ww, hww⟩ : ∃ ww, WL.getD n 0 = ww := ⟨_, rfl⟩
              rw [hww] at cw hrr
              have HWW := hid hww
              generalize hx : SH.rounds WL h n = x at *
              obtain ⟨xa, xb, xc, xd, xe, xf, xg, xh⟩ := x
              obtain ⟨c0, c1, c2, c3, c4, c5, c6, c7⟩ := oct_cells rX
              have hf := free_at rX
              have RX := hid rX
              have HRR := hid hrr
              have lM := lt_blk rX
              have RLM := hid lM
              clear rS rW rX ro hx hrr hwl2 hww lM
              go_wp2_with fail
              clear hix
              have dd : wr.drew.cell? ⟨M, 0, none⟩ = some (.int .u64 (UW xa)) ∧ wr.drew.cell? ⟨M, 1, none⟩ = some (.int .u64 (UW xb)) ∧ wr.drew.cell? ⟨M, 2, none⟩ = some (.int .u64 (UW xc)) ∧ wr.drew.cell? ⟨M, 3, none⟩ = some (.int .u64 (UW xd)) ∧ wr.drew.cell? ⟨M, 4, none⟩ = some (.int .u64 (UW xe)) ∧ wr.drew.cell? ⟨M, 5, none⟩ = some (.int .u64 (UW xf)) ∧ wr.drew.cell? ⟨M, 6, none⟩ = some (.int .u64 (UW xg)) ∧ wr.drew.cell? ⟨M, 7, none⟩ = some (.int .u64 (UW xh)) ∧ wr.drew.cell? ⟨N, n, none⟩ = some (.int .u64 (UW ww)) := ⟨c0, c1, c2, c3, c4, c5, c6, c7, cw⟩
              go_region_held3 (fun w' => w'.cell? ⟨M, 0, none⟩ = some (.int .u64 (UW xa)) ∧ w'.cell? ⟨M, 1, none⟩ = some (.int .u64 (UW xb)) ∧ w'.cell? ⟨M, 2, none⟩ = some (.int .u64 (UW xc)) ∧ w'.cell? ⟨M, 3, none⟩ = some (.int .u64 (UW xd)) ∧ w'.cell? ⟨M, 4, none⟩ = some (.int .u64 (UW xe)) ∧ w'.cell? ⟨M, 5, none⟩ = some (.int .u64 (UW xf)) ∧ w'.cell? ⟨M, 6, none⟩ = some (.int .u64 (UW xg)) ∧ w'.cell? ⟨M, 7, none⟩ = some (.int .u64 (UW xh)) ∧ w'.cell? ⟨N, n, none⟩ = some (.int .u64 (UW ww)))
                (first | with_reducible exact dd | (go_split_ands; refine ⟨?_, ?_, ?_, ?_, ?_, ?_, ?_, ?_, ?_⟩ <;> first | with_reducible assumption | go_simp))
                (first | (go_at_call 54; (with_reducible refine Calls.mono (mixed_141841 xe _ _ ?_ ?_ ?_) ?_); (· go_simp); (· go_simp); (· go_simp); rintro e w9 ⟨rfl, rfl⟩))
              clear dd
              have S3 := alloc_old (o' := (.cells #[.int .i64 14, .int .i64 18, .int .i64 41] 3)) RS.out
              have W3 := alloc_old (o' := (.cells #[.int .i64 14, .int .i64 18, .int .i64 41] 3)) RW.out
              have X3 := alloc_old (o' := (.cells #[.int .i64 14, .int .i64 18, .int .i64 41] 3)) RX.out
              have O3 := (RO.out.alloc (.cells #[.int .i64 14, .int .i64 18, .int .i64 41] 3)).drew
              have lM := Nat.lt_of_lt_of_le RLM.out (show wr.heap.size ≤ (wr.alloc (.cells #[.int .i64 14, .int .i64 18, .int .i64 41] 3)).heap.size by simp)
              replace S3 : (wr.alloc (.cells #[.int .i64 14, .int .i64 18, .int .i64 41] 3)).drew.heap[sb]? = _ := S3
              replace W3 : (wr.alloc (.cells #[.int .i64 14, .int .i64 18, .int .i64 41] 3)).drew.heap[N]? = _ := W3
              replace X3 : (wr.alloc (.cells #[.int .i64 14, .int .i64 18, .int .i64 41] 3)).drew.heap[M]? = _ := X3
              replace lM : M < (wr.alloc (.cells #[.int .i64 14, .int .i64 18, .int .i64 41] 3)).drew.heap.size := lM
              clear RS RW RX RO RLM c0 c1 c2 c3 c4 c5 c6 c7 cw hf
              generalize (wr.alloc (.cells #[.int .i64 14, .int .i64 18, .int .i64 41] 3)).drew = w3 at *
              obtain ⟨c0, c1, c2, c3, c4, c5, c6, c7⟩ := oct_cells X3
              have cw := wrow_cell W3 (j := n) (by rw [HWL2.out]; exact hlt)
              rw [HWW.out] at cw
              have hf := free_at X3
              have RS := hid S3
              have RW := hid W3
              have RX := hid X3
              have RO := hid O3
              have RLM := hid lM
              clear S3 W3 X3 O3 lM
              go_wp2_with fail
              have dd : w3.drew.cell? ⟨M, 0, none⟩ = some (.int .u64 (UW xa)) ∧ w3.drew.cell? ⟨M, 1, none⟩ = some (.int .u64 (UW xb)) ∧ w3.drew.cell? ⟨M, 2, none⟩ = some (.int .u64 (UW xc)) ∧ w3.drew.cell? ⟨M, 3, none⟩ = some (.int .u64 (UW xd)) ∧ w3.drew.cell? ⟨M, 4, none⟩ = some (.int .u64 (UW xe)) ∧ w3.drew.cell? ⟨M, 5, none⟩ = some (.int .u64 (UW xf)) ∧ w3.drew.cell? ⟨M, 6, none⟩ = some (.int .u64 (UW xg)) ∧ w3.drew.cell? ⟨M, 7, none⟩ = some (.int .u64 (UW xh)) ∧ w3.drew.cell? ⟨N, n, none⟩ = some (.int .u64 (UW ww)) := ⟨c0, c1, c2, c3, c4, c5, c6, c7, cw⟩
              go_region_held3 (fun w' => w'.cell? ⟨M, 0, none⟩ = some (.int .u64 (UW xa)) ∧ w'.cell? ⟨M, 1, none⟩ = some (.int .u64 (UW xb)) ∧ w'.cell? ⟨M, 2, none⟩ = some (.int .u64 (UW xc)) ∧ w'.cell? ⟨M, 3, none⟩ = some (.int .u64 (UW xd)) ∧ w'.cell? ⟨M, 4, none⟩ = some (.int .u64 (UW xe)) ∧ w'.cell? ⟨M, 5, none⟩ = some (.int .u64 (UW xf)) ∧ w'.cell? ⟨M, 6, none⟩ = some (.int .u64 (UW xg)) ∧ w'.cell? ⟨M, 7, none⟩ = some (.int .u64 (UW xh)) ∧ w'.cell? ⟨N, n, none⟩ = some (.int .u64 (UW ww)))
                (first | with_reducible exact dd | (go_split_ands; refine ⟨?_, ?_, ?_, ?_, ?_, ?_, ?_, ?_, ?_⟩ <;> first | with_reducible assumption | go_simp))
                (first | (go_at_call 54; (with_reducible refine Calls.mono (mixed_283439 xa _ _ ?_ ?_ ?_) ?_); (· go_simp); (· go_simp); (· go_simp); rintro e w9 ⟨rfl, rfl⟩))
              clear dd
              have S3 := alloc_old (o' := (.cells #[.int .i64 28, .int .i64 34, .int .i64 39] 3)) RS.out
              have W3 := alloc_old (o' := (.cells #[.int .i64 28, .int .i64 34, .int .i64 39] 3)) RW.out
              have X3 := alloc_old (o' := (.cells #[.int .i64 28, .int .i64 34, .int .i64 39] 3)) RX.out
              have O3 := (RO.out.alloc (.cells #[.int .i64 28, .int .i64 34, .int .i64 39] 3)).drew
              have lM := Nat.lt_of_lt_of_le RLM.out (show w3.heap.size ≤ (w3.alloc (.cells #[.int .i64 28, .int .i64 34, .int .i64 39] 3)).heap.size by simp)
              replace S3 : (w3.alloc (.cells #[.int .i64 28, .int .i64 34, .int .i64 39] 3)).drew.heap[sb]? = _ := S3
              replace W3 : (w3.alloc (.cells #[.int .i64 28, .int .i64 34, .int .i64 39] 3)).drew.heap[N]? = _ := W3
              replace X3 : (w3.alloc (.cells #[.int .i64 28, .int .i64 34, .int .i64 39] 3)).drew.heap[M]? = _ := X3
              replace lM : M < (w3.alloc (.cells #[.int .i64 28, .int .i64 34, .int .i64 39] 3)).drew.heap.size := lM
              clear RS RW RX RO RLM c0 c1 c2 c3 c4 c5 c6 c7 cw hf
              generalize (w3.alloc (.cells #[.int .i64 28, .int .i64 34, .int .i64 39] 3)).drew = w5 at *
              obtain ⟨c0, c1, c2, c3, c4, c5, c6, c7⟩ := oct_cells X3
              have cw := wrow_cell W3 (j := n) (by rw [HWL2.out]; exact hlt)
              rw [HWW.out] at cw
              have hf := free_at X3
              have RS := hid S3
              have RW := hid W3
              have RX := hid X3
              have RO := hid O3
              have RLM := hid lM
              clear S3 W3 X3 O3 lM
              go_wp2_with fail
              have E := set8 RX.out (xh + (SH.ror 14 xe ^^^ SH.ror 18 xe ^^^ SH.ror 41 xe) + (xg ^^^ xe &&& (xf ^^^ xg)) + kk + ww + ((SH.ror 28 xa ^^^ SH.ror 34 xa ^^^ SH.ror 39 xa) + (xa &&& xb ||| xc &&& (xa ||| xb)))) xa xb xc
                (xd + (xh + (SH.ror 14 xe ^^^ SH.ror 18 xe ^^^ SH.ror 41 xe) + (xg ^^^ xe &&& (xf ^^^ xg)) + kk + ww)) xe xf xg
              rw [E]
              have l3 := lt_blk RX.out
              refine ⟨⟨n + 1, by omega, by go_num, (blk_other sb (by omega)).trans RS.out, (blk_other N (by omega)).trans RW.out, ?_, RO.out.blk (.inr (by omega)) _⟩, by simp [intOf]; omega⟩
              rw [HRR.out]
              exact blk_heap l3
            · have hd : decide ((n : Int) < 80) = false := decide_eq_false (by omega)
              have hn5 : n = 80 := by omega
              have hxx := rX
              rw [hn5] at hxx
              obtain ⟨x, hx⟩ : ∃ x, SH.rounds WL h 80 = x := ⟨_, rfl⟩
              rw [hx] at hxx
              have RX := hid hxx
              have HX := hid hx
              clear rS rW rX ro hxx hx hn5 RW
              go_wp2_with fail
              clear hd hn hlt
              go_loopw [159] (fun i wq => ∃ n : Nat, n ≤ 8 ∧ i = .int .i64 (n : Int) ∧ wq.heap[sb]? = some (.cells (wrow ((stl (SH.plus h x)).take n ++ (stl h).drop n)) 77 (0, 0)) ∧
                wq.heap[M]? = some (.cells (wrow (stl x)) 77 (0, 0)) ∧ Only sb W wq) (fun i _ => (8 - intOf i).toNat)
              case atStart => exact ⟨0, by omega, rfl, RS.out, RX.out, RO.out⟩
              case round =>
                clear RS RX RO
                obtain ⟨n, hn, rfl, rH, rX, ro⟩ := hrel
                have RH := hid rH
                have RX := hid rX
                have RO := hid ro
                by_cases hlt : n < 8
                · have hd : decide ((n : Int) < 8) = true := decide_eq_true (by omega)
                  have hi0 : 0 ≤ (n : Int) := by omega
                  have hi1 : (n : Int) < 8 := by omega
                  have hl1 : (stl (SH.plus h x)).length = (stl h).length := rfl
                  have c1 := wrow_cell rH (j := n) (by rw [put_len hl1]; exact hlt)
                  rw [sput_get hl1 (by exact hlt)] at c1
                  have c2 := wrow_cell rX (j := n) (by exact hlt)
                  have hf := free_at rH
                  have hs := put_step hl1 (i := n) (by exact hlt)
                  rw [← stl_plus, zip_get (by exact hlt) (by exact hlt), stl_plus] at hs
                  generalize (stl h).getD n 0 = p at *
                  generalize (stl x).getD n 0 = q at *
                  have HSS := hid hs
                  clear rH rX ro hl1 hs
                  go_wp2_with fail
                  refine still_tail 11 (by kernel_rfl) (by kernel_rfl) ?_
                  simp only [List.take_succ_cons, List.take_zero, List.drop_succ_cons, List.drop_zero]
                  repeat (first | (refine wpStill_step (fun K hK => ?_); go_simp; refine hK _ ?_; clear hK K; try go_ints))
                  refine wpStill_nil ?_
                  go_wp2_with fail
                  refine ⟨⟨n + 1, by omega, by go_num, ?_, at_setCell_other RX.out (by show M ≠ sb; omega) _, (RO.out.setCell (.inl rfl) _).drew⟩, by simp [intOf]; omega⟩
                  rw [← HSS.out]
                  exact wrow_store RH.out _ _
                · have hd : decide ((n : Int) < 8) = false := decide_eq_false (by omega)
                  have hn5 : n = 8 := by omega
                  rw [hn5] at rH
                  have hp : (stl (SH.plus h x)).take 8 ++ (stl h).drop 8 = stl (SH.plus h x) := rfl
                  have hblk : SH.plus h x = SH.block h bl := by
                    unfold SH.block
                    rw [HW16.out, HWLE.out, HX.out]
                  rw [hp, hblk] at rH
                  have RH2 := hid rH
                  clear rH rX ro hp RH
                  go_wp2_with fail
                  go_end0
                  exact ⟨rfl, RO.out, RH2.out⟩

end Go.Proofs.YtceljjnohjnepaaDoor

namespace Go.Proofs.YtceljjnohjnepaaDoor
open Go.RowKit

/-- What stands in memory when a text was taken in so far. -/
structure Taken (sb nb bb : Nat) (TG : TypeId) (fg : Nat × Nat) (l : List UInt8) (w : World) : Prop where
  st : w.heap[sb]? = some (.cells (stv (SH.run l (l.length / 128))) 77 (0, 0))
  num : w.heap[nb]? = some (.cells #[.int .u64 (l.length : Int)] 34 (0, 0))
  buf : ∃ B : List UInt8, B.length = 128 ∧ B.take (l.length % 128) = l.drop (128 * (l.length / 128)) ∧ w.heap[bb]? = some (.cells (brow B) 78 (0, 0))
  tab : w.heap[0]? = some (.cells (wrow SH.K) TG fg)

set_option maxRecDepth 100000 in
theorem take_set {B : List UInt8} {j : Nat} (c : UInt8) (h : j < B.length) : (B.set j c).take (j + 1) = B.take j ++ [c] := by
  rw [List.take_succ_eq_append_getElem (by simpa using h)]
  simp [List.take_set_of_le]
set_option maxRecDepth 100000 in
theorem run_more {l : List UInt8} {c : UInt8} {q : Nat} (h : l.length + 1 = 128 * (q + 1)) : SH.run (l ++ [c]) (q + 1) = SH.block (SH.run l q) (l.drop (128 * q) ++ [c]) := by
  rw [SH.run, SH.run_append _ _ _ (by omega), List.drop_append_of_le_length (by omega), List.take_of_length_le (by simp; omega)]

set_option maxRecDepth 100000 in
set_option maxHeartbeats 1000000 in
theorem sadd_any (c : UInt8) (sb nb bb : Nat) (TG : TypeId) (fg : Nat × Nat) (l : List UInt8) (w : World) (h : Taken sb nb bb TG fg l w) (hl : l.length < 1152921504606846976) (h1 : sb ≠ nb) (h2 : sb ≠ bb) (h3 : nb ≠ bb) (h4 : sb ≠ 0) (h5 : nb ≠ 0) (h6 : bb ≠ 0) :
    Calls Tryd.prog 44 #[.int .u8 (c.toNat : Int), .pointer (some ⟨bb, 0, none⟩), .pointer (some ⟨nb, 0, none⟩), .pointer (some ⟨sb, 0, none⟩)] w
      fun e w' => e = .returned (.tuple #[]) ∧ Taken sb nb bb TG fg (l ++ [c]) w' ∧ But [sb, nb, bb] w w' := by
  obtain ⟨hS, hN, ⟨B, hB, hT, hF⟩, hG⟩ := h
  have HS := hid hS
  have HN := hid hN
  have HG := hid hG
  have HT := hid hT
  have HF := hid hF
  have HB := hid hB
  obtain ⟨n, hn⟩ : ∃ n, l.length = n := ⟨_, rfl⟩
  have HL := hid hn
  rw [hn] at hN hl HT HN HS
  have cn : w.cell? ⟨nb, 0, none⟩ = some (.int .u64 (n : Int)) := cell_at hN 0
  have fn := free_at hN
  have cb := brow_cell hF (j := n % 128) (by omega)
  have fb := free_at hF
  have i0 : 0 ≤ (n : Int) % 128 := by omega
  have i1 : (n : Int) % 128 < 128 := by omega
  have i2 : ((n : Int) % 128).toNat = n % 128 := by omega
  clear hS hN hT hF hG hB hn
  have hlen : (l ++ [c]).length = n + 1 := by rw [List.length_append, HL.out]; rfl
  have HLEN := hid hlen
  clear hlen
  have HB2 : (B.set (n % 128) c).length = 128 := by rw [List.length_set]; exact HB.out
  have HBL := hid HB2
  have wS := at_setCell_other (at_setCell_other HS.out (p := ⟨bb, n % 128, none⟩) (by show sb ≠ bb; exact h2) (.int .u8 (c.toNat : Int))) (p := ⟨nb, 0, none⟩) (by show sb ≠ nb; exact h1) (.int .u64 ((n : Int) + 1))
  have wN := at_setCell (at_setCell_other HN.out (p := ⟨bb, n % 128, none⟩) (by show nb ≠ bb; exact h3) (.int .u8 (c.toNat : Int))) 0 (.int .u64 ((n : Int) + 1))
  have wF := at_setCell_other (brow_store HF.out (n % 128) c) (p := ⟨nb, 0, none⟩) (by show bb ≠ nb; exact h3.symm) (.int .u64 ((n : Int) + 1))
  have wG := at_setCell_other (at_setCell_other HG.out (p := ⟨bb, n % 128, none⟩) (by show 0 ≠ bb; exact h6.symm) (.int .u8 (c.toNat : Int))) (p := ⟨nb, 0, none⟩) (by show 0 ≠ nb; exact h5.symm) (.int .u64 ((n : Int) + 1))
  have wO : But [sb, nb, bb] w ((w.setCell ⟨bb, n % 128, none⟩ (.int .u8 (c.toNat : Int))).setCell ⟨nb, 0, none⟩ (.int .u64 ((n : Int) + 1))) := ((But.refl _ w).setCell (.inl (by simp)) _).setCell (.inl (by simp)) _
  have wN' : ((w.setCell ⟨bb, n % 128, none⟩ (.int .u8 (c.toNat : Int))).setCell ⟨nb, 0, none⟩ (.int .u64 ((n : Int) + 1))).heap[nb]? = some (.cells #[.int .u64 ((n + 1 : Nat) : Int)] 34 (0, 0)) := wN
  have hdrop : (l ++ [c]).drop (128 * (n / 128)) = l.drop (128 * (n / 128)) ++ [c] := List.drop_append_of_le_length (by have := HL.out; omega)
  have htake : (B.set (n % 128) c).take (n % 128 + 1) = l.drop (128 * (n / 128)) ++ [c] := by rw [take_set c (by have := HB.out; omega), HT.out]
  have WS := hid wS
  have WN := hid wN'
  have WF := hid wF
  have WG := hid wG
  have WO := hid wO
  have HD := hid hdrop
  have HTK := hid htake
  clear wS wN wN' wF wG wO hdrop htake HB2
  by_cases hz : (n + 1) % 128 = 0
  · have hd : ((((n : Int) + 1) % 128) == 0) = true := beq_iff_eq.2 (by omega)
    have hB' : B.set (n % 128) c = l.drop (128 * (n / 128)) ++ [c] := by
      rw [← HTK.out, List.take_of_length_le (by rw [HBL.out]; omega)]
    have hF' := WF.out
    rw [hB'] at hF'
    have hl128 : (l.drop (128 * (n / 128)) ++ [c]).length = 128 := by rw [← hB']; exact HBL.out
    have hrun := run_more (l := l) (c := c) (q := n / 128) (by rw [HL.out]; omega)
    have HFF := hid hF'
    have H128 := hid hl128
    have HRUN := hid hrun
    clear hB' hF' hl128 hrun
    go_enter Tryd.func44, Tryd.ntmps44
    go_wp2_with fail
    refine (block_any _ _ sb bb _ _ _ _ _ H128.out WS.out HFF.out WG.out h2 h4).mono ?_
    rintro e w2 ⟨rfl, ho, hs⟩
    have s1 : w2.heap[sb]? = some (.cells (stv (SH.run (l ++ [c]) ((l ++ [c]).length / 128))) 77 (0, 0)) := by
      rw [HLEN.out, show (n + 1) / 128 = n / 128 + 1 by omega, HRUN.out]; exact hs
    have s2 : w2.heap[nb]? = some (.cells #[.int .u64 ((l ++ [c]).length : Int)] 34 (0, 0)) := by rw [HLEN.out]; exact (ho.block nb (lt_blk WN.out) h1.symm).trans WN.out
    have s3 := (ho.block bb (lt_blk HFF.out) h2.symm).trans HFF.out
    have s4 := (ho.block 0 (lt_blk WG.out) h4.symm).trans WG.out
    have s5 := WO.out.trans (But.of_only ho (by simp))
    have R : Taken sb nb bb TG fg (l ++ [c]) w2 := ⟨s1, s2, ⟨_, H128.out, by rw [HLEN.out, hz, List.take_zero, List.drop_eq_nil_of_le (by rw [HLEN.out]; omega)], s3⟩, s4⟩
    have HR := hid R
    have H5 := hid s5
    clear s1 s2 s3 s4 s5 R ho hs
    go_wp2_with fail
    go_end0
    exact ⟨rfl, HR.out, H5.out⟩
  · have hd : ((((n : Int) + 1) % 128) == 0) = false := beq_eq_false_iff_ne.2 (by omega)
    go_enter Tryd.func44, Tryd.ntmps44
    go_wp2_with fail
    go_end0
    have hq : (n + 1) / 128 = n / 128 := by omega
    refine ⟨rfl, ⟨?_, ?_, ⟨_, HBL.out, ?_, WF.out⟩, WG.out⟩, WO.out⟩
    · rw [HLEN.out, hq, SH.run_append _ _ _ (by rw [HL.out]; omega)]; exact WS.out
    · rw [HLEN.out]; exact WN.out
    · rw [HLEN.out, hq, show (n + 1) % 128 = n % 128 + 1 by omega, HD.out]; exact HTK.out

end Go.Proofs.YtceljjnohjnepaaDoor
