/- The walks of the digest: turns of a word. Plain lemmas on the digest's lists. The walks of the document's digest: a word, a block. The walk of the document's block. The walk of the program's block. -/
import Derived.Test.YtceljjnohjnepaaGreatDoorM14
import Derived.Test.YtceljjnohjnepaaGreatDoorM02
namespace Go.Proofs.YtceljjnohjnepaaGreatDoor
open Go.RowKit

set_option maxRecDepth 100000 in
theorem int_u64 {a b : Int} (h : a = b) : Ending.returned (.int .u64 a) = .returned (.int .u64 b) := by rw [h]

set_option maxRecDepth 100000 in
theorem sand63 (n : Nat) (h0 : 0 < n) (h : n < 64) : bits .and .u64 (IntKind.u64.wrap (-(n : Int))) 63 = ((64 - n : Nat) : Int) := by
  rw [IntKind.wrap_u64, show (-(n : Int)) % 18446744073709551616 = ((18446744073709551616 - n : Nat) : Int) by omega, show (63 : Int) = ((63 : Nat) : Int) from rfl, u64_and_nat _ _ (by omega) (by decide)]
  congr 1
  rw [show (63 : Nat) = 2 ^ 6 - 1 from rfl, Nat.and_two_pow_sub_one_eq_mod]
  omega
set_option maxRecDepth 100000 in
theorem or_toNat (x y : UInt64) : (x ||| y) = (y ||| x) := UInt64.or_comm x y

set_option maxRecDepth 100000 in
set_option maxHeartbeats 400000 in
theorem rot_any (x : UInt64) (n : Nat) (h0 : 0 < n) (h : n < 64) (w : World) :
    Calls Tryz.prog 97 #[.int .u64 (UW x), .int .i64 (-(n : Int))] w fun e w' => e = .returned (.int .u64 (UW (SH.ror n x))) ∧ w = w' := by
  have ha := sand63 n h0 h
  obtain ⟨m, hm⟩ : ∃ m, 64 - n = m := ⟨_, rfl⟩
  rw [hm] at ha
  have hm0 : 0 < m := by omega
  have hm1 : m < 64 := by omega
  have HM := hid hm
  clear hm
  go_enter Tryz.func97, Tryz.ntmps97
  go_wp2_with fail
  go_ret
  refine ⟨int_u64 ?_, rfl⟩
  have hmm := HM.out
  rw [u_shr x _ (by omega), u_shl x _ hm1, u_or, or_toNat]
  unfold SH.ror
  rw [hmm, show 64 - m = n by omega]

set_option maxRecDepth 100000 in
set_option maxHeartbeats 400000 in
theorem right_any (x : UInt64) (n : Nat) (h0 : 0 < n) (h : n < 64) (w : World) :
    Calls Tryz.prog 88 #[.int .u64 (UW x), .int .u64 (n : Int)] w fun e w' => e = .returned (.int .u64 (UW (SH.ror n x))) ∧ w = w' := by
  go_enter Tryz.func88, Tryz.ntmps88
  go_wp2_with fail
  go_ret
  refine ⟨int_u64 ?_, rfl⟩
  rw [u_shr x _ h, u_shl x _ (by omega), u_or]
  rfl

set_option maxRecDepth 100000 in
theorem right_lit (x : UInt64) (n : Nat) (k : Int) (hk : (n : Int) = k) (h0 : 0 < n) (h : n < 64) (w : World) :
    Calls Tryz.prog 88 #[.int .u64 (UW x), .int .u64 k] w fun e w' => e = .returned (.int .u64 (UW (SH.ror n x))) ∧ w' = w := by
  subst hk; exact rsame (right_any x n h0 h w)

/-- Turned by each of a list, and all together. -/
def mixl (x : UInt64) (ns : List Nat) : UInt64 := ns.foldl (fun y n => y ^^^ SH.ror n x) 0
set_option maxRecDepth 100000 in
theorem mixl_snoc (x : UInt64) (ns : List Nat) (n : Nat) : mixl x (ns ++ [n]) = mixl x ns ^^^ SH.ror n x := by simp [mixl]

set_option maxRecDepth 100000 in
set_option maxHeartbeats 400000 in
theorem mixed_any (x : UInt64) (bw cap : Nat) (ns : List Nat) (W : World) (hn : ∀ n ∈ ns, 0 < n ∧ n < 64) (hl : ns.length ≤ 3) (_hcap : ns.length ≤ cap)
    (hc : ∀ j, j < ns.length → W.cell? ⟨bw, j, none⟩ = some (.int .i64 ((ns.getD j 0 : Nat) : Int))) :
    Calls Tryz.prog 96 #[.int .u64 (UW x), .slice (some ⟨bw, 0, none⟩) ns.length cap] W fun e w' => e = .returned (.int .u64 (UW (mixl x ns))) ∧ W = w' := by
  have HC := hid hc
  have HN := hid hn
  clear hc hn
  generalize hlen : ns.length = len at *
  have HL := hid hlen
  clear hlen
  go_enter Tryz.func96, Tryz.ntmps96
  go_wp2_with fail
  go_loop [4, 9] (fun y i => ∃ k : Nat, k ≤ len ∧ i = .int .i64 (k : Int) ∧ y = .int .u64 (UW (mixl x (ns.take k)))) (fun _ i => (len - intOf i).toNat)
  case atStart => exact ⟨0, Nat.zero_le _, rfl, rfl⟩
  case round =>
    obtain ⟨k, hk, rfl, rfl⟩ := hrel
    by_cases hlt : k < len
    · have hd : decide ((k : Int) < (len : Int)) = true := decide_eq_true (by omega)
      have ck := HC.out k hlt
      have hkl : k < ns.length := by rw [HL.out]; exact hlt
      have hmem : ns.getD k 0 ∈ ns := by simp [hkl]
      have hb := HN.out _ hmem
      have hs : mixl x (ns.take (k + 1)) = mixl x (ns.take k) ^^^ SH.ror (ns.getD k 0) x := by
        rw [List.take_succ_eq_append_getElem hkl, mixl_snoc]; simp [hkl]
      have HS := hid hs
      clear hs hmem hkl
      generalize ns.getD k 0 = n at *
      generalize mixl x (ns.take k) = y at *
      go_wp2_with fail
      refine (rot_any x n hb.1 hb.2 _).mono ?_
      rintro e w' ⟨rfl, rfl⟩
      go_wp2_with fail
      go_round
      case rel => exact ⟨k + 1, by omega, by go_num, by rw [HS.out]⟩
      case measure => simp [intOf]; omega
    · have hd : decide ((k : Int) < (len : Int)) = false := decide_eq_false (by omega)
      have hkk : k = len := by omega
      have he : mixl x (ns.take k) = mixl x ns := by rw [hkk, List.take_of_length_le (by rw [HL.out]; omega)]
      rw [he]
      clear he hkk
      go_wp2_with fail
      go_ret
      exact ⟨rfl, rfl⟩

end Go.Proofs.YtceljjnohjnepaaGreatDoor

namespace Go.Proofs.YtceljjnohjnepaaGreatDoor
open SH

/-- The words of a block, of which i bytes were read. -/
def ld (bl : List UInt8) (i : Nat) : List UInt64 := (List.range 80).map fun j => be (((bl.take i).drop (8 * j)).take 8)
set_option maxRecDepth 100000 in
theorem ld_length (bl : List UInt8) (i : Nat) : (ld bl i).length = 80 := by simp [ld]
set_option maxRecDepth 100000 in
theorem ld_getD (bl : List UInt8) (i : Nat) {j : Nat} (h : j < 80) : (ld bl i).getD j 0 = be (((bl.take i).drop (8 * j)).take 8) := by simp [ld, h]
set_option maxRecDepth 100000 in
theorem ld_zero (bl : List UInt8) : ld bl 0 = List.replicate 80 0 := by
  apply List.ext_getElem
  · simp [ld]
  · intro j h1 h2
    rw [List.getElem_replicate]
    simp [ld, be]
set_option maxRecDepth 100000 in
theorem dnil {α : Type} {l : List α} {k : Nat} (h : l.length ≤ k) : l.drop k = [] := List.drop_eq_nil_of_le h
set_option maxRecDepth 100000 in
theorem tk8 {α : Type} {X : List α} (c : α) (h : X.length < 8) : (X ++ [c]).take 8 = X.take 8 ++ [c] := by
  rw [List.take_of_length_le (by simp; omega), List.take_of_length_le (by omega)]
set_option maxRecDepth 100000 in
theorem be_snoc (l : List UInt8) (c : UInt8) : be (l ++ [c]) = (be l <<< 8) ||| c.toUInt64 := by simp [be]
set_option maxRecDepth 100000 in
theorem ld_step (bl : List UInt8) (i : Nat) (hb : i < bl.length) (hi : i < 128) : ld bl (i + 1) = (ld bl i).set (i / 8) (((ld bl i).getD (i / 8) 0 <<< 8) ||| (bl.getD i 0).toUInt64) := by
  rw [ld_getD bl i (by omega), ← be_snoc]
  apply List.ext_getElem
  · simp [ld]
  · intro j h1 h2
    have hj : j < 80 := by simpa [ld] using h1
    rw [List.getElem_set]
    have e1 : (ld bl (i + 1))[j]'h1 = be (((bl.take (i + 1)).drop (8 * j)).take 8) := by simp [ld]
    have ht : bl.take (i + 1) = bl.take i ++ [bl.getD i 0] := by rw [List.take_succ_eq_append_getElem hb]; simp [hb]
    have hlen : (bl.take i).length = i := by rw [List.length_take]; omega
    rw [e1, ht]
    split
    · rename_i hij
      subst hij
      congr 1
      rw [List.drop_append_of_le_length (by omega), tk8 _ (by rw [List.length_drop]; omega)]
    · rename_i hij
      have e2 : (ld bl i)[j]'(by simp [ld]; exact hj) = be (((bl.take i).drop (8 * j)).take 8) := by simp [ld]
      rw [e2]
      congr 1
      rcases Nat.lt_or_ge i (8 * j) with h | h
      · rw [dnil (l := bl.take i ++ [bl.getD i 0]) (by simp; omega), dnil (l := bl.take i) (by omega)]
      · rw [List.drop_append_of_le_length (by omega), List.take_append_of_le_length (by rw [List.length_drop]; omega)]
set_option maxRecDepth 100000 in
theorem ld_end (bl : List UInt8) (hb : bl.length = 128) : ld bl 128 = words bl 16 ++ List.replicate 64 0 := by
  apply List.ext_getElem
  · simp [ld, words]
  · intro j h1 h2
    have hj : j < 80 := by simpa [ld] using h1
    rw [List.getElem_append]
    have e1 : (ld bl 128)[j]'h1 = be (((bl.take 128).drop (8 * j)).take 8) := by simp [ld]
    rw [e1, List.take_of_length_le (l := bl) (by omega)]
    split
    · simp [words]
    · rename_i h
      have : 16 ≤ j := by simpa [words] using h
      rw [dnil (by omega), List.getElem_replicate]
      simp [be]
set_option maxRecDepth 100000 in
theorem words_length (bl : List UInt8) (n : Nat) : (words bl n).length = n := by simp [words]

def wordOf (a b c d : UInt64) : UInt64 := a + s0 b + c + s1 d
/-- The row while it grows. -/
def gr (W : List UInt64) (n : Nat) : List UInt64 := ext n W ++ List.replicate (64 - n) 0
set_option maxRecDepth 100000 in
theorem gr_length {W : List UInt64} (hW : W.length = 16) {n : Nat} (h : n ≤ 64) : (gr W n).length = 80 := by
  unfold gr; rw [List.length_append, ext_length, List.length_replicate]; omega
set_option maxRecDepth 100000 in
theorem gr_step {W : List UInt64} (hW : W.length = 16) {n i : Nat} (h : n < 64) (hi : i = 16 + n) :
    (gr W n).set i (wordOf ((gr W n).getD (i - 16) 0) ((gr W n).getD (i - 15) 0) ((gr W n).getD (i - 7) 0) ((gr W n).getD (i - 2) 0)) = gr W (n + 1) := by
  subst hi
  have hl : (ext n W).length = 16 + n := by rw [ext_length, hW]
  have g : ∀ k, k < 16 + n → (gr W n).getD k 0 = (ext n W).getD k 0 := fun k hk => by
    unfold gr
    simp [List.getElem?_append, hl, hk]
  rw [g _ (by omega), g _ (by omega), g _ (by omega), g _ (by omega)]
  have hw : wordOf ((ext n W).getD (16 + n - 16) 0) ((ext n W).getD (16 + n - 15) 0) ((ext n W).getD (16 + n - 7) 0) ((ext n W).getD (16 + n - 2) 0) = word (ext n W) := by
    unfold wordOf word; rw [hl]
  rw [hw]
  unfold gr
  rw [ext, List.append_assoc, ← hl, List.set_append_right _ _ (Nat.le_refl _), Nat.sub_self, show 64 - n = (64 - (n + 1)) + 1 by omega, List.replicate_succ, List.set_cons_zero]
  rfl

set_option maxRecDepth 100000 in
/-- One after the other of a row is put anew. -/
theorem put_len {α : Type} {A B : List α} (h : A.length = B.length) (i : Nat) : (A.take i ++ B.drop i).length = A.length := by
  rw [List.length_append, List.length_take, List.length_drop]; omega
set_option maxRecDepth 100000 in
theorem sput_get {A B : List UInt64} (h : A.length = B.length) {i : Nat} (hi : i < A.length) : (A.take i ++ B.drop i).getD i 0 = B.getD i 0 := by
  have : (A.take i).length = i := by rw [List.length_take]; omega
  simp [List.getElem?_append, this, List.getElem?_drop]
set_option maxRecDepth 100000 in
theorem put_step {A B : List UInt64} (h : A.length = B.length) {i : Nat} (hi : i < A.length) : (A.take i ++ B.drop i).set i (A.getD i 0) = A.take (i + 1) ++ B.drop (i + 1) := by
  have h1 : (A.take i).length = i := by rw [List.length_take]; omega
  rw [List.set_append_right _ _ (by omega), h1, Nat.sub_self, List.drop_eq_getElem_cons (by omega), List.set_cons_zero, List.take_succ_eq_append_getElem hi, List.append_assoc]
  simp [hi]

/-- Eight words in a list. -/
def stl (x : St) : List UInt64 := [x.a, x.b, x.c, x.d, x.e, x.f, x.g, x.h]
set_option maxRecDepth 100000 in
theorem stl_plus (x y : St) : List.zipWith (· + ·) (stl x) (stl y) = stl (plus x y) := rfl
set_option maxRecDepth 100000 in
theorem zip_get {A B : List UInt64} {i : Nat} (h : i < A.length) (hB : i < B.length) : (List.zipWith (· + ·) A B).getD i 0 = A.getD i 0 + B.getD i 0 := by
  simp [List.getElem?_zipWith, h, hB]

end Go.Proofs.YtceljjnohjnepaaGreatDoor

namespace Go.Proofs.YtceljjnohjnepaaGreatDoor
open Go.RowKit

set_option maxRecDepth 100000 in
theorem info_A80 : (Tryz.prog.info? 119).map (·.size) = some 80 := by kernel_rfl
set_option maxRecDepth 100000 in
theorem info_A8 : (Tryz.prog.info? 82).map (·.size) = some 8 := by kernel_rfl

/-- Eight words in memory. -/
def stv (x : SH.St) : Array Value := wrow (stl x)

set_option maxRecDepth 100000 in
set_option maxHeartbeats 400000 in
theorem rword_any (l : List UInt64) (i : Nat) (W : World) (hl : l.length = 80) (h16 : 16 ≤ i) (h80 : i < 80) :
    Calls Tryz.prog 86 #[.agg (wrow l), .int .i64 (i : Int)] W fun e w' => e = .returned (.int .u64 (UW (wordOf (l.getD (i - 16) 0) (l.getD (i - 15) 0) (l.getD (i - 7) 0) (l.getD (i - 2) 0)))) ∧ Below W.heap.size W w' := by
  have hs : (wrow l).size = 80 := by rw [wrow_size, hl]
  have h1 : (i : Int) - 16 = ((i - 16 : Nat) : Int) := by omega
  have h2 : (i : Int) - 15 = ((i - 15 : Nat) : Int) := by omega
  have h3 : (i : Int) - 7 = ((i - 7 : Nat) : Int) := by omega
  have h4 : (i : Int) - 2 = ((i - 2 : Nat) : Int) := by omega
  obtain ⟨w1, hw1⟩ : ∃ w1, W.alloc (.cells (wrow l) 119) = w1 := ⟨_, rfl⟩
  have fA : w1.heap[W.heap.size]? = some (.cells (wrow l) 119 (0, 0)) := by rw [← hw1]; exact alloc_at _ _
  have bB := hid (hw1 ▸ below_new (w := W) (.cells (wrow l) 119))
  have c1 := wrow_cell fA (j := i - 16) (by omega)
  have c2 := wrow_cell fA (j := i - 15) (by omega)
  have c3 := wrow_cell fA (j := i - 7) (by omega)
  have c4 := wrow_cell fA (j := i - 2) (by omega)
  have g1 : i - 16 < 80 := by omega
  have g2 : i - 15 < 80 := by omega
  have g3 : i - 7 < 80 := by omega
  have g4 : i - 2 < 80 := by omega
  generalize l.getD (i - 16) 0 = a at *
  generalize l.getD (i - 15) 0 = b at *
  generalize l.getD (i - 7) 0 = c at *
  generalize l.getD (i - 2) 0 = d at *
  generalize i - 16 = i1 at *
  generalize i - 15 = i2 at *
  generalize i - 7 = i3 at *
  generalize i - 2 = i4 at *
  clear fA
  go_enter Tryz.func86, Tryz.ntmps86
  go_wp2_with fail
  have q1 : IntKind.i64.wrap ((i : Int) - 16) = (i1 : Int) := by rw [h1]; exact IntWalk.i64_in _ (by omega)
  have q3 : IntKind.i64.wrap ((i : Int) - 7) = (i3 : Int) := by rw [h3]; exact IntWalk.i64_in _ (by omega)
  have e1 : 0 ≤ (i1 : Int) := by omega
  have e3 : 0 ≤ (i3 : Int) := by omega
  have f1 : (i1 : Int) < 80 := by omega
  have f3 : (i3 : Int) < 80 := by omega
  have r1 := fun w => right_lit b 1 1 rfl (by decide) (by decide) w
  have r8 := fun w => right_lit b 8 8 rfl (by decide) (by decide) w
  have r19 := fun w => right_lit d 19 19 rfl (by decide) (by decide) w
  have r61 := fun w => right_lit d 61 61 rfl (by decide) (by decide) w
  have R1 := hid r1
  have R8 := hid r8
  have R19 := hid r19
  have R61 := hid r61
  clear r1 r8 r19 r61
  go_quiet ((first | (go_at_call 88; with_reducible exact Calls.quiet_of_same (R1.out _)) | (go_at_call 88; with_reducible exact Calls.quiet_of_same (R8.out _)) | (go_at_call 88; with_reducible exact Calls.quiet_of_same (R19.out _)) | (go_at_call 88; with_reducible exact Calls.quiet_of_same (R61.out _))))
  go_wp2_with fail
  go_ret
  exact ⟨rfl, bB.out.trans (Dr.below ⟨_, rfl⟩)⟩

set_option maxRecDepth 100000 in
@[go_sem] theorem zc80 : Tryz.zeroCells119 = wrow (List.replicate 80 0) := by kernel_rfl
set_option maxRecDepth 100000 in
@[go_sem] theorem zero80 (w : World) : (zeroValue 119).run Tryz.prog w = .ok (.agg (wrow (List.replicate 80 0))) w := by kernel_rfl

set_option maxRecDepth 100000 in
theorem rrounds_any (W : World) : Calls Tryz.prog 87 #[] W fun e w' => e = .returned (.agg (wrow SH.K)) ∧ Below W.heap.size W w' := by
  go_enter Tryz.func87, Tryz.ntmps87
  go_upto_region 1 with (fail)
  refine wp_region_list ?_
  refine wp_build (by rfl) _ _ (by rfl) (wrow SH.K) (by kernel_rfl) ?_
  refine wp_store_row (by rfl) _ _ _ (by rfl) (by rfl) (by rfl) (alloc_at _ _) (by rw [info_A80, wrow_size]; rfl) (by rw [wrow_size, wrow_size]; rfl) (wrow_one _) ?_
  have RN := hid (blk_heap (w := W.alloc (.cells (wrow (List.replicate 80 0)) 119)) (b := W.heap.size) (o := .cells (wrow SH.K) 119 (0, 0)) (lt_blk (alloc_at _ _)))
  go_wp2_with fail
  refine bodyPost_ret (v := .agg (wrow SH.K)) (results_cell_row Tryz.results87 _ _ (W.heap.size) _ _ _ _ (by rfl) RN.out Tryz.underlying119 rfl (by rw [info_A80]; rfl)) rfl ⟨rfl, below_blk' (below_new _) (Nat.le_refl _) _⟩

set_option maxRecDepth 100000 in
theorem rfirst_any (W : World) : Calls Tryz.prog 57 #[] W fun e w' => e = .returned (.agg (stv SH.init)) ∧ Below W.heap.size W w' := by
  go_enter Tryz.func57, Tryz.ntmps57
  go_wp2_with fail
  exact bodyPost_ret (v := .agg (stv SH.init)) (by simp [results, Tryz.results57, go_sem]; rfl) rfl ⟨rfl, below_new _⟩

end Go.Proofs.YtceljjnohjnepaaGreatDoor

namespace Go.Proofs.YtceljjnohjnepaaGreatDoor
open Go.RowKit

set_option maxRecDepth 100000 in
@[go_sem] theorem u_push (x : UInt64) (c : UInt8) : bits .or .u64 (IntKind.u64.wrap (UW x * (256 : Int))) (c.toNat : Int) = UW ((x <<< 8) ||| c.toUInt64) := by
  have h := u_shl x 8 (by decide)
  rw [show ((2 : Int) ^ 8) = 256 from rfl] at h
  rw [h, show (c.toNat : Int) = UW c.toUInt64 by unfold UW; rw [UInt8.toNat_toUInt64], u_or]
  rfl
set_option maxRecDepth 100000 in
@[go_sem] theorem u_push' (x : UInt64) (c : UInt8) : bits .or .u64 (IntKind.u64.wrap (UW x * (256 : Int))) (IntKind.u64.wrap (c.toNat : Int)) = UW ((x <<< 8) ||| c.toUInt64) := by
  rw [show IntKind.u64.wrap (c.toNat : Int) = (c.toNat : Int) from IntWalk.u64_in _ (by have := c.toNat_lt; omega), u_push]
set_option maxRecDepth 100000 in
theorem store80 (l : List UInt64) (hl : l.length = 80) (w : World) : (storeCells ⟨w.heap.size, 0, none⟩ (wrow l).toList).run Tryz.prog (w.alloc (.cells (wrow [0, 0, 0, 0, 0, 0, 0, 0, 0, 0, 0, 0, 0, 0, 0, 0, 0, 0, 0, 0, 0, 0, 0, 0, 0, 0, 0, 0, 0, 0, 0, 0, 0, 0, 0, 0, 0, 0, 0, 0, 0, 0, 0, 0, 0, 0, 0, 0, 0, 0, 0, 0, 0, 0, 0, 0, 0, 0, 0, 0, 0, 0, 0, 0, 0, 0, 0, 0, 0, 0, 0, 0, 0, 0, 0, 0, 0, 0, 0, 0]) 119)) = .ok () (w.alloc (.cells (wrow l) 119)) :=
  store_cells_new w 119 _ (wrow l) (by rw [info_A80, wrow_size, hl]) (by rw [wrow_size, wrow_size, hl]; rfl) (wrow_one l)

set_option maxRecDepth 100000 in
set_option maxHeartbeats 4000000 in
theorem rblock_any (h : SH.St) (bl : List UInt8) (bw off cap : Nat) (W : World) (hb : bl.length = 128) (_hcap : 128 ≤ cap)
    (hc : ∀ j, j < 128 → W.cell? ⟨bw, off + j, none⟩ = some (.int .u8 ((bl.getD j 0).toNat : Int))) :
    Calls Tryz.prog 58 #[.agg (stv h), .slice (some ⟨bw, off, none⟩) 128 cap] W fun e w' => e = .returned (.agg (stv (SH.block h bl))) ∧ Below W.heap.size W w' := by
  have hbw : bw < W.heap.size := World.block_lt_of_cell? W _ (hc 0 (by decide))
  have hsz : (stv h).size = 8 := rfl
  have HC := hid hc
  have HB := hid hb
  clear hc hb
  go_enter Tryz.func58, Tryz.ntmps58
  go_wp2_with fail
  clear hsz
  obtain ⟨N, hN⟩ : ∃ N, N = W.heap.size := ⟨_, rfl⟩
  rw [← hN]
  have HN := hid hN
  have bwN : bw < N := by omega
  go_loopw [6] (fun i wr => ∃ k : Nat, k ≤ 128 ∧ i = .int .i64 (k : Int) ∧ wr.heap[N]? = some (.cells (stv h) 82 (0, 0)) ∧ wr.heap[N + 1]? = some (.cells (wrow (List.replicate 8 0)) 82 (0, 0)) ∧
    wr.heap[N + 1 + 1]? = some (.cells (wrow (ld bl k)) 119 (0, 0)) ∧ Below W.heap.size W wr) (fun i _ => (128 - intOf i).toNat)
  case atStart =>
    refine ⟨0, by omega, rfl, alloc_old (alloc_old (alloc_at' hN _)), alloc_old (alloc_at' (by simp [hN]) _), ?_, below_alloc (below_alloc (below_new _) _) _⟩
    rw [ld_zero]
    exact alloc_at' (by simp [hN]) _
  case round =>
    clear hN
    obtain ⟨k, hk, rfl, rH, rZ, rW, rb⟩ := hrel
    have RH := hid rH
    have RZ := hid rZ
    have RW := hid rW
    have RB := hid rb
    by_cases hlt : k < 128
    · have cb := ((rb.cell (p := ⟨bw, off + k, none⟩) hbw).trans (HC.out k hlt))
      have cw := wrow_cell rW (j := k / 8) (by rw [ld_length]; omega)
      have hf := free_at rW
      have hi0 : 0 ≤ (k : Int) := by omega
      have hi1 : (k : Int) < 128 := by omega
      have hi3 : 0 ≤ (k : Int) / 8 := by omega
      have hi4 : (k : Int) / 8 < 80 := by omega
      have hi5 : ((k : Int) / 8).toNat = k / 8 := by omega
      have hst := ld_step bl k (by have := HB.out; omega) hlt
      generalize hx : (ld bl k).getD (k / 8) 0 = x at *
      generalize bl.getD k 0 = c at *
      have HST := hid hst
      clear rH rZ rW rb hx hst
      go_wp2_with fail
      refine still_tail 14 (by kernel_rfl) (by kernel_rfl) ?_
      simp only [List.take_succ_cons, List.take_zero, List.drop_succ_cons, List.drop_zero]
      repeat (first | (refine wpStill_step (fun K hK => ?_); go_simp; refine hK _ ?_; clear hK K; try go_ints))
      refine wpStill_nil ?_
      go_wp2_with fail
      refine ⟨⟨k + 1, by omega, by go_num, at_setCell_other RH.out (by show N ≠ N + 1 + 1; omega) _, at_setCell_other RZ.out (by show N + 1 ≠ N + 1 + 1; omega) _, ?_, (RB.out.setCell (by have := HN.out; simp; omega) _).drew⟩, by simp [intOf]; omega⟩
      rw [HST.out]
      exact wrow_store RW.out _ _
    · have hk5 : k = 128 := by omega
      have hd : decide ((k : Int) < 128) = false := decide_eq_false (by omega)
      rw [hk5, ld_end bl HB.out] at rW
      have RW2 := hid rW
      have hwl : (SH.words bl 16).length = 16 := words_length bl 16
      have hW0 : SH.words bl 16 ++ List.replicate 64 0 = gr (SH.words bl 16) 0 := rfl
      rw [hW0] at RW2
      clear rH rZ rW rb RW hW0 hk5
      generalize hW16 : SH.words bl 16 = W16 at *
      have HW16 := hid hW16
      clear hW16
      go_wp2_with fail
      clear hd hlt hk
      go_loopw [7] (fun i wq => ∃ n : Nat, n ≤ 64 ∧ i = .int .i64 ((16 + n : Nat) : Int) ∧ wq.heap[N]? = some (.cells (stv h) 82 (0, 0)) ∧ wq.heap[N + 1]? = some (.cells (wrow (List.replicate 8 0)) 82 (0, 0)) ∧
        wq.heap[N + 1 + 1]? = some (.cells (wrow (gr W16 n)) 119 (0, 0)) ∧ Below W.heap.size W wq) (fun i _ => (80 - intOf i).toNat)
      case atStart => exact ⟨0, by omega, rfl, RH.out, RZ.out, RW2.out, RB.out⟩
      case round =>
        clear RH RZ RW2 RB
        obtain ⟨n, hn, rfl, rH, rZ, rW, rb⟩ := hrel
        have RH := hid rH
        have RZ := hid rZ
        have RW := hid rW
        have RB := hid rb
        obtain ⟨i, hi⟩ : ∃ i, 16 + n = i := ⟨_, rfl⟩
        rw [hi]
        have HI := hid hi
        have HWL := hid hwl
        by_cases hlt : i < 80
        · have hd : decide ((i : Int) < 80) = true := decide_eq_true (by omega)
          have hlen := gr_length hwl hn
          have hst := gr_step hwl (n := n) (i := i) (by omega) (by omega)
          have hi16 : 16 ≤ i := by omega
          have hi0 : 0 ≤ (i : Int) := by omega
          have hi1 : (i : Int) < 80 := by omega
          have hf := free_at rW
          have hcw := wrow_cell rW (j := i) (by omega)
          obtain ⟨v, hv⟩ : ∃ v, wordOf ((gr W16 n).getD (i - 16) 0) ((gr W16 n).getD (i - 15) 0) ((gr W16 n).getD (i - 7) 0) ((gr W16 n).getD (i - 2) 0) = v := ⟨_, rfl⟩
          have hcall := fun w => rword_any (gr W16 n) i w hlen hi16 hlt
          rw [hv] at hst hcall
          have HCALL := hid hcall
          have HST := hid hst
          have HLEN := hid hlen
          clear hv hcall
          clear rH rZ rW rb hi hst hlen hwl
          go_upto_region 9 with (fail)
          refine wp_region_list ?_
          go_wp2_with fail
          refine opwp_load_row _ _ (by rfl) (by rfl) RW.out Tryz.underlying119 rfl (by rw [info_A80, wrow_size, HLEN.out]) ?_
          rename_i hK
          refine hK _ _ ?_
          go_wp2_with fail
          refine (HCALL.out _).mono ?_
          rintro e w2 ⟨rfl, hb2⟩
          have H2 := hid (keepB hb2 RH.out)
          have Z2 := hid (keepB hb2 RZ.out)
          have W2 := keepB hb2 RW.out
          have B2 := hid (below_to RB.out hb2)
          have cw := wrow_cell W2 (j := i) (by rw [HLEN.out]; exact hlt)
          have hf := free_at W2
          have W2' := hid W2
          clear W2 hb2 hcw RH RZ RW RB
          go_wp2_with fail
          refine ⟨⟨n + 1, by have := HI.out; omega, by rw [← HI.out]; go_num, at_setCell_other H2.out (by show N ≠ N + 1 + 1; omega) _, at_setCell_other Z2.out (by show N + 1 ≠ N + 1 + 1; omega) _, ?_, (B2.out.setCell (by have := HN.out; simp; omega) _)⟩, by simp [intOf]; omega⟩
          rw [← HST.out]
          exact wrow_store W2'.out _ _
        · have hd : decide ((i : Int) < 80) = false := decide_eq_false (by omega)
          have hn5 : n = 64 := by omega
          rw [hn5] at rW
          have hg : gr W16 64 = SH.ext 64 W16 := by unfold gr; simp
          rw [hg] at rW
          have RW2 := hid rW
          have hwl2 : (SH.ext 64 W16).length = 80 := by rw [SH.ext_length, hwl]
          have hk80 := store80 SH.K rfl
          have hsk : (wrow SH.K).size = 80 := rfl
          clear rH rZ rW rb RW hg hn5 hi hwl
          generalize hWLe : SH.ext 64 W16 = WL at *
          have HWLE := hid hWLe
          clear hWLe
          go_wp2_with fail
          refine (rrounds_any _).mono ?_
          rintro e w2 ⟨rfl, hb2⟩
          have H2 := keepB hb2 RH.out
          have Z2 := hid (keepB hb2 RZ.out)
          have W2 := hid (keepB hb2 RW2.out)
          have B2 := hid (below_to RB.out hb2)
          obtain ⟨c0, c1, c2, c3, c4, c5, c6, c7⟩ := oct_cells H2
          have H2' := hid H2
          clear H2 hb2 RH RZ RW2 RB
          go_wp2_with fail
          obtain ⟨M, hM⟩ : ∃ M, w2.heap.size = M := ⟨_, rfl⟩
          have hMN : N + 1 + 1 < M := by rw [← hM]; exact lt_blk W2.out
          have hxx : #[.int .u64 (UW h.a), .int .u64 (UW h.b), .int .u64 (UW h.c), .int .u64 (UW h.d), .int .u64 (UW h.e), .int .u64 (UW h.f), .int .u64 (UW h.g), .int .u64 (UW h.h)] = stv (SH.rounds WL h 0) := rfl
          rw [hxx, hM]
          clear c0 c1 c2 c3 c4 c5 c6 c7 hk80 hsk hxx
          have hNM : N ≤ M := by omega
          have hWM : W.heap.size ≤ M := by have := HN.out; omega
          go_loopw [10] (fun i wq => ∃ n : Nat, n ≤ 80 ∧ i = .int .i64 (n : Int) ∧ wq.heap[N]? = some (.cells (stv h) 82 (0, 0)) ∧ wq.heap[N + 1]? = some (.cells (wrow (List.replicate 8 0)) 82 (0, 0)) ∧
            wq.heap[N + 1 + 1]? = some (.cells (wrow WL) 119 (0, 0)) ∧ wq.heap[M]? = some (.cells (wrow SH.K) 119 (0, 0)) ∧ wq.heap[M + 1]? = some (.cells (stv (SH.rounds WL h n)) 82 (0, 0)) ∧ Below W.heap.size W wq) (fun i _ => (80 - intOf i).toNat)
          case atStart =>
            exact ⟨0, by omega, rfl, alloc_old (alloc_old H2'.out), alloc_old (alloc_old Z2.out), alloc_old (alloc_old W2.out), alloc_old (alloc_at' hM.symm _), alloc_at' (by simp [hM]) _, below_alloc (below_alloc B2.out _) _⟩
          case round =>
            clear hM H2' Z2 W2 B2
            obtain ⟨n, hn, rfl, rH, rZ, rW, rK, rX, rb⟩ := hrel
            have RH := hid rH
            have RZ := hid rZ
            have RW := hid rW
            have RK := hid rK
            have RB := hid rb
            have HWL2 := hid hwl2
            by_cases hlt : n < 80
            · have hd : decide ((n : Int) < 80) = true := decide_eq_true (by omega)
              have hi0 : 0 ≤ (n : Int) := by omega
              have hi1 : (n : Int) < 80 := by omega
              have ck := wrow_cell rK (j := n) hlt
              have cw := wrow_cell rW (j := n) (by rw [hwl2]; exact hlt)
              have hrr : SH.rounds WL h (n + 1) = SH.round (SH.rounds WL h n) (SH.K.getD n 0) (WL.getD n 0) := rfl
              generalize SH.K.getD n 0 = kk at *
              generalize WL.getD n 0 = ww at *
              generalize hx : SH.rounds WL h n = x at *
              obtain ⟨xa, xb, xc, xd, xe, xf, xg, xh⟩ := x
              obtain ⟨c0, c1, c2, c3, c4, c5, c6, c7⟩ := oct_cells rX
              have hf := free_at rX
              have RX := hid rX
              have HRR := hid hrr
              have r14 := hid (fun w => right_lit xe 14 14 rfl (by decide) (by decide) w)
              have r18 := hid (fun w => right_lit xe 18 18 rfl (by decide) (by decide) w)
              have r41 := hid (fun w => right_lit xe 41 41 rfl (by decide) (by decide) w)
              have r28 := hid (fun w => right_lit xa 28 28 rfl (by decide) (by decide) w)
              have r34 := hid (fun w => right_lit xa 34 34 rfl (by decide) (by decide) w)
              have r39 := hid (fun w => right_lit xa 39 39 rfl (by decide) (by decide) w)
              clear rH rZ rW rK rX rb hx hrr hwl2
              go_wp2_with fail
              go_quiet ((first | (go_at_call 88; with_reducible exact Calls.quiet_of_same (r14.out _)) | (go_at_call 88; with_reducible exact Calls.quiet_of_same (r18.out _)) | (go_at_call 88; with_reducible exact Calls.quiet_of_same (r41.out _))))
              have H3 : (wr.drewN nq).heap[N]? = some (.cells (stv h) 82 (0, 0)) := RH.out
              have Z3 : (wr.drewN nq).heap[N + 1]? = some (.cells (wrow (List.replicate 8 0)) 82 (0, 0)) := RZ.out
              have W3 : (wr.drewN nq).heap[N + 1 + 1]? = some (.cells (wrow WL) 119 (0, 0)) := RW.out
              have K3 : (wr.drewN nq).heap[M]? = some (.cells (wrow SH.K) 119 (0, 0)) := RK.out
              have X3 : (wr.drewN nq).heap[M + 1]? = some (.cells (stv ⟨xa, xb, xc, xd, xe, xf, xg, xh⟩) 82 (0, 0)) := RX.out
              have B3 : Below W.heap.size W (wr.drewN nq) := RB.out.trans (Dr.below ⟨_, rfl⟩)
              generalize wr.drewN nq = w3 at *
              clear RH RZ RW RK RB RX c0 c1 c2 c3 c4 c5 c6 c7 hf ck cw
              obtain ⟨c0, c1, c2, c3, c4, c5, c6, c7⟩ := oct_cells X3
              have hf := free_at X3
              have RH := hid H3
              have RZ := hid Z3
              have RW := hid W3
              have RK := hid K3
              have RX := hid X3
              have RB := hid B3
              clear H3 Z3 W3 K3 X3 B3
              go_wp2_with fail
              go_quiet ((first | (go_at_call 88; with_reducible exact Calls.quiet_of_same (r28.out _)) | (go_at_call 88; with_reducible exact Calls.quiet_of_same (r34.out _)) | (go_at_call 88; with_reducible exact Calls.quiet_of_same (r39.out _))))
              go_wp2_with fail
              have E := set8 RX.out (xh + (SH.ror 14 xe ^^^ SH.ror 18 xe ^^^ SH.ror 41 xe) + (xg ^^^ xe &&& (xf ^^^ xg)) + kk + ww + ((SH.ror 28 xa ^^^ SH.ror 34 xa ^^^ SH.ror 39 xa) + (xa &&& xb ||| xc &&& (xa ||| xb)))) xa xb xc
                (xd + (xh + (SH.ror 14 xe ^^^ SH.ror 18 xe ^^^ SH.ror 41 xe) + (xg ^^^ xe &&& (xf ^^^ xg)) + kk + ww)) xe xf xg
              rw [E]
              have l3 := lt_blk RX.out
              refine ⟨⟨n + 1, by omega, by go_num, (blk_other N (by omega)).trans RH.out, (blk_other (N + 1) (by omega)).trans RZ.out, (blk_other (N + 1 + 1) (by omega)).trans RW.out, (blk_other M (by omega)).trans RK.out, ?_, (below_blk' RB.out (by omega) _).trans (Dr.below ⟨_, rfl⟩)⟩, by simp [intOf]; omega⟩
              rw [HRR.out]
              exact blk_heap l3
            · have hd : decide ((n : Int) < 80) = false := decide_eq_false (by omega)
              have hn5 : n = 80 := by omega
              have hxx := rX
              rw [hn5] at hxx
              obtain ⟨x, hx⟩ : ∃ x, SH.rounds WL h 80 = x := ⟨_, rfl⟩
              rw [hx] at hxx
              have RX := hid hxx
              have HX := hid hx
              clear rH rZ rW rK rX rb hxx hx hn5
              go_wp2_with fail
              clear hd hn hlt
              go_loopw [13] (fun i wq => ∃ n : Nat, n ≤ 8 ∧ i = .int .i64 (n : Int) ∧ wq.heap[N]? = some (.cells (wrow ((stl (SH.plus h x)).take n ++ (stl h).drop n)) 82 (0, 0)) ∧ wq.heap[N + 1]? = some (.cells (wrow (List.replicate 8 0)) 82 (0, 0)) ∧
                wq.heap[M + 1]? = some (.cells (wrow (stl x)) 82 (0, 0)) ∧ Below W.heap.size W wq) (fun i _ => (8 - intOf i).toNat)
              case atStart => exact ⟨0, by omega, rfl, RH.out, RZ.out, RX.out, RB.out⟩
              case round =>
                clear RH RZ RW RK RX RB
                obtain ⟨n, hn, rfl, rH, rZ, rX, rb⟩ := hrel
                have RH := hid rH
                have RZ := hid rZ
                have RX := hid rX
                have RB := hid rb
                by_cases hlt : n < 8
                · have hd : decide ((n : Int) < 8) = true := decide_eq_true (by omega)
                  have hi0 : 0 ≤ (n : Int) := by omega
                  have hi1 : (n : Int) < 8 := by omega
                  have hl1 : (stl (SH.plus h x)).length = (stl h).length := rfl
                  have c1 := wrow_cell rH (j := n) (by rw [put_len hl1]; exact hlt)
                  rw [sput_get hl1 (by exact hlt)] at c1
                  have c2 := wrow_cell rX (j := n) (by exact hlt)
                  have hf := free_at rH
                  have hs := put_step hl1 (i := n) (by exact hlt)
                  rw [← stl_plus, zip_get (by exact hlt) (by exact hlt), stl_plus] at hs
                  generalize (stl h).getD n 0 = p at *
                  generalize (stl x).getD n 0 = q at *
                  have HSS := hid hs
                  clear rH rZ rX rb hl1 hs
                  go_wp2_with fail
                  refine still_tail 9 (by kernel_rfl) (by kernel_rfl) ?_
                  simp only [List.take_succ_cons, List.take_zero, List.drop_succ_cons, List.drop_zero]
                  repeat (first | (refine wpStill_step (fun K hK => ?_); go_simp; refine hK _ ?_; clear hK K; try go_ints))
                  refine wpStill_nil ?_
                  go_wp2_with fail
                  refine ⟨⟨n + 1, by omega, by go_num, ?_, at_setCell_other RZ.out (by show N + 1 ≠ N; omega) _, at_setCell_other RX.out (by show M + 1 ≠ N; omega) _, (RB.out.setCell (by have := HN.out; simp; omega) _).drew⟩, by simp [intOf]; omega⟩
                  rw [← HSS.out]
                  exact wrow_store RH.out _ _
                · have hd : decide ((n : Int) < 8) = false := decide_eq_false (by omega)
                  have hn5 : n = 8 := by omega
                  rw [hn5] at rH
                  have hp : (stl (SH.plus h x)).take 8 ++ (stl h).drop 8 = stl (SH.plus h x) := rfl
                  rw [hp] at rH
                  obtain ⟨c0, c1, c2, c3, c4, c5, c6, c7⟩ := oct_cells rH
                  obtain ⟨z0, z1, z2, z3, z4, z5, z6, z7⟩ := oct_cells rZ
                  have hf := free_at rZ
                  have hblk : SH.plus h x = SH.block h bl := by
                    unfold SH.block
                    rw [HW16.out, HWLE.out, HX.out]
                  clear rH rX rb hp
                  go_wp2_with fail
                  rw [set8 RZ.out]
                  have RN := hid (blk_heap (o := .cells (stv (SH.block h bl)) 82 (0, 0)) (lt_blk RZ.out))
                  exact bodyPost_ret (v := .agg (stv (SH.block h bl))) (results_cell_row Tryz.results58 _ _ (N + 1) _ _ _ _ (by rfl) RN.out Tryz.underlying82 rfl (by rw [info_A8]; rfl)) rfl ⟨rfl, below_blk' RB.out (by have := HN.out; omega) _⟩

end Go.Proofs.YtceljjnohjnepaaGreatDoor

namespace Go.Proofs.YtceljjnohjnepaaGreatDoor
open Go.RowKit

/-- Bytes in memory. -/
def brow (l : List UInt8) : Array Value := (l.map fun (c : UInt8) => Value.int .u8 (c.toNat : Int)).toArray
set_option maxRecDepth 100000 in
theorem brow_size (l : List UInt8) : (brow l).size = l.length := by simp [brow]
set_option maxRecDepth 100000 in
theorem brow_cell {w : World} {b : Nat} {l : List UInt8} {T : TypeId} {fz : Nat × Nat} (h : w.heap[b]? = some (.cells (brow l) T fz)) {j : Nat} (hj : j < l.length) : w.cell? ⟨b, j, none⟩ = some (.int .u8 ((l.getD j 0).toNat : Int)) := by
  rw [cell_at h]; simp [brow, hj]
set_option maxRecDepth 100000 in
theorem brow_store {w : World} {b : Nat} {l : List UInt8} {T : TypeId} {fz : Nat × Nat} (h : w.heap[b]? = some (.cells (brow l) T fz)) (j : Nat) (c : UInt8) : (w.setCell ⟨b, j, none⟩ (.int .u8 (c.toNat : Int))).heap[b]? = some (.cells (brow (l.set j c)) T fz) := by
  rw [at_setCell h]
  unfold brow
  rw [List.setIfInBounds_toArray, List.map_set]
set_option maxRecDepth 100000 in
theorem keepA {w : World} {p : Addr} {v : Value} (o : Obj) (h : w.cell? p = some v) : (w.alloc o).cell? p = some v := by rw [World.cell?_alloc_some _ _ _ (by rw [h]; rfl)]; exact h
set_option maxRecDepth 100000 in
theorem keepC {w : World} {b i j : Nat} {u v : Value} (h : w.cell? ⟨b, j, none⟩ = some v) (hne : j ≠ i) : (w.setCell ⟨b, i, none⟩ u).cell? ⟨b, j, none⟩ = some v := by
  have e : (⟨b, i, none⟩ : Addr) ≠ ⟨b, j, none⟩ := by intro hh; injection hh with _ h2; exact hne h2.symm
  rw [World.cell?_setCell_other (h := e)]; exact h
set_option maxRecDepth 100000 in
theorem mixed_18 (x : UInt64) (bw : Nat) (W : World) (h0 : W.cell? ⟨bw, 0, none⟩ = some (.int .i64 1)) (h1 : W.cell? ⟨bw, 1, none⟩ = some (.int .i64 8)) :
    Calls Tryz.prog 96 #[.int .u64 (UW x), .slice (some ⟨bw, 0, none⟩) 2 2] W fun e w' => e = .returned (.int .u64 (UW (SH.ror 1 x ^^^ SH.ror 8 x))) ∧ W = w' := by
  have h := mixed_any x bw 2 [1, 8] W (by decide) (by decide) (by decide) (fun j hj => match j, hj with | 0, _ => h0 | 1, _ => h1)
  have e : mixl x [1, 8] = SH.ror 1 x ^^^ SH.ror 8 x := by simp [mixl]
  rw [e] at h
  exact h
set_option maxRecDepth 100000 in
theorem mixed_1961 (x : UInt64) (bw : Nat) (W : World) (h0 : W.cell? ⟨bw, 0, none⟩ = some (.int .i64 19)) (h1 : W.cell? ⟨bw, 1, none⟩ = some (.int .i64 61)) :
    Calls Tryz.prog 96 #[.int .u64 (UW x), .slice (some ⟨bw, 0, none⟩) 2 2] W fun e w' => e = .returned (.int .u64 (UW (SH.ror 19 x ^^^ SH.ror 61 x))) ∧ W = w' := by
  have h := mixed_any x bw 2 [19, 61] W (by decide) (by decide) (by decide) (fun j hj => match j, hj with | 0, _ => h0 | 1, _ => h1)
  have e : mixl x [19, 61] = SH.ror 19 x ^^^ SH.ror 61 x := by simp [mixl]
  rw [e] at h
  exact h
set_option maxRecDepth 100000 in
theorem mixed_141841 (x : UInt64) (bw : Nat) (W : World) (h0 : W.cell? ⟨bw, 0, none⟩ = some (.int .i64 14)) (h1 : W.cell? ⟨bw, 1, none⟩ = some (.int .i64 18)) (h2 : W.cell? ⟨bw, 2, none⟩ = some (.int .i64 41)) :
    Calls Tryz.prog 96 #[.int .u64 (UW x), .slice (some ⟨bw, 0, none⟩) 3 3] W fun e w' => e = .returned (.int .u64 (UW (SH.ror 14 x ^^^ SH.ror 18 x ^^^ SH.ror 41 x))) ∧ W = w' := by
  have h := mixed_any x bw 3 [14, 18, 41] W (by decide) (by decide) (by decide) (fun j hj => match j, hj with | 0, _ => h0 | 1, _ => h1 | 2, _ => h2)
  have e : mixl x [14, 18, 41] = SH.ror 14 x ^^^ SH.ror 18 x ^^^ SH.ror 41 x := by simp [mixl]
  rw [e] at h
  exact h
set_option maxRecDepth 100000 in
theorem mixed_283439 (x : UInt64) (bw : Nat) (W : World) (h0 : W.cell? ⟨bw, 0, none⟩ = some (.int .i64 28)) (h1 : W.cell? ⟨bw, 1, none⟩ = some (.int .i64 34)) (h2 : W.cell? ⟨bw, 2, none⟩ = some (.int .i64 39)) :
    Calls Tryz.prog 96 #[.int .u64 (UW x), .slice (some ⟨bw, 0, none⟩) 3 3] W fun e w' => e = .returned (.int .u64 (UW (SH.ror 28 x ^^^ SH.ror 34 x ^^^ SH.ror 39 x))) ∧ W = w' := by
  have h := mixed_any x bw 3 [28, 34, 39] W (by decide) (by decide) (by decide) (fun j hj => match j, hj with | 0, _ => h0 | 1, _ => h1 | 2, _ => h2)
  have e : mixl x [28, 34, 39] = SH.ror 28 x ^^^ SH.ror 34 x ^^^ SH.ror 39 x := by simp [mixl]
  rw [e] at h
  exact h
set_option maxRecDepth 100000 in
theorem word_eq (a c x y : UInt64) : a + c + x + y = a + x + c + y := by rw [UInt64.add_assoc a c x, UInt64.add_comm c x, ← UInt64.add_assoc]
set_option maxRecDepth 100000 in
theorem info_State : (Tryz.prog.info? 106).map (·.size) = some 8 := by kernel_rfl
set_option maxRecDepth 100000 in
theorem idx80 (l : List UInt64) (hl : l.length = 80) (i : Nat) (hi : i < 80) (w : World) : (Instr.index 119 (.agg (wrow l)) (.int .i64 (i : Int))).run Tryz.prog w = .ok (.int .u64 (UW (l.getD i 0))) w := by
  have hsz : (sizeOf 34).run Tryz.prog w = .ok 1 w := by kernel_rfl
  unfold Instr.index
  simp only [Sem.run_bind, asIntOf, Sem.run_pure, Result.andThen_ok, run_underlying Tryz.underlying119]
  rw [if_pos (by omega)]
  simp only [Sem.run_bind, hsz, Result.andThen_ok, Nat.mul_one, Int.toNat_natCast]
  unfold part
  have hagg : (isAgg 34).run Tryz.prog w = .ok false w := by
    unfold isAgg
    rw [Sem.run_bind, run_underlying Tryz.underlying34 w]
    rfl
  simp [Sem.run_bind, hagg, wrow_get l (show i < l.length by omega)]

set_option maxRecDepth 100000 in
theorem slice_A128 (bb k : Nat) (hk : k < 16) (w : World) : (Instr.sliceAt 107 (.pointer (some ⟨bb, 0, none⟩)) (some (.int .i64 (8 * (k : Int)))) (some (.int .i64 (8 * (k : Int) + 8))) none).run Tryz.prog w = .ok (.slice (some ⟨bb, 8 * k, none⟩) 8 (128 - 8 * k)) w := by
  have ha : Tryz.prog.arrayLen 107 = 128 := by kernel_rfl
  have hsz : (sizeOf (Tryz.prog.elem 107)).run Tryz.prog w = .ok 1 w := by kernel_rfl
  rw [run_sliceAt_array_lh w 107 _ Tryz.underlying107 _ _ _ _ (by omega) (by omega) (by rw [ha]; omega), hsz, ha]
  unfold slicedAt
  simp only [Result.andThen_ok, Nat.mul_one]
  rw [if_neg (by omega), show (8 * (k : Int)).toNat = 8 * k by omega, show (8 * (k : Int) + 8).toNat - 8 * k = 8 by omega]
  by_cases hk0 : k = 0
  · subst hk0; rfl
  · simp [Addr.add]; omega

set_option maxRecDepth 100000 in
set_option maxHeartbeats 4000000 in
theorem block_any (h : SH.St) (bl : List UInt8) (sb bb : Nat) (fb fg : Nat × Nat) (TB TG : TypeId) (W : World) (hb : bl.length = 128) (hS : W.heap[sb]? = some (.cells (stv h) 106 (0, 0))) (hB : W.heap[bb]? = some (.cells (brow bl) TB fb))
    (hG : W.heap[0]? = some (.cells (wrow SH.K) TG fg)) (_hne : sb ≠ bb) (_hn0 : sb ≠ 0) :
    Calls Tryz.prog 78 #[.pointer (some ⟨sb, 0, none⟩), .pointer (some ⟨bb, 0, none⟩)] W fun e w' => e = .returned (.tuple #[]) ∧ Only sb W w' ∧ w'.heap[sb]? = some (.cells (stv (SH.block h bl)) 106 (0, 0)) := by
  have lS := lt_blk hS
  have lB := lt_blk hB
  have HS := hid hS
  have HBB := hid hB
  have HG := hid hG
  have HB := hid hb
  clear hS hB hG hb
  go_enter Tryz.func78, Tryz.ntmps78
  go_wp2_with fail
  obtain ⟨N, hN⟩ : ∃ N, N = W.heap.size := ⟨_, rfl⟩
  rw [← hN]
  have HN := hid hN
  rw [← hN] at lS lB
  go_loopw [18] (fun i wr => ∃ k : Nat, k ≤ 16 ∧ i = .int .i64 (k : Int) ∧ wr.heap[sb]? = some (.cells (stv h) 106 (0, 0)) ∧ wr.heap[bb]? = some (.cells (brow bl) TB fb) ∧ wr.heap[0]? = some (.cells (wrow SH.K) TG fg) ∧
    wr.heap[N]? = some (.cells (wrow (ld bl (8 * k))) 119 (0, 0)) ∧ Only sb W wr) (fun i _ => (16 - intOf i).toNat)
  case atStart =>
    refine ⟨0, by omega, rfl, alloc_old HS.out, alloc_old HBB.out, alloc_old HG.out, ?_, (Only.refl _ _).alloc _⟩
    rw [show 8 * 0 = 0 from rfl, ld_zero]
    exact alloc_at' hN _
  case round =>
    clear hN
    obtain ⟨k, hk, rfl, rS, rB, rG, rW, ro⟩ := hrel
    have RS := hid rS
    have RB := hid rB
    have RG := hid rG
    have RW := hid rW
    have RO := hid ro
    by_cases hlt : k < 16
    · have hd : decide ((k : Int) < 16) = true := decide_eq_true (by omega)
      have hi0 : 0 ≤ (k : Int) := by omega
      have hi1 : (k : Int) < 16 := by omega
      clear rS rB rG rW ro HS HBB HG
      have hsl := slice_A128 bb k hlt
      go_wp2_with fail
      clear hsl
      go_loopw [30] (fun i wr => ∃ j : Nat, j ≤ 8 ∧ i = .int .i64 (j : Int) ∧ wr.heap[sb]? = some (.cells (stv h) 106 (0, 0)) ∧ wr.heap[bb]? = some (.cells (brow bl) TB fb) ∧ wr.heap[0]? = some (.cells (wrow SH.K) TG fg) ∧
        wr.heap[N]? = some (.cells (wrow (ld bl (8 * k + j))) 119 (0, 0)) ∧ Only sb W wr) (fun i _ => (8 - intOf i).toNat)
      case atStart => exact ⟨0, by omega, rfl, RS.out, RB.out, RG.out, RW.out, RO.out⟩
      case round =>
        clear RS RB RG RW RO
        obtain ⟨j, hj, rfl, rS, rB, rG, rW, ro⟩ := hrel
        have RS := hid rS
        have RB := hid rB
        have RG := hid rG
        have RW := hid rW
        have RO := hid ro
        by_cases hlt2 : j < 8
        · have hd2 : decide ((j : Int) < 8) = true := decide_eq_true (by omega)
          have hj0 : 0 ≤ (j : Int) := by omega
          have hj1 : (j : Int) < 8 := by omega
          have cb := brow_cell rB (j := 8 * k + j) (by rw [HB.out]; omega)
          have cw := wrow_cell rW (j := k) (by rw [ld_length]; omega)
          have hf := free_at rW
          have hk80 : (k : Int) < 80 := by omega
          have hst := ld_step bl (8 * k + j) (by rw [HB.out]; omega) (by omega)
          rw [show (8 * k + j) / 8 = k by omega] at hst
          generalize (ld bl (8 * k + j)).getD k 0 = x at *
          generalize bl.getD (8 * k + j) 0 = c at *
          have HST := hid hst
          clear rS rB rG rW ro hst
          go_wp2_with fail
          refine ⟨⟨j + 1, by omega, by go_num, at_setCell_other RS.out (by show sb ≠ N; omega) _, at_setCell_other RB.out (by show bb ≠ N; omega) _, at_setCell_other RG.out (by show 0 ≠ N; omega) _, ?_, RO.out.setCell (.inr (by have := HN.out; simp; omega)) _⟩, by simp [intOf]; omega⟩
          rw [show 8 * k + (j + 1) = 8 * k + j + 1 by omega, HST.out]
          exact wrow_store RW.out _ _
        · have hd2 : decide ((j : Int) < 8) = false := decide_eq_false (by omega)
          have hj5 : j = 8 := by omega
          rw [hj5] at rW
          have RW2 := hid rW
          clear rS rB rG rW ro RW hj5
          go_wp2_with fail
          exact ⟨⟨k + 1, by omega, by go_num, RS.out, RB.out, RG.out, RW2.out, RO.out⟩, by simp [intOf]; omega⟩
    · have hd : decide ((k : Int) < 16) = false := decide_eq_false (by omega)
      have hk5 : k = 16 := by omega
      rw [hk5, show 8 * 16 = 128 from rfl, ld_end bl HB.out] at rW
      have RW2 := hid rW
      have hwl : (SH.words bl 16).length = 16 := words_length bl 16
      have hW0 : SH.words bl 16 ++ List.replicate 64 0 = gr (SH.words bl 16) 0 := rfl
      rw [hW0] at RW2
      clear rS rB rG rW ro RW hW0 hk5 HS HBB HG
      generalize hW16 : SH.words bl 16 = W16 at *
      have HW16 := hid hW16
      clear hW16
      go_wp2_with fail
      clear hd hlt hk
      go_loopw [9] (fun i wq => ∃ n : Nat, n ≤ 64 ∧ i = .int .i64 ((16 + n : Nat) : Int) ∧ wq.heap[sb]? = some (.cells (stv h) 106 (0, 0)) ∧ wq.heap[0]? = some (.cells (wrow SH.K) TG fg) ∧
        wq.heap[N]? = some (.cells (wrow (gr W16 n)) 119 (0, 0)) ∧ Only sb W wq) (fun i _ => (80 - intOf i).toNat)
      case atStart => exact ⟨0, by omega, rfl, RS.out, RG.out, RW2.out, RO.out⟩
      case round =>
        clear RS RB RG RW2 RO
        obtain ⟨n, hn, rfl, rS, rG, rW, ro⟩ := hrel
        have RS := hid rS
        have RG := hid rG
        have RW := hid rW
        have RO := hid ro
        obtain ⟨i, hi⟩ : ∃ i, 16 + n = i := ⟨_, rfl⟩
        rw [hi]
        have HI := hid hi
        have HWL := hid hwl
        by_cases hlt : i < 80
        · have hd : decide ((i : Int) < 80) = true := decide_eq_true (by omega)
          have hlen := gr_length hwl hn
          have hst := gr_step hwl (n := n) (i := i) (by omega) (by omega)
          have hi16 : 16 ≤ i := by omega
          have hi0 : 0 ≤ (i : Int) := by omega
          have hi1 : (i : Int) < 80 := by omega
          have h1 : (i : Int) - 16 = ((i - 16 : Nat) : Int) := by omega
          have h2 : (i : Int) - 15 = ((i - 15 : Nat) : Int) := by omega
          have h3 : (i : Int) - 7 = ((i - 7 : Nat) : Int) := by omega
          have h4 : (i : Int) - 2 = ((i - 2 : Nat) : Int) := by omega
          have c1 := wrow_cell rW (j := i - 16) (by omega)
          have c2 := wrow_cell rW (j := i - 15) (by omega)
          have c3 := wrow_cell rW (j := i - 7) (by omega)
          have c4 := wrow_cell rW (j := i - 2) (by omega)
          have hf := free_at rW
          have hcw := wrow_cell rW (j := i) (by omega)
          generalize (gr W16 n).getD (i - 16) 0 = a at *
          generalize (gr W16 n).getD (i - 15) 0 = b at *
          generalize (gr W16 n).getD (i - 7) 0 = c at *
          generalize (gr W16 n).getD (i - 2) 0 = d at *
          obtain ⟨i1, e1⟩ : ∃ i1, i - 16 = i1 := ⟨_, rfl⟩
          obtain ⟨i2, e2⟩ : ∃ i1, i - 15 = i1 := ⟨_, rfl⟩
          obtain ⟨i3, e3⟩ : ∃ i1, i - 7 = i1 := ⟨_, rfl⟩
          obtain ⟨i4, e4⟩ : ∃ i1, i - 2 = i1 := ⟨_, rfl⟩
          have g1 : i1 < i := by omega
          have g2 : i2 < i := by omega
          have g3 : i3 < i := by omega
          have g4 : i4 < i := by omega
          rw [e1] at h1 c1
          rw [e2] at h2 c2
          rw [e3] at h3 c3
          rw [e4] at h4 c4
          have q1 : IntKind.i64.wrap ((i : Int) - 16) = (i1 : Int) := by rw [h1]; exact IntWalk.i64_in _ (by omega)
          have q2 : IntKind.i64.wrap ((i : Int) - 15) = (i2 : Int) := by rw [h2]; exact IntWalk.i64_in _ (by omega)
          have q3 : IntKind.i64.wrap ((i : Int) - 7) = (i3 : Int) := by rw [h3]; exact IntWalk.i64_in _ (by omega)
          have q4 : IntKind.i64.wrap ((i : Int) - 2) = (i4 : Int) := by rw [h4]; exact IntWalk.i64_in _ (by omega)
          have k1 : IntKind.i64.wrap (i1 : Int) = (i1 : Int) := IntWalk.i64_in _ (by omega)
          have k3 : IntKind.i64.wrap (i3 : Int) = (i3 : Int) := IntWalk.i64_in _ (by omega)
          have m1 : 0 ≤ (i1 : Int) := by omega
          have m2 : 0 ≤ (i2 : Int) := by omega
          have m3 : 0 ≤ (i3 : Int) := by omega
          have m4 : 0 ≤ (i4 : Int) := by omega
          have f1 : (i1 : Int) < 80 := by omega
          have f2 : (i2 : Int) < 80 := by omega
          have f3 : (i3 : Int) < 80 := by omega
          have f4 : (i4 : Int) < 80 := by omega
          have HST := hid hst
          have HLEN := hid hlen
          clear rS rG rW ro hi hst hlen hwl e1 e2 e3 e4
          go_wp2_with fail
          go_quiet (fail)
          have S3 : (wr.drewN nq).heap[sb]? = some (.cells (stv h) 106 (0, 0)) := RS.out
          have G3 : (wr.drewN nq).heap[0]? = some (.cells (wrow SH.K) TG fg) := RG.out
          have W3 : (wr.drewN nq).heap[N]? = some (.cells (wrow (gr W16 n)) 119 (0, 0)) := RW.out
          have O3 : Only sb W (wr.drewN nq) := RO.out.drewN _
          have d1 : (wr.drewN nq).cell? ⟨N, i1, none⟩ = some (.int .u64 (UW a)) := c1
          have d3 : (wr.drewN nq).cell? ⟨N, i3, none⟩ = some (.int .u64 (UW c)) := c3
          have dw : (wr.drewN nq).cell? ⟨N, i, none⟩ = some (.int .u64 (UW ((gr W16 n).getD i 0))) := hcw
          have df : ∀ k, (wr.drewN nq).frozen? ⟨N, k, none⟩ = false := hf
          generalize wr.drewN nq = w3 at *
          clear RS RG RW RO c1 c2 c3 c4 hcw hf
          have lN3 := lt_blk W3
          have dd1 : w3.drew.cell? ⟨N, i1, none⟩ = some (.int .u64 (UW a)) := d1
          have dd3 : w3.drew.cell? ⟨N, i3, none⟩ = some (.int .u64 (UW c)) := d3
          have n1 : i1 ≠ i := by omega
          have n3 : i3 ≠ i := by omega
          go_wp2_with fail
          go_region_held3 (fun w' => w'.cell? ⟨N, i1, none⟩ = some (.int .u64 (UW a)) ∧ w'.cell? ⟨N, i3, none⟩ = some (.int .u64 (UW c)))
            (first | with_reducible exact ⟨dd1, dd3⟩ | (go_split_ands; refine ⟨?_, ?_⟩ <;> first | with_reducible assumption | go_simp))
            (first | (go_at_call 96; (with_reducible refine Calls.mono (mixed_18 b _ _ ?_ ?_) ?_); (· go_simp); (· go_simp); rintro e w4 ⟨rfl, rfl⟩) | (go_at_call 96; (with_reducible refine Calls.mono (mixed_1961 d _ _ ?_ ?_) ?_); (· go_simp); (· go_simp); rintro e w5 ⟨rfl, rfl⟩))
          all_goals
            go_wp2_with fail
            have hv : a + c + (SH.ror 1 b ^^^ SH.ror 8 b ^^^ b >>> 7) + (SH.ror 19 d ^^^ SH.ror 61 d ^^^ d >>> 6) = wordOf a b c d := word_eq _ _ _ _
            refine ⟨⟨n + 1, by have := HI.out; omega, by rw [← HI.out]; go_num, alloc_old (alloc_old (at_setCell_other S3 (by show sb ≠ N; omega) _)), alloc_old (alloc_old (at_setCell_other G3 (by show 0 ≠ N; omega) _)), ?_, (((O3.setCell (.inr (by have := HN.out; simp; omega)) _).alloc _).alloc _).drew⟩, by simp [intOf]; omega⟩
            rw [← HST.out, ← hv]
            exact alloc_old (alloc_old (wrow_store W3 _ _))
        · have hd : decide ((i : Int) < 80) = false := decide_eq_false (by omega)
          have hn5 : n = 64 := by omega
          rw [hn5] at rW
          have hg : gr W16 64 = SH.ext 64 W16 := by unfold gr; simp
          rw [hg] at rW
          have RW2 := hid rW
          have hwl2 : (SH.ext 64 W16).length = 80 := by rw [SH.ext_length, hwl]
          obtain ⟨c0, c1, c2, c3, c4, c5, c6, c7⟩ := oct_cells rS
          clear rS rG rW ro RW hg hn5 hi hwl
          generalize hWLe : SH.ext 64 W16 = WL at *
          have HWLE := hid hWLe
          clear hWLe
          go_wp2_with fail
          refine opwp_load_row _ _ (by rfl) (by rfl) (alloc_old RG.out) Tryz.underlying119 rfl (by rw [info_A80, wrow_size]; rfl) ?_
          rename_i hK
          refine hK _ _ ?_
          go_wp2_with fail
          have S4 := alloc_old (o' := .cells (stv h) 106) RS.out
          have W4 := alloc_old (o' := .cells (stv h) 106) RW2.out
          have X4 := alloc_at wr (.cells (stv h) 106)
          have O4 := RO.out.alloc (.cells (stv h) 106)
          have hNM : N < wr.heap.size := lt_blk RW2.out
          have hSM : sb < wr.heap.size := lt_blk RS.out
          have hWM : W.heap.size ≤ wr.heap.size := RO.out.size
          have hM4 : wr.heap.size < (wr.alloc (.cells (stv h) 106)).heap.size := lt_blk X4
          have hxx : #[.int .u64 (UW h.a), .int .u64 (UW h.b), .int .u64 (UW h.c), .int .u64 (UW h.d), .int .u64 (UW h.e), .int .u64 (UW h.f), .int .u64 (UW h.g), .int .u64 (UW h.h)] = stv h := rfl
          rw [hxx]
          clear c0 c1 c2 c3 c4 c5 c6 c7 RS RG RW2 RO hxx hK
          generalize wr.alloc (.cells (stv h) 106) = w4 at *
          generalize wr.heap.size = M at *
          have S4' := hid S4
          have W4' := hid W4
          have X4' := hid X4
          have O4' := hid O4
          clear S4 W4 X4 O4
          go_loopw [88] (fun i wq => ∃ n : Nat, n ≤ 80 ∧ i = .int .i64 (n : Int) ∧ wq.heap[sb]? = some (.cells (stv h) 106 (0, 0)) ∧ wq.heap[N]? = some (.cells (wrow WL) 119 (0, 0)) ∧ wq.heap[M]? = some (.cells (stv (SH.rounds WL h n)) 106 (0, 0)) ∧ Only sb W wq) (fun i _ => (80 - intOf i).toNat)
          case atStart => exact ⟨0, by omega, rfl, S4'.out, W4'.out, X4'.out, O4'.out⟩
          case round =>
            clear S4' W4' X4' O4' hM4
            obtain ⟨n, hn, rfl, rS, rW, rX, ro⟩ := hrel
            have RS := hid rS
            have RW := hid rW
            have RO := hid ro
            have HWL2 := hid hwl2
            by_cases hlt : n < 80
            · have hd : decide ((n : Int) < 80) = true := decide_eq_true (by omega)
              have hi0 : 0 ≤ (n : Int) := by omega
              have hi1 : (n : Int) < 80 := by omega
              have hix := fun w => idx80 SH.K rfl n hlt w
              have cw := wrow_cell rW (j := n) (by rw [hwl2]; exact hlt)
              have hrr : SH.rounds WL h (n + 1) = SH.round (SH.rounds WL h n) (SH.K.getD n 0) (WL.getD n 0) := rfl
              generalize SH.K.getD n 0 = kk at *
              obtain ⟨ww, hww⟩ : ∃ ww, WL.getD n 0 = ww := ⟨_, rfl⟩
              rw [hww] at cw hrr
              have HWW := hid hww
              generalize hx : SH.rounds WL h n = x at *
              obtain ⟨xa, xb, xc, xd, xe, xf, xg, xh⟩ := x
              obtain ⟨c0, c1, c2, c3, c4, c5, c6, c7⟩ := oct_cells rX
              have hf := free_at rX
              have RX := hid rX
              have HRR := hid hrr
              have lM := lt_blk rX
              have RLM := hid lM
              clear rS rW rX ro hx hrr hwl2 hww lM
              go_wp2_with fail
              clear hix
              have dd : wr.drew.cell? ⟨M, 0, none⟩ = some (.int .u64 (UW xa)) ∧ wr.drew.cell? ⟨M, 1, none⟩ = some (.int .u64 (UW xb)) ∧ wr.drew.cell? ⟨M, 2, none⟩ = some (.int .u64 (UW xc)) ∧ wr.drew.cell? ⟨M, 3, none⟩ = some (.int .u64 (UW xd)) ∧ wr.drew.cell? ⟨M, 4, none⟩ = some (.int .u64 (UW xe)) ∧ wr.drew.cell? ⟨M, 5, none⟩ = some (.int .u64 (UW xf)) ∧ wr.drew.cell? ⟨M, 6, none⟩ = some (.int .u64 (UW xg)) ∧ wr.drew.cell? ⟨M, 7, none⟩ = some (.int .u64 (UW xh)) ∧ wr.drew.cell? ⟨N, n, none⟩ = some (.int .u64 (UW ww)) := ⟨c0, c1, c2, c3, c4, c5, c6, c7, cw⟩
              go_region_held3 (fun w' => w'.cell? ⟨M, 0, none⟩ = some (.int .u64 (UW xa)) ∧ w'.cell? ⟨M, 1, none⟩ = some (.int .u64 (UW xb)) ∧ w'.cell? ⟨M, 2, none⟩ = some (.int .u64 (UW xc)) ∧ w'.cell? ⟨M, 3, none⟩ = some (.int .u64 (UW xd)) ∧ w'.cell? ⟨M, 4, none⟩ = some (.int .u64 (UW xe)) ∧ w'.cell? ⟨M, 5, none⟩ = some (.int .u64 (UW xf)) ∧ w'.cell? ⟨M, 6, none⟩ = some (.int .u64 (UW xg)) ∧ w'.cell? ⟨M, 7, none⟩ = some (.int .u64 (UW xh)) ∧ w'.cell? ⟨N, n, none⟩ = some (.int .u64 (UW ww)))
                (first | with_reducible exact dd | (go_split_ands; refine ⟨?_, ?_, ?_, ?_, ?_, ?_, ?_, ?_, ?_⟩ <;> first | with_reducible assumption | go_simp))
                (first | (go_at_call 96; (with_reducible refine Calls.mono (mixed_141841 xe _ _ ?_ ?_ ?_) ?_); (· go_simp); (· go_simp); (· go_simp); rintro e w9 ⟨rfl, rfl⟩))
              clear dd
              have S3 := alloc_old (o' := (.cells #[.int .i64 14, .int .i64 18, .int .i64 41] 3)) RS.out
              have W3 := alloc_old (o' := (.cells #[.int .i64 14, .int .i64 18, .int .i64 41] 3)) RW.out
              have X3 := alloc_old (o' := (.cells #[.int .i64 14, .int .i64 18, .int .i64 41] 3)) RX.out
              have O3 := (RO.out.alloc (.cells #[.int .i64 14, .int .i64 18, .int .i64 41] 3)).drew
              have lM := Nat.lt_of_lt_of_le RLM.out (show wr.heap.size ≤ (wr.alloc (.cells #[.int .i64 14, .int .i64 18, .int .i64 41] 3)).heap.size by simp)
              replace S3 : (wr.alloc (.cells #[.int .i64 14, .int .i64 18, .int .i64 41] 3)).drew.heap[sb]? = _ := S3
              replace W3 : (wr.alloc (.cells #[.int .i64 14, .int .i64 18, .int .i64 41] 3)).drew.heap[N]? = _ := W3
              replace X3 : (wr.alloc (.cells #[.int .i64 14, .int .i64 18, .int .i64 41] 3)).drew.heap[M]? = _ := X3
              replace lM : M < (wr.alloc (.cells #[.int .i64 14, .int .i64 18, .int .i64 41] 3)).drew.heap.size := lM
              clear RS RW RX RO RLM c0 c1 c2 c3 c4 c5 c6 c7 cw hf
              generalize (wr.alloc (.cells #[.int .i64 14, .int .i64 18, .int .i64 41] 3)).drew = w3 at *
              obtain ⟨c0, c1, c2, c3, c4, c5, c6, c7⟩ := oct_cells X3
              have cw := wrow_cell W3 (j := n) (by rw [HWL2.out]; exact hlt)
              rw [HWW.out] at cw
              have hf := free_at X3
              have RS := hid S3
              have RW := hid W3
              have RX := hid X3
              have RO := hid O3
              have RLM := hid lM
              clear S3 W3 X3 O3 lM
              go_wp2_with fail
              have dd : w3.drew.cell? ⟨M, 0, none⟩ = some (.int .u64 (UW xa)) ∧ w3.drew.cell? ⟨M, 1, none⟩ = some (.int .u64 (UW xb)) ∧ w3.drew.cell? ⟨M, 2, none⟩ = some (.int .u64 (UW xc)) ∧ w3.drew.cell? ⟨M, 3, none⟩ = some (.int .u64 (UW xd)) ∧ w3.drew.cell? ⟨M, 4, none⟩ = some (.int .u64 (UW xe)) ∧ w3.drew.cell? ⟨M, 5, none⟩ = some (.int .u64 (UW xf)) ∧ w3.drew.cell? ⟨M, 6, none⟩ = some (.int .u64 (UW xg)) ∧ w3.drew.cell? ⟨M, 7, none⟩ = some (.int .u64 (UW xh)) ∧ w3.drew.cell? ⟨N, n, none⟩ = some (.int .u64 (UW ww)) := ⟨c0, c1, c2, c3, c4, c5, c6, c7, cw⟩
              go_region_held3 (fun w' => w'.cell? ⟨M, 0, none⟩ = some (.int .u64 (UW xa)) ∧ w'.cell? ⟨M, 1, none⟩ = some (.int .u64 (UW xb)) ∧ w'.cell? ⟨M, 2, none⟩ = some (.int .u64 (UW xc)) ∧ w'.cell? ⟨M, 3, none⟩ = some (.int .u64 (UW xd)) ∧ w'.cell? ⟨M, 4, none⟩ = some (.int .u64 (UW xe)) ∧ w'.cell? ⟨M, 5, none⟩ = some (.int .u64 (UW xf)) ∧ w'.cell? ⟨M, 6, none⟩ = some (.int .u64 (UW xg)) ∧ w'.cell? ⟨M, 7, none⟩ = some (.int .u64 (UW xh)) ∧ w'.cell? ⟨N, n, none⟩ = some (.int .u64 (UW ww)))
                (first | with_reducible exact dd | (go_split_ands; refine ⟨?_, ?_, ?_, ?_, ?_, ?_, ?_, ?_, ?_⟩ <;> first | with_reducible assumption | go_simp))
                (first | (go_at_call 96; (with_reducible refine Calls.mono (mixed_283439 xa _ _ ?_ ?_ ?_) ?_); (· go_simp); (· go_simp); (· go_simp); rintro e w9 ⟨rfl, rfl⟩))
              clear dd
              have S3 := alloc_old (o' := (.cells #[.int .i64 28, .int .i64 34, .int .i64 39] 3)) RS.out
              have W3 := alloc_old (o' := (.cells #[.int .i64 28, .int .i64 34, .int .i64 39] 3)) RW.out
              have X3 := alloc_old (o' := (.cells #[.int .i64 28, .int .i64 34, .int .i64 39] 3)) RX.out
              have O3 := (RO.out.alloc (.cells #[.int .i64 28, .int .i64 34, .int .i64 39] 3)).drew
              have lM := Nat.lt_of_lt_of_le RLM.out (show w3.heap.size ≤ (w3.alloc (.cells #[.int .i64 28, .int .i64 34, .int .i64 39] 3)).heap.size by simp)
              replace S3 : (w3.alloc (.cells #[.int .i64 28, .int .i64 34, .int .i64 39] 3)).drew.heap[sb]? = _ := S3
              replace W3 : (w3.alloc (.cells #[.int .i64 28, .int .i64 34, .int .i64 39] 3)).drew.heap[N]? = _ := W3
              replace X3 : (w3.alloc (.cells #[.int .i64 28, .int .i64 34, .int .i64 39] 3)).drew.heap[M]? = _ := X3
              replace lM : M < (w3.alloc (.cells #[.int .i64 28, .int .i64 34, .int .i64 39] 3)).drew.heap.size := lM
              clear RS RW RX RO RLM c0 c1 c2 c3 c4 c5 c6 c7 cw hf
              generalize (w3.alloc (.cells #[.int .i64 28, .int .i64 34, .int .i64 39] 3)).drew = w5 at *
              obtain ⟨c0, c1, c2, c3, c4, c5, c6, c7⟩ := oct_cells X3
              have cw := wrow_cell W3 (j := n) (by rw [HWL2.out]; exact hlt)
              rw [HWW.out] at cw
              have hf := free_at X3
              have RS := hid S3
              have RW := hid W3
              have RX := hid X3
              have RO := hid O3
              have RLM := hid lM
              clear S3 W3 X3 O3 lM
              go_wp2_with fail
              have E := set8 RX.out (xh + (SH.ror 14 xe ^^^ SH.ror 18 xe ^^^ SH.ror 41 xe) + (xg ^^^ xe &&& (xf ^^^ xg)) + kk + ww + ((SH.ror 28 xa ^^^ SH.ror 34 xa ^^^ SH.ror 39 xa) + (xa &&& xb ||| xc &&& (xa ||| xb)))) xa xb xc
                (xd + (xh + (SH.ror 14 xe ^^^ SH.ror 18 xe ^^^ SH.ror 41 xe) + (xg ^^^ xe &&& (xf ^^^ xg)) + kk + ww)) xe xf xg
              rw [E]
              have l3 := lt_blk RX.out
              refine ⟨⟨n + 1, by omega, by go_num, (blk_other sb (by omega)).trans RS.out, (blk_other N (by omega)).trans RW.out, ?_, RO.out.blk (.inr (by omega)) _⟩, by simp [intOf]; omega⟩
              rw [HRR.out]
              exact blk_heap l3
            · have hd : decide ((n : Int) < 80) = false := decide_eq_false (by omega)
              have hn5 : n = 80 := by omega
              have hxx := rX
              rw [hn5] at hxx
              obtain ⟨x, hx⟩ : ∃ x, SH.rounds WL h 80 = x := ⟨_, rfl⟩
              rw [hx] at hxx
              have RX := hid hxx
              have HX := hid hx
              clear rS rW rX ro hxx hx hn5 RW
              go_wp2_with fail
              clear hd hn hlt
              go_loopw [159] (fun i wq => ∃ n : Nat, n ≤ 8 ∧ i = .int .i64 (n : Int) ∧ wq.heap[sb]? = some (.cells (wrow ((stl (SH.plus h x)).take n ++ (stl h).drop n)) 106 (0, 0)) ∧
                wq.heap[M]? = some (.cells (wrow (stl x)) 106 (0, 0)) ∧ Only sb W wq) (fun i _ => (8 - intOf i).toNat)
              case atStart => exact ⟨0, by omega, rfl, RS.out, RX.out, RO.out⟩
              case round =>
                clear RS RX RO
                obtain ⟨n, hn, rfl, rH, rX, ro⟩ := hrel
                have RH := hid rH
                have RX := hid rX
                have RO := hid ro
                by_cases hlt : n < 8
                · have hd : decide ((n : Int) < 8) = true := decide_eq_true (by omega)
                  have hi0 : 0 ≤ (n : Int) := by omega
                  have hi1 : (n : Int) < 8 := by omega
                  have hl1 : (stl (SH.plus h x)).length = (stl h).length := rfl
                  have c1 := wrow_cell rH (j := n) (by rw [put_len hl1]; exact hlt)
                  rw [sput_get hl1 (by exact hlt)] at c1
                  have c2 := wrow_cell rX (j := n) (by exact hlt)
                  have hf := free_at rH
                  have hs := put_step hl1 (i := n) (by exact hlt)
                  rw [← stl_plus, zip_get (by exact hlt) (by exact hlt), stl_plus] at hs
                  generalize (stl h).getD n 0 = p at *
                  generalize (stl x).getD n 0 = q at *
                  have HSS := hid hs
                  clear rH rX ro hl1 hs
                  go_wp2_with fail
                  refine still_tail 11 (by kernel_rfl) (by kernel_rfl) ?_
                  simp only [List.take_succ_cons, List.take_zero, List.drop_succ_cons, List.drop_zero]
                  repeat (first | (refine wpStill_step (fun K hK => ?_); go_simp; refine hK _ ?_; clear hK K; try go_ints))
                  refine wpStill_nil ?_
                  go_wp2_with fail
                  refine ⟨⟨n + 1, by omega, by go_num, ?_, at_setCell_other RX.out (by show M ≠ sb; omega) _, (RO.out.setCell (.inl rfl) _).drew⟩, by simp [intOf]; omega⟩
                  rw [← HSS.out]
                  exact wrow_store RH.out _ _
                · have hd : decide ((n : Int) < 8) = false := decide_eq_false (by omega)
                  have hn5 : n = 8 := by omega
                  rw [hn5] at rH
                  have hp : (stl (SH.plus h x)).take 8 ++ (stl h).drop 8 = stl (SH.plus h x) := rfl
                  have hblk : SH.plus h x = SH.block h bl := by
                    unfold SH.block
                    rw [HW16.out, HWLE.out, HX.out]
                  rw [hp, hblk] at rH
                  have RH2 := hid rH
                  clear rH rX ro hp RH
                  go_wp2_with fail
                  go_end0
                  exact ⟨rfl, RO.out, RH2.out⟩

end Go.Proofs.YtceljjnohjnepaaGreatDoor
