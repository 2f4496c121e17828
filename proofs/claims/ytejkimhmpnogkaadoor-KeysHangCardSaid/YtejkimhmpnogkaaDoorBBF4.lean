/- A bytes.Buffer in a struct's fields: grow. -/
import Derived.Test.YtejkimhmpnogkaaDoorBBF3
import Derived.Test.YtejkimhmpnogkaaDoorPEEL
namespace Go.Proofs.YtejkimhmpnogkaaDoor
open Go Go.RowKit

def Z64 : Array Value := Builtin.zeroCells (Value.int .u8 0).cells 64
theorem Z64_size : Z64.size = 64 := by unfold Z64; simp [size_zeroCells]; rfl
theorem make_n64 (n : Nat) (h : n ≤ 64) (w : World) : (Instr.makeSlice 57 (.int .i64 (n : Int)) (.int .i64 64)).run Tryd.prog w = .ok (.slice (some ⟨w.heap.size, 0, none⟩) n 64) (w.alloc (.cells Z64 5)) := by
  obtain ⟨i0, hi, hz0, hz1, hz2⟩ := info_parts info_u8
  have := run_make (P := Tryd.prog) w 57 5 i0 (.int .u8 0) Tryd.underlying57 hi hz0 .i64 .i64 (n : Int) 64 (by omega) (by omega) (by rw [hz2]; decide) (by omega)
  rw [this]
  simp [hz1]
  rfl

@[go_sem] theorem eql_nil_bytes (w : World) (a : Option Addr) (n c : Nat) : (binOp .eql 57 (.slice a n c) (.slice none 0 0)).run Tryd.prog w = .ok (.bool a.isNone) w := Lib.run_eql_slice_nil w 57 5 a n c 0 0 Tryd.underlying57
section
variable {w : World} {P k : Nat} {T : TypeId} {cs : Array Value} {v : Value} {o : Nat} {r : Int} {l : List UInt8}
theorem grown_two {x v' : Value} {n : Nat} (h : hget w P = some (.cells (bset cs k v o r) T (0, 0))) (hf : k + 2 < cs.size) (own : OwnG w v' 0 l n) (hn : v'.ownBlock ≠ some P) :
    GrownAt (((w.setCell ⟨P, k, none⟩ x).setCell ⟨P, k + 1, none⟩ (.int .i64 0)).setCell ⟨P, k, none⟩ v') P k T cs v' 0 r l n := by
  have g1 : hget (w.setCell ⟨P, k, none⟩ x) P = some (.cells (bset cs k x o r) T (0, 0)) := by rw [hget_setCell h, bset_put0]
  have g2 : hget ((w.setCell ⟨P, k, none⟩ x).setCell ⟨P, k + 1, none⟩ (.int .i64 0)) P = some (.cells (bset cs k x 0 r) T (0, 0)) := by rw [hget_setCell g1]; rw [show (Value.int IntKind.i64 0) = .int .i64 ((0 : Nat) : Int) from rfl, bset_put1]
  refine ⟨by rw [hget_setCell g2, bset_put0], hf, ?_, hn⟩
  have keep : ∀ g ob, v'.ownBlock = some g → hget w g = some ob → hget (((w.setCell ⟨P, k, none⟩ x).setCell ⟨P, k + 1, none⟩ (.int .i64 0)).setCell ⟨P, k, none⟩ v') g = some ob := fun g ob e hg => by
    have hgP : g ≠ P := by rintro rfl; exact hn e
    exact hget_setCell_ne (hget_setCell_ne (hget_setCell_ne hg (by show g ≠ P; exact hgP) _) (by show g ≠ P; exact hgP) _) (by show g ≠ P; exact hgP) _
  rcases own with h | ⟨g, cap, cur, rfl, h2, h3⟩
  · exact .inl h
  · exact .inr ⟨g, cap, cur, rfl, keep g _ rfl h2, h3⟩
theorem grown_one {v' : Value} {n : Nat} (h : hget w P = some (.cells (bset cs k v o r) T (0, 0))) (hf : k + 2 < cs.size) (own : OwnG w v' 0 l n) (hn : v'.ownBlock ≠ some P) :
    GrownAt ((w.setCell ⟨P, k + 1, none⟩ (.int .i64 0)).setCell ⟨P, k, none⟩ v') P k T cs v' 0 r l n := by
  have g2 : hget (w.setCell ⟨P, k + 1, none⟩ (.int .i64 0)) P = some (.cells (bset cs k v 0 r) T (0, 0)) := by rw [hget_setCell h]; rw [show (Value.int IntKind.i64 0) = .int .i64 ((0 : Nat) : Int) from rfl, bset_put1]
  refine ⟨by rw [hget_setCell g2, bset_put0], hf, ?_, hn⟩
  rcases own with h | ⟨g, cap, cur, rfl, h2, h3⟩
  · exact .inl h
  · have hgP : g ≠ P := by rintro rfl; exact hn rfl
    exact .inr ⟨g, cap, cur, rfl, hget_setCell_ne (hget_setCell_ne h2 (by show g ≠ P; exact hgP) _) (by show g ≠ P; exact hgP) _, h3⟩
theorem grown_zero {v' : Value} {n : Nat} (h : hget w P = some (.cells (bset cs k v 0 r) T (0, 0))) (hf : k + 2 < cs.size) (own : OwnG w v' 0 l n) (hn : v'.ownBlock ≠ some P) :
    GrownAt (w.setCell ⟨P, k, none⟩ v') P k T cs v' 0 r l n := by
  refine ⟨by rw [hget_setCell h, bset_put0], hf, ?_, hn⟩
  rcases own with h | ⟨g, cap, cur, rfl, h2, h3⟩
  · exact .inl h
  · have hgP : g ≠ P := by rintro rfl; exact hn rfl
    exact .inr ⟨g, cap, cur, rfl, hget_setCell_ne h2 (by show g ≠ P; exact hgP) _, h3⟩

/-- What grow leaves. -/
def Grew (w : World) (P k : Nat) (T : TypeId) (cs : Array Value) (v : Value) (l : List UInt8) (n : Nat) (e : Ending) (w' : World) : Prop :=
  ∃ v' o' r', e = .returned (.int .i64 ((o' + l.length : Nat) : Int)) ∧ GrownAt w' P k T cs v' o' r' l n ∧ Out (BEx P v) w w' ∧ (v'.ownBlock = v.ownBlock ∨ ∃ g, v'.ownBlock = some g ∧ w.heap.size ≤ g) ∧ o' = 0

set_option maxRecDepth 100000 in
set_option maxHeartbeats 2000000 in
theorem grow_nil (n : Nat) (h : BufAt w P k T cs (.slice none 0 0) 0 r []) (h0 : 0 < n) (hs : n ≤ 1099511627776) :
    Calls Tryd.prog 65 #[.pointer (some ⟨P, k, none⟩), .int .i64 (n : Int)] w fun e w' => Grew w P k T cs (.slice none 0 0) [] n e w' := by
  have HH := hid h
  have hP := hget_lt h.at_
  clear h
  go_enter Tryd.func65, Tryd.ntmps65
  go_wp2_with fail
  refine (blen_any HH.out).mono ?_
  rintro e w1 ⟨rfl, hd⟩
  have H1 := hid (HH.out.dr hd)
  have HD := hid hd
  clear hd
  have c0 := H1.out.c0
  have c1 := H1.out.c1
  have f := H1.out.free
  go_wp2_with fail
  refine (try_no (o := 0) (l := []) n none 0 H1.out (by simp; omega) hs).mono ?_
  rintro e w2 ⟨rfl, rfl⟩
  by_cases h64 : n ≤ 64
  · have d1 : decide ((n : Int) ≤ 64) = true := decide_eq_true (by omega)
    have hmk := fun w => make_n64 n h64 w
    have fz : ∀ j, (w1.alloc (.cells Z64 5)).frozen? ⟨P, j, none⟩ = false := fun j => free_at (alloc_old H1.out.at_) j
    go_wp2_with fail
    go_ret
    have hb : hget (w1.alloc (.cells Z64 5)) P = some (.cells (bset cs k (.slice none 0 0) 0 r) T (0, 0)) := alloc_old H1.out.at_
    have hPw : w1.heap.size ≠ P := by have := hget_lt H1.out.at_; omega
    refine ⟨_, 0, r, rfl, grown_zero (l := []) (n := n) (v' := .slice (some ⟨w1.heap.size, 0, none⟩) n 64) hb H1.out.fits (.inr ⟨w1.heap.size, 64, Z64, by simp, alloc_at _ _, by simp; exact h64, by rw [Z64_size]; omega, by rw [Z64_size]; omega, by simp [u8s], by omega⟩) (by intro e; injection e with e; exact hPw e), ?_, .inr ⟨w1.heap.size, rfl, by rw [HD.out.heap]; exact Nat.le_refl _⟩, rfl⟩
    exact ((Out.of_dr HD.out).alloc _).setCell (p := ⟨P, k, none⟩) (.inl (.inl rfl)) _
  · have d1 : decide ((n : Int) ≤ 64) = false := decide_eq_false (by omega)
    have d2 : decide ((n : Int) ≤ 0) = false := decide_eq_false (by omega)
    go_wp2_with fail
    have lc0 := later_cell c0
    have lc1 := later_cell c1
    refine wp_region_gho_last 19 [16] (fun _ u x => ∃ G cap cur, u = .slice (some ⟨G, 0, none⟩) 0 cap ∧ w1.heap.size ≤ G ∧ hget x G = some (.cells cur 5 (0, 0)) ∧ n ≤ cap ∧ cap ≤ cur.size ∧ cur.size ≤ maxLen) (by kernel_rfl) (by kernel_rfl) (by kernel_rfl) (by rfl) (by kernel_rfl) (by rfl) (fun _ u w w' ⟨G, cap, cur, h1, h2, h3, h4⟩ hb => ⟨G, cap, cur, h1, h2, keepB hb h3, h4⟩) ?_
    simp only [List.take_succ_cons, List.take_zero]
    repeat (first | (refine wpGho_plain (by kernel_rfl) (by decide) (by rfl) (by rfl) (fun K hK => ?_); go_simp; refine hK _ ?_; clear hK K; try go_ints))
    refine wpGho_make (by kernel_rfl) (by decide) (by rfl) (by rfl) (by rfl) (fun K hK => ?_)
    go_simp
    refine ⟨fun x => ⟨rfl, (gslice_any _ [] none 0 rfl (by simp) (by omega) n h0 (by simp; omega) x.w' (fun h => absurd h (by simp))).mono fun e w'' ⟨G, cap, cur, he, g1, g2, g3, g4, g5, _, g7⟩ => ⟨_, he, g7, G, cap, rfl, Nat.le_trans x.h.size g1, cur, g2, by simpa using g3, g4, g5⟩⟩, hK _ ?_⟩
    clear hK K
    repeat (first | (refine wpGho_plain (by kernel_rfl) (by decide) (by rfl) (by rfl) (fun K hK => ?_); go_simp; refine hK _ ?_; clear hK K; try go_ints))
    refine wpGho_nil ?_
    intro g wM hwM hR
    obtain ⟨⟨w8, hM⟩, e8⟩ := hwM
    change wM = w8 at e8
    subst e8
    obtain ⟨G, cap, cur, hb8, hG, hc8, q1, q2, q3⟩ := hR 16 (by decide)
    rw [show ∀ a, over _ [16] g a = Act.put a (some 92) (g 16) from fun _ => rfl, hb8]
    simp only [Act.put, List.setIfInBounds_toArray, List.set_cons_zero, List.set_cons_succ]
    have HM := hid (H1.out.below hM)
    have HOM := hid (Out.of_below (ex := BEx P (.slice none 0 0)) hM)
    have HC8 := hid hc8
    clear lc0 lc1 c0 c1 f hM hb8 hc8 hR
    have c0 := HM.out.c0
    have c1 := HM.out.c1
    have f := HM.out.free
    unfold maxLen at q3
    go_wp2_with fail
    go_ret
    have hGP : G ≠ P := by have := hget_lt H1.out.at_; omega
    refine ⟨_, 0, r, rfl, grown_two (l := []) (n := n) (x := .slice (some ⟨G, 0, none⟩) 0 cap) (v' := .slice (some ⟨G, 0, none⟩) n cap) HM.out.at_ HM.out.fits (.inr ⟨G, cap, cur, by simp, HC8.out, by simpa using q1, q2, q3, by simp [u8s], by omega⟩) (by intro e; injection e with e; exact hGP e), ?_, .inr ⟨G, rfl, by rw [HD.out.heap] at hG; exact hG⟩, rfl⟩
    exact ((((Out.of_dr HD.out).then HOM.out).setCell (p := ⟨P, k, none⟩) (.inl (.inl rfl)) _).setCell (p := ⟨P, k + 1, none⟩) (.inl (.inl rfl)) _).setCell (p := ⟨P, k, none⟩) (.inl (.inl rfl)) _
end

end Go.Proofs.YtejkimhmpnogkaaDoor
