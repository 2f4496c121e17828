/- The walks of the digest's laws: alive; what the digest of a text is. -/
import Derived.Test.YtjfjbanoikbnoaaDoorShaW7
namespace Go.Proofs.YtjfjbanoikbnoaaDoor
open Go.RowKit

theorem sha_e : SH.sha (cat []) = [207, 131, 225, 53, 126, 239, 184, 189, 241, 84, 40, 80, 214, 109, 128, 7, 214, 32, 228, 5, 11, 87, 21, 220, 131, 244, 169, 33, 211, 108, 233, 206, 71, 208, 209, 60, 93, 133, 242, 176, 255, 131, 24, 210, 135, 126, 236, 47, 99, 185, 49, 189, 71, 65, 122, 129, 165, 56, 50, 122, 249, 39, 218, 62] := by decide +kernel
theorem sha_a : SH.sha (cat [⟨#[97]⟩, ⟨#[98, 99]⟩]) = [221, 175, 53, 161, 147, 97, 122, 186, 204, 65, 115, 73, 174, 32, 65, 49, 18, 230, 250, 78, 137, 169, 126, 162, 10, 158, 238, 230, 75, 85, 211, 154, 33, 146, 153, 42, 39, 79, 193, 168, 54, 186, 60, 35, 163, 254, 235, 189, 69, 77, 68, 35, 100, 60, 232, 14, 42, 154, 201, 79, 165, 76, 164, 159] := by decide +kernel
/-- The table of the rounds stands where it was laid. -/
def Tab (w : World) : Prop := ∃ TG fg, w.heap[0]? = some (.cells (wrow SH.K) TG fg)
theorem Tab.keep {w w' : World} (h : Tab w) (hb : Below w.heap.size w w') : Tab w' := by
  obtain ⟨T, f, h⟩ := h; exact ⟨T, f, keepB hb h⟩
theorem Tab.alloc {w : World} (h : Tab w) (o : Obj) : Tab (w.alloc o) := h.keep (below_new o)

set_option maxHeartbeats 1000000 in
theorem alive_any (W : World) (hT : Tab W) : Calls Tryd.prog 6 #[] W fun e w' => e = .returned (.bool true) ∧ Below W.heap.size W w' := by
  have HT := hid hT
  clear hT
  go_enter Tryd.func6, Tryd.ntmps6
  go_wp2_with fail
  obtain ⟨TG, fg, hG⟩ := HT.out
  have h1 := Of_any [] none 0 TG fg W hG (by decide) (by decide) (.inl rfl)
  rw [sha_e] at h1
  refine h1.mono ?_
  rintro e w1 ⟨rfl, hb1⟩
  have T1 := hid (HT.out.keep hb1)
  have B1 := hid hb1
  clear h1 hG hb1 HT
  go_wp2_with fail
  have T2 := hid (T1.out.alloc (.cells #[.string ⟨#[97]⟩, .string ⟨#[98, 99]⟩] 9))
  obtain ⟨TG2, fg2, hG2⟩ := T2.out
  have h2 := Of_any [⟨#[97]⟩, ⟨#[98, 99]⟩] (some ⟨w1.heap.size, 0, none⟩) 2 TG2 fg2 _ hG2 (by decide) (by decide) (.inr ⟨_, 0, rfl, fun j hj => by
    rw [Nat.zero_add, cell_at (alloc_at _ _)]
    match j, hj with
    | 0, _ => rfl
    | 1, _ => rfl⟩)
  rw [sha_a] at h2
  refine h2.mono ?_
  rintro e w2 ⟨rfl, hb2⟩
  have B2 := hid (below_to (below_alloc B1.out _) hb2)
  clear h2 hG2 hb2 B1 T1 T2
  have hx1 : (({ data := #[207, 131, 225, 53, 126, 239, 184, 189, 241, 84, 40, 80, 214, 109, 128, 7, 214, 32, 228, 5, 11, 87, 21, 220, 131, 244, 169, 33, 211, 108, 233, 206, 71, 208, 209, 60, 93, 133, 242, 176, 255, 131, 24, 210, 135, 126, 236, 47, 99, 185, 49, 189, 71, 65, 122, 129, 165, 56, 50, 122, 249, 39, 218, 62] } : ByteArray).extract 0 4).toList = [207, 131, 225, 53] := by decide +kernel
  have hx2 : (({ data := #[221, 175, 53, 161, 147, 97, 122, 186, 204, 65, 115, 73, 174, 32, 65, 49, 18, 230, 250, 78, 137, 169, 126, 162, 10, 158, 238, 230, 75, 85, 211, 154, 33, 146, 153, 42, 39, 79, 193, 168, 54, 186, 60, 35, 163, 254, 235, 189, 69, 77, 68, 35, 100, 60, 232, 14, 42, 154, 201, 79, 165, 76, 164, 159] } : ByteArray).extract 0 4).toList = [221, 175, 53, 161] := by decide +kernel
  go_wp2_with fail
  go_ret
  exact ⟨rfl, B2.out⟩

set_option maxHeartbeats 1000000 in
theorem ofs_far (s : ByteArray) (W : World) (hT : Tab W) (h : 2048 < s.size) : Calls Tryd.prog 3 #[.string s] W fun e w' => e = .returned (.bool true) ∧ Below W.heap.size W w' := by
  have HT := hid hT
  have hd : decide ((s.size : Int) > 2048) = true := decide_eq_true (by omega)
  have hd2 : decide (2048 < (s.size : Int)) = true := decide_eq_true (by omega)
  clear hT
  go_enter Tryd.func3, Tryd.ntmps3
  go_wp2_with fail
  refine (alive_any _ HT.out).mono ?_
  rintro e w1 ⟨rfl, hb1⟩
  go_wp2_with fail
  go_ret
  exact ⟨rfl, hb1⟩

set_option maxHeartbeats 1000000 in
theorem ofs_any (s : ByteArray) (W : World) (hT : Tab W) (h : s.size ≤ 2048) : Calls Tryd.prog 3 #[.string s] W fun e w' => e = .returned (.bool true) ∧ Below W.heap.size W w' := by
  have HT := hid hT
  have hd : decide ((s.size : Int) > 2048) = false := decide_eq_false (by omega)
  have hd2 : decide (2048 < (s.size : Int)) = false := decide_eq_false (by omega)
  have hcat : cat [s] = s.data.toList := by simp [cat]
  have hlen : (cat [s]).length = s.size := by rw [hcat]; simp
  have H := hid h
  have HC := hid hcat
  have HL := hid hlen
  clear hT hcat hlen h
  go_enter Tryd.func3, Tryd.ntmps3
  go_wp2_with fail
  have T2 := hid (HT.out.alloc (.cells #[.string s] 9))
  obtain ⟨TG2, fg2, hG2⟩ := T2.out
  have h2 := Of_any [s] (some ⟨W.heap.size, 0, none⟩) 1 TG2 fg2 _ hG2 (by rw [HL.out]; have := H.out; omega) (by simp) (.inr ⟨_, 0, rfl, fun j hj => by
    rw [Nat.zero_add, cell_at (alloc_at _ _)]
    match j, hj with
    | 0, _ => rfl⟩)
  rw [HC.out] at h2
  refine h2.mono ?_
  rintro e w2 ⟨rfl, hb2⟩
  have T3 := hid (T2.out.keep hb2)
  have B2 := hid (below_to (below_new _) hb2)
  clear h2 hG2 hb2 T2
  go_wp2_with fail
  refine (ROf_any s _ (by have := H.out; omega)).mono ?_
  rintro e w3 ⟨rfl, hb3⟩
  have T4 := hid (T3.out.keep hb3)
  have B3 := hid (below_to B2.out hb3)
  clear hb3 T3 B2
  go_wp2_with fail
  refine (alive_any _ T4.out).mono ?_
  rintro e w4 ⟨rfl, hb4⟩
  go_wp2_with fail
  go_ret
  exact ⟨rfl, below_to B3.out hb4⟩

end Go.Proofs.YtjfjbanoikbnoaaDoor
