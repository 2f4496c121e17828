/- The walks of the laws on the key schedule. The walk of the law KeysMaster. The walk of the law KeysHang. A struct of secrets that came in. -/
import Derived.Test.YtejkimhmpnogkaaDoorKyA
import Derived.Test.YtejkimhmpnogkaaDoorSumR3
import Derived.SizedLaws
namespace Go.Proofs.YtejkimhmpnogkaaDoor
open Go Go.RowKit

set_option maxHeartbeats 1000000 in
theorem ksmall_any (ss : List ByteArray) (a : Option Addr) (cap : Nat) (W : World) (hm : ss.length ≤ 9223372036854775807) (hsz : ∀ j, j < ss.length → (ss.getD j ByteArray.empty).size ≤ 140737488351232)
    (ha : ss.length = 0 ∨ ∃ b off, a = some ⟨b, off, none⟩ ∧ ∀ j, j < ss.length → W.cell? ⟨b, off + j, none⟩ = some (.string (ss.getD j ByteArray.empty))) :
    Calls Tryd.prog 30 #[.slice a ss.length cap] W fun e w' => e = .returned (.bool (decide (lsum ss ≤ 2048))) ∧ W = w' := by
  have HA := hid ha
  have HZ := hid hsz
  clear ha hsz
  obtain ⟨len, hlen⟩ : ∃ len, ss.length = len := ⟨_, rfl⟩
  rw [hlen] at hm HA HZ ⊢
  have HL := hid hlen
  clear hlen
  go_enter Tryd.func30, Tryd.ntmps30
  go_wp2_with fail
  go_loop [3, 4] (fun n i => ∃ k : Nat, k ≤ len ∧ i = .int .i64 (k : Int) ∧ n = .int .i64 ((lsum (ss.take k) : Nat) : Int) ∧ lsum (ss.take k) ≤ 140737488355000) (fun _ i => (len - intOf i).toNat)
  case atStart => exact ⟨0, Nat.zero_le _, rfl, rfl, by simp [lsum]⟩
  case round =>
    obtain ⟨k, hk, rfl, rfl, hn⟩ := hrel
    have hle := lsum_le ss k
    by_cases hlt : k < len
    · have hd : decide ((k : Int) < (len : Int)) = true := decide_eq_true (by omega)
      have hst := lsum_take ss k (by rw [HL.out]; exact hlt)
      by_cases hn2 : lsum (ss.take k) ≤ 2048
      · have hd2 : decide (((lsum (ss.take k) : Nat) : Int) ≤ 2048) = true := decide_eq_true (by omega)
        obtain ⟨b, off, rfl, hc⟩ := HA.out.resolve_left (by omega)
        have ck := hc k hlt
        have hsk := HZ.out k hlt
        have hk0 : 0 ≤ (k : Int) := by omega
        have hk1 : (k : Int) < (len : Int) := by omega
        generalize ss.getD k ByteArray.empty = sk at *
        generalize lsum (ss.take k) = n at *
        have HST := hid hst
        clear hst hc hle
        go_wp2_with fail
        go_round
        case rel => exact ⟨k + 1, by omega, by go_num, by rw [HST.out]; go_num, by rw [HST.out]; omega⟩
        case measure => simp [intOf]; omega
      · have hd2 : decide (((lsum (ss.take k) : Nat) : Int) ≤ 2048) = false := decide_eq_false (by omega)
        have hfin : decide (lsum ss ≤ 2048) = false := decide_eq_false (by omega)
        have HF := hid hfin
        clear hst hle hfin
        generalize lsum (ss.take k) = n at *
        go_wp2_with fail
        go_ret
        exact ⟨by rw [HF.out]; rfl, rfl⟩
    · have hd : decide ((k : Int) < (len : Int)) = false := decide_eq_false (by omega)
      have hkl : k = len := by omega
      have hta : ss.take k = ss := by rw [hkl, ← HL.out, List.take_length]
      rw [hta]
      by_cases hn2 : lsum ss ≤ 2048
      · have hd2 : decide (((lsum ss : Nat) : Int) ≤ 2048) = true := decide_eq_true (by omega)
        have hfin : decide (lsum ss ≤ 2048) = true := decide_eq_true hn2
        clear hle hta hn
        obtain ⟨n, hn⟩ : ∃ n, lsum ss = n := ⟨_, rfl⟩
        rw [hn] at hn2 hd2 hfin ⊢
        have HN := hid hn
        have HF := hid hfin
        clear hn hfin
        go_wp2_with fail
        go_ret
        exact ⟨by rw [HN.out, HF.out]; rfl, rfl⟩
      · have hd2 : decide (((lsum ss : Nat) : Int) ≤ 2048) = false := decide_eq_false (by omega)
        have hfin : decide (lsum ss ≤ 2048) = false := decide_eq_false hn2
        clear hle hta hn
        obtain ⟨n, hn⟩ : ∃ n, lsum ss = n := ⟨_, rfl⟩
        rw [hn] at hn2 hd2 hfin ⊢
        have HN := hid hn
        have HF := hid hfin
        clear hn hfin
        go_wp2_with fail
        go_ret
        exact ⟨by rw [HN.out, HF.out]; rfl, rfl⟩

theorem lsum_cons (s : ByteArray) (ss : List ByteArray) : lsum (s :: ss) = s.size + lsum ss := by simp [lsum]
theorem lsum_nil : lsum [] = 0 := rfl
theorem strs_cells {w : World} {b : Nat} {ss : List ByteArray} {T : TypeId} (h : w.heap[b]? = some (.cells (ss.map Value.string).toArray T (0, 0))) (j : Nat) (hj : j < ss.length) : w.cell? ⟨b, 0 + j, none⟩ = some (.string (ss.getD j ByteArray.empty)) := by
  rw [Nat.zero_add, cell_at h]
  simp [hj]
/-- small of texts that were just laid. -/
theorem ksmall_new (ss : List ByteArray) (W : World) (h9 : ss.length ≤ 9223372036854775807) (hz : ∀ s ∈ ss, s.size ≤ 140737488351232) :
    Calls Tryd.prog 30 #[.slice (some ⟨W.heap.size, 0, none⟩) ss.length ss.length] (W.alloc (.cells (ss.map Value.string).toArray 9)) fun e w' => e = .returned (.bool (decide (lsum ss ≤ 2048))) ∧ W.alloc (.cells (ss.map Value.string).toArray 9) = w' :=
  ksmall_any ss _ _ _ h9 (fun j hj => by
    rw [List.getD_eq_getElem?_getD, List.getElem?_eq_getElem hj]
    exact hz _ (List.getElem_mem hj)) (.inr ⟨_, 0, rfl, fun j hj => strs_cells (alloc_at W _) j hj⟩)

theorem HSv_shape (sh hl : ByteArray) : ∃ a b c d e f g, HSv sh hl = sec a b c d e f g := by
  unfold HSv
  split <;> exact ⟨_, _, _, _, _, _, _, rfl⟩
theorem MSv_shape (a b d e fin : ByteArray) : ∃ a' b' c' d' e' f' g', MSv a b d e fin = sec a' b' c' d' e' f' g' := by
  unfold MSv
  split <;> exact ⟨_, _, _, _, _, _, _, rfl⟩

set_option maxHeartbeats 2000000 in
theorem khs_any (sh hl fin : ByteArray) (W : World) (hT : Tab W) (h1 : sh.size ≤ 140737488351232) (h2 : hl.size ≤ 140737488351232) (h3 : fin.size ≤ 140737488351232) : Calls Tryd.prog 10 #[.string sh, .string hl, .string fin] W fun e w' => e = .returned (.bool true) ∧ Below W.heap.size W w' := by
  have HT := hid hT
  have hsm : Calls Tryd.prog 30 #[.slice (some ⟨W.heap.size, 0, none⟩) 3 3] (W.alloc (.cells #[.string sh, .string hl, .string fin] 9)) fun e w' => _ := ksmall_new [sh, hl, fin] W (by simp) (fun s hs => by
    simp at hs
    rcases hs with rfl | rfl | rfl <;> assumption)
  have B0 : Hid (Below W.heap.size W (W.alloc (.cells #[.string sh, .string hl, .string fin] 9))) := hid (below_new _)
  change Calls Tryd.prog 30 #[.slice (some ⟨W.heap.size, 0, none⟩) 3 3] (W.alloc (.cells #[.string sh, .string hl, .string fin] 9)) fun e w' => e = .returned (.bool (decide (lsum [sh, hl, fin] ≤ 2048))) ∧ W.alloc (.cells #[.string sh, .string hl, .string fin] 9) = w' at hsm
  have T0 := hid (HT.out.keep B0.out)
  clear hT
  cases hd : decide (lsum [sh, hl, fin] ≤ 2048)
  · rw [hd] at hsm
    have HSM := hid hsm
    clear hsm
    go_enter Tryd.func10, Tryd.ntmps10
    go_wp2_with fail
    refine HSM.out.mono ?_
    rintro e w' ⟨rfl, rfl⟩
    go_wp2_with fail
    refine (kalive_any _ T0.out).mono ?_
    rintro e w4 ⟨rfl, hb4⟩
    go_wp2_with fail
    go_ret
    exact ⟨rfl, below_to B0.out hb4⟩
  · rw [hd] at hsm
    have HSM := hid hsm
    clear hsm
    go_enter Tryd.func10, Tryd.ntmps10
    go_wp2_with fail
    refine HSM.out.mono ?_
    rintro e w' ⟨rfl, rfl⟩
    generalize W.alloc (.cells #[.string sh, .string hl, .string fin] 9) = w0 at *
    obtain ⟨x0, x1, x2, x3, x4, x5, x6, hx⟩ := HSv_shape sh hl
    have f1 := fun w T => handshake_any sh hl w T
    have f2 := fun w => RHandshake_any sh hl w
    rw [hx] at f1 f2
    generalize HSe sh hl = E at *
    have F1 := hid f1
    have F2 := hid f2
    obtain ⟨y0, y1, y2, y3, y4, y5, y6, hy⟩ := MSv_shape x0 x1 x3 x4 fin
    have f3 := fun w T => master_any x0 x1 x2 x3 x4 x5 x6 fin w T
    have f4 := fun w => Rmaster_any x0 x1 x2 x3 x4 x5 x6 fin w
    rw [hy] at f3 f4
    generalize MSe x1 fin = F at *
    have F3 := hid f3
    have F4 := hid f4
    clear f1 f2 f3 f4 hx hy hd HSM
    unfold sec at F1 F2 F3 F4
    go_wp2_with fail
    refine (F1.out _ T0.out).mono ?_
    rintro e w1 ⟨rfl, hb1⟩
    have B1 := hid (below_to B0.out hb1)
    clear hb1 B0 T0
    go_wp2_with fail
    obtain ⟨n1, hnn1⟩ : ∃ n, w1.heap.size = n := ⟨_, rfl⟩
    have gn1 : S7 (w1.alloc (.cells #[.string x0, .string x1, .string x2, .string x3, .string x4, .string x5, .string x6] 47)) w1.heap.size _ _ _ _ _ _ _ := ⟨alloc_at w1 _⟩
    have B2 := hid (below_to B1.out (below_new (w := w1) (.cells #[.string x0, .string x1, .string x2, .string x3, .string x4, .string x5, .string x6] 47)))
    generalize w1.alloc (.cells #[.string x0, .string x1, .string x2, .string x3, .string x4, .string x5, .string x6] 47) = w2 at *
    rw [hnn1] at gn1 ⊢
    have T2 := hid (HT.out.keep B2.out)
    have Gn1 := hid gn1
    clear hnn1 B1 gn1
    refine (F2.out _).mono ?_
    rintro e w3 ⟨rfl, hb3⟩
    have B3 := hid (below_to B2.out hb3)
    have Gn1 := hid (Gn1.out.keep hb3)
    clear hb3 B2 T2
    go_upto_region 5 with (fail)
    have An1 := Gn1.out.keep (below_new (w := w3) (.cells #[.string x0, .string x1, .string x2, .string x3, .string x4, .string x5, .string x6] 47))
    obtain ⟨n2, hnn2⟩ : ∃ n, w3.heap.size = n := ⟨_, rfl⟩
    have gn2 : S7 (w3.alloc (.cells #[.string x0, .string x1, .string x2, .string x3, .string x4, .string x5, .string x6] 47)) w3.heap.size _ _ _ _ _ _ _ := ⟨alloc_at w3 _⟩
    have B4 := hid (below_to B3.out (below_new (w := w3) (.cells #[.string x0, .string x1, .string x2, .string x3, .string x4, .string x5, .string x6] 47)))
    generalize w3.alloc (.cells #[.string x0, .string x1, .string x2, .string x3, .string x4, .string x5, .string x6] 47) = w4 at *
    rw [hnn2] at gn2 ⊢
    have T4 := hid (HT.out.keep B4.out)
    have Gn2 := hid gn2
    clear hnn2 B3 gn2
    obtain ⟨c0, c1, c2, c3, c4, c5, c6⟩ := An1.cells
    obtain ⟨d0, d1, d2, d3, d4, d5, d6⟩ := Gn2.out.cells
    clear Gn1 An1
    go_wp2_with fail
    clear c0 c1 c2 c3 c4 c5 c6 d0 d1 d2 d3 d4 d5 d6
    refine (early_any w4 T4.out).mono ?_
    rintro e w5 ⟨rfl, hb5⟩
    have B5 := hid (below_to B4.out hb5)
    have G5 := hid (Gn2.out.keep hb5)
    clear hb5 B4 T4 Gn2
    go_wp2_with fail
    refine (REarly_any w5).mono ?_
    rintro e w6 ⟨rfl, hb6⟩
    have B6 := hid (below_to B5.out hb6)
    have G6 := hid (G5.out.keep hb6)
    have T6 := hid (HT.out.keep B6.out)
    clear hb6 B5 G5
    obtain ⟨d0, d1, d2, d3, d4, d5, d6⟩ := G6.out.cells
    go_wp2_with fail
    clear d0 d1 d2 d3 d4 d5 d6
    refine (F3.out _ T6.out).mono ?_
    rintro e w7 ⟨rfl, hb7⟩
    have B7 := hid (below_to B6.out hb7)
    have G7 := hid (G6.out.keep hb7)
    clear hb7 B6 T6 G6
    go_upto_region 8 with (fail)
    have A8 := G7.out.keep (below_new (w := w7) (.cells #[.string y0, .string y1, .string y2, .string y3, .string y4, .string y5, .string y6] 47))
    obtain ⟨n3, hnn3⟩ : ∃ n, w7.heap.size = n := ⟨_, rfl⟩
    have gn3 : S7 (w7.alloc (.cells #[.string y0, .string y1, .string y2, .string y3, .string y4, .string y5, .string y6] 47)) w7.heap.size _ _ _ _ _ _ _ := ⟨alloc_at w7 _⟩
    have B8 := hid (below_to B7.out (below_new (w := w7) (.cells #[.string y0, .string y1, .string y2, .string y3, .string y4, .string y5, .string y6] 47)))
    generalize w7.alloc (.cells #[.string y0, .string y1, .string y2, .string y3, .string y4, .string y5, .string y6] 47) = w8 at *
    rw [hnn3] at gn3 ⊢
    have T8 := hid (HT.out.keep B8.out)
    have Gn3 := hid gn3
    clear hnn3 B7 gn3
    obtain ⟨d0, d1, d2, d3, d4, d5, d6⟩ := A8.cells
    go_wp2_with fail
    clear d0 d1 d2 d3 d4 d5 d6 A8 G7
    refine (F4.out _).mono ?_
    rintro e w9 ⟨rfl, hb9⟩
    have B9 := hid (below_to B8.out hb9)
    have G9 := hid (Gn3.out.keep hb9)
    clear hb9 B8 T8 Gn3
    go_upto_region 9 with (fail)
    have A10 := G9.out.keep (below_new (w := w9) (.cells #[.string y0, .string y1, .string y2, .string y3, .string y4, .string y5, .string y6] 47))
    obtain ⟨n4, hnn4⟩ : ∃ n, w9.heap.size = n := ⟨_, rfl⟩
    have gn4 : S7 (w9.alloc (.cells #[.string y0, .string y1, .string y2, .string y3, .string y4, .string y5, .string y6] 47)) w9.heap.size _ _ _ _ _ _ _ := ⟨alloc_at w9 _⟩
    have B10 := hid (below_to B9.out (below_new (w := w9) (.cells #[.string y0, .string y1, .string y2, .string y3, .string y4, .string y5, .string y6] 47)))
    generalize w9.alloc (.cells #[.string y0, .string y1, .string y2, .string y3, .string y4, .string y5, .string y6] 47) = w10 at *
    rw [hnn4] at gn4 ⊢
    have T10 := hid (HT.out.keep B10.out)
    have Gn4 := hid gn4
    clear hnn4 B9 gn4
    obtain ⟨c0, c1, c2, c3, c4, c5, c6⟩ := A10.cells
    obtain ⟨d0, d1, d2, d3, d4, d5, d6⟩ := Gn4.out.cells
    clear A10 G9
    go_wp2_with fail
    refine (kalive_any _ T10.out).mono ?_
    rintro e w11 ⟨rfl, hb11⟩
    go_wp2_with fail
    go_ret
    exact ⟨rfl, below_to B10.out hb11⟩

end Go.Proofs.YtejkimhmpnogkaaDoor

namespace Go.Proofs.YtejkimhmpnogkaaDoor
open Go Go.RowKit

set_option maxHeartbeats 2000000 in
theorem kms_any (a b c d e' f g fin : ByteArray) (W : World) (hT : Tab W) (hz : ∀ s ∈ [a, b, c, d, e', f, g, fin], s.size ≤ 140737488351232) : Calls Tryd.prog 11 #[.agg (sec a b c d e' f g), .string fin] W fun er w' => er = .returned (.bool true) ∧ Below W.heap.size W w' := by
  have HT := hid hT
  obtain ⟨wS, hwS⟩ : ∃ wS, W.alloc (.cells (sec a b c d e' f g) 47) = wS := ⟨_, rfl⟩
  have gS : S7 wS W.heap.size a b c d e' f g := ⟨by rw [← hwS]; exact alloc_at W _⟩
  have BS : Hid (Below W.heap.size W wS) := by rw [← hwS]; exact hid (below_new _)
  have hsm := ksmall_new [a, b, c, d, e', f, g, fin] wS (by simp) hz
  have B0 := hid (below_to BS.out (below_new (w := wS) (.cells #[.string a, .string b, .string c, .string d, .string e', .string f, .string g, .string fin] 9)))
  have gS0 := gS.keep (below_new (w := wS) (.cells #[.string a, .string b, .string c, .string d, .string e', .string f, .string g, .string fin] 9))
  obtain ⟨w0, hw0⟩ : ∃ w0, wS.alloc (.cells #[.string a, .string b, .string c, .string d, .string e', .string f, .string g, .string fin] 9) = w0 := ⟨_, rfl⟩
  change Calls Tryd.prog 30 #[.slice (some ⟨wS.heap.size, 0, none⟩) 8 8] (wS.alloc (.cells #[.string a, .string b, .string c, .string d, .string e', .string f, .string g, .string fin] 9)) fun e w' => e = .returned (.bool (decide (lsum [a, b, c, d, e', f, g, fin] ≤ 2048))) ∧ wS.alloc (.cells #[.string a, .string b, .string c, .string d, .string e', .string f, .string g, .string fin] 9) = w' at hsm
  rw [hw0] at hsm B0 gS0
  have T0 := hid (HT.out.keep B0.out)
  obtain ⟨n, hn⟩ : ∃ n, W.heap.size = n := ⟨_, rfl⟩
  rw [hn] at gS gS0
  obtain ⟨c0, c1, c2, c3, c4, c5, c6⟩ := gS.cells
  have GS := hid gS0
  clear hT gS gS0 hz
  unfold sec at hwS
  cases hd : decide (lsum [a, b, c, d, e', f, g, fin] ≤ 2048)
  · rw [hd] at hsm
    have HSM := hid hsm
    clear hsm
    unfold sec
    go_enter Tryd.func11, Tryd.ntmps11
    go_wp2_with fail
    refine HSM.out.mono ?_
    rintro e w' ⟨rfl, rfl⟩
    go_wp2_with fail
    refine (kalive_any _ T0.out).mono ?_
    rintro e w4 ⟨rfl, hb4⟩
    go_wp2_with fail
    go_ret
    exact ⟨rfl, below_to B0.out hb4⟩
  · rw [hd] at hsm
    have HSM := hid hsm
    clear hsm
    obtain ⟨y0, y1, y2, y3, y4, y5, y6, hy⟩ := MSv_shape a b d e' fin
    have f3 := fun w T => master_any a b c d e' f g fin w T
    have f4 := fun w => Rmaster_any a b c d e' f g fin w
    rw [hy] at f3 f4
    generalize MSe b fin = F at *
    have F3 := hid f3
    have F4 := hid f4
    clear f3 f4 hy
    unfold sec at F3 F4 ⊢
    go_enter Tryd.func11, Tryd.ntmps11
    go_wp2_with fail
    refine HSM.out.mono ?_
    rintro e w' ⟨rfl, rfl⟩
    clear hw0 hwS c0 c1 c2 c3 c4 c5 c6 HSM
    obtain ⟨c0, c1, c2, c3, c4, c5, c6⟩ := GS.out.cells
    go_wp2_with fail
    clear c0 c1 c2 c3 c4 c5 c6
    refine (F3.out _ T0.out).mono ?_
    rintro e w7 ⟨rfl, hb7⟩
    have B7 := hid (below_to B0.out hb7)
    have G7 := hid (GS.out.keep hb7)
    clear hb7 B0 T0 GS
    go_upto_region 4 with (fail)
    have A8 := G7.out.keep (below_new (w := w7) (.cells #[.string y0, .string y1, .string y2, .string y3, .string y4, .string y5, .string y6] 47))
    obtain ⟨n3, hnn3⟩ : ∃ n, w7.heap.size = n := ⟨_, rfl⟩
    have gn3 : S7 (w7.alloc (.cells #[.string y0, .string y1, .string y2, .string y3, .string y4, .string y5, .string y6] 47)) w7.heap.size _ _ _ _ _ _ _ := ⟨alloc_at w7 _⟩
    have B8 := hid (below_to B7.out (below_new (w := w7) (.cells #[.string y0, .string y1, .string y2, .string y3, .string y4, .string y5, .string y6] 47)))
    generalize w7.alloc (.cells #[.string y0, .string y1, .string y2, .string y3, .string y4, .string y5, .string y6] 47) = w8 at *
    rw [hnn3] at gn3 ⊢
    have T8 := hid (HT.out.keep B8.out)
    have Gn3 := hid gn3
    clear hnn3 B7 gn3
    obtain ⟨d0, d1, d2, d3, d4, d5, d6⟩ := A8.cells
    go_wp2_with fail
    clear d0 d1 d2 d3 d4 d5 d6 A8 G7
    refine (F4.out _).mono ?_
    rintro e w9 ⟨rfl, hb9⟩
    have B9 := hid (below_to B8.out hb9)
    have G9 := hid (Gn3.out.keep hb9)
    clear hb9 B8 T8 Gn3
    go_upto_region 5 with (fail)
    have A10 := G9.out.keep (below_new (w := w9) (.cells #[.string y0, .string y1, .string y2, .string y3, .string y4, .string y5, .string y6] 47))
    obtain ⟨n4, hnn4⟩ : ∃ n, w9.heap.size = n := ⟨_, rfl⟩
    have gn4 : S7 (w9.alloc (.cells #[.string y0, .string y1, .string y2, .string y3, .string y4, .string y5, .string y6] 47)) w9.heap.size _ _ _ _ _ _ _ := ⟨alloc_at w9 _⟩
    have B10 := hid (below_to B9.out (below_new (w := w9) (.cells #[.string y0, .string y1, .string y2, .string y3, .string y4, .string y5, .string y6] 47)))
    generalize w9.alloc (.cells #[.string y0, .string y1, .string y2, .string y3, .string y4, .string y5, .string y6] 47) = w10 at *
    rw [hnn4] at gn4 ⊢
    have T10 := hid (HT.out.keep B10.out)
    have Gn4 := hid gn4
    clear hnn4 B9 gn4
    obtain ⟨c0, c1, c2, c3, c4, c5, c6⟩ := A10.cells
    obtain ⟨d0, d1, d2, d3, d4, d5, d6⟩ := Gn4.out.cells
    clear A10 G9
    go_wp2_with fail
    refine (kalive_any _ T10.out).mono ?_
    rintro e w11 ⟨rfl, hb11⟩
    go_wp2_with fail
    go_ret
    exact ⟨rfl, below_to B10.out hb11⟩

end Go.Proofs.YtejkimhmpnogkaaDoor

namespace Go.Proofs.YtejkimhmpnogkaaDoor
open Go Go.RowKit

set_option maxHeartbeats 2000000 in
theorem khg_far (sh hl fin ot : ByteArray) (W : World) (hT : Tab W) (h1 : sh.size ≤ 140737488351232) (h2 : hl.size ≤ 140737488351232) (h3 : fin.size ≤ 140737488351232) (h4 : ot.size ≤ 140737488351232) (hd : decide (lsum [sh, hl, fin, ot] ≤ 2048) = false) : Calls Tryd.prog 12 #[.string sh, .string hl, .string fin, .string ot] W fun er w' => er = .returned (.bool true) ∧ Below W.heap.size W w' := by
  have HT := hid hT
  have hsm := ksmall_new [sh, hl, fin, ot] W (by simp) (fun s hs => by
    simp at hs
    rcases hs with rfl | rfl | rfl | rfl <;> assumption)
  have B0 := hid (below_new (w := W) (.cells #[.string sh, .string hl, .string fin, .string ot] 9))
  change Calls Tryd.prog 30 #[.slice (some ⟨W.heap.size, 0, none⟩) 4 4] (W.alloc (.cells #[.string sh, .string hl, .string fin, .string ot] 9)) fun e w' => e = .returned (.bool (decide (lsum [sh, hl, fin, ot] ≤ 2048))) ∧ W.alloc (.cells #[.string sh, .string hl, .string fin, .string ot] 9) = w' at hsm
  have T0 := hid (HT.out.keep B0.out)
  clear hT
  rw [hd] at hsm
  have HSM := hid hsm
  clear hsm
  go_enter Tryd.func12, Tryd.ntmps12
  go_wp2_with fail
  refine HSM.out.mono ?_
  rintro e w' ⟨rfl, rfl⟩
  go_wp2_with fail
  refine (kalive_any _ T0.out).mono ?_
  rintro e w11 ⟨rfl, hb11⟩
  go_wp2_with fail
  go_ret
  exact ⟨rfl, below_to B0.out hb11⟩

set_option maxHeartbeats 2000000 in
theorem khg_no (sh hl fin ot : ByteArray) (W : World) (hT : Tab W) (h1 : sh.size ≤ 140737488351232) (h2 : hl.size ≤ 140737488351232) (h3 : fin.size ≤ 140737488351232) (h4 : ot.size ≤ 140737488351232) (hd : decide (lsum [sh, hl, fin, ot] ≤ 2048) = true) (hc : ¬ (sh.size = 32 ∧ hl.size = 32)) : Calls Tryd.prog 12 #[.string sh, .string hl, .string fin, .string ot] W fun er w' => er = .returned (.bool true) ∧ Below W.heap.size W w' := by
  have HT := hid hT
  have hsm := ksmall_new [sh, hl, fin, ot] W (by simp) (fun s hs => by
    simp at hs
    rcases hs with rfl | rfl | rfl | rfl <;> assumption)
  have B0 := hid (below_new (w := W) (.cells #[.string sh, .string hl, .string fin, .string ot] 9))
  change Calls Tryd.prog 30 #[.slice (some ⟨W.heap.size, 0, none⟩) 4 4] (W.alloc (.cells #[.string sh, .string hl, .string fin, .string ot] 9)) fun e w' => e = .returned (.bool (decide (lsum [sh, hl, fin, ot] ≤ 2048))) ∧ W.alloc (.cells #[.string sh, .string hl, .string fin, .string ot] 9) = w' at hsm
  have T0 := hid (HT.out.keep B0.out)
  clear hT
  have f1 := handshake_any sh hl _ T0.out
  rw [show HSv sh hl = sec hs0 hs0 hs0 hs0 hs0 hs0 hs0 by unfold HSv; rw [if_neg hc], show HSe sh hl = 2 by unfold HSe; rw [if_neg hc]] at f1
  have F1 := hid f1
  clear f1
  unfold sec at F1
  rw [hd] at hsm
  have HSM := hid hsm
  clear hsm
  go_enter Tryd.func12, Tryd.ntmps12
  go_wp2_with fail
  refine HSM.out.mono ?_
  rintro e w' ⟨rfl, rfl⟩
  go_wp2_with fail
  refine F1.out.mono ?_
  rintro e w1 ⟨rfl, hb1⟩
  have B1 := hid (below_to B0.out hb1)
  clear hb1 B0 T0 HSM F1
  go_upto_region 5 with (fail)
  obtain ⟨n1, hnn1⟩ : ∃ n, w1.heap.size = n := ⟨_, rfl⟩
  have gn1 : S7 (w1.alloc (.cells #[.string hs0, .string hs0, .string hs0, .string hs0, .string hs0, .string hs0, .string hs0] 47)) w1.heap.size _ _ _ _ _ _ _ := ⟨alloc_at w1 _⟩
  have B2 := hid (below_to B1.out (below_new (w := w1) (.cells #[.string hs0, .string hs0, .string hs0, .string hs0, .string hs0, .string hs0, .string hs0] 47)))
  generalize w1.alloc (.cells #[.string hs0, .string hs0, .string hs0, .string hs0, .string hs0, .string hs0, .string hs0] 47) = w2 at *
  rw [hnn1] at gn1 ⊢
  have T2 := hid (HT.out.keep B2.out)
  have Gn1 := hid gn1
  have en1 := hid hnn1
  clear hnn1 B1 gn1
  obtain ⟨c0, c1, c2, c3, c4, c5, c6⟩ := Gn1.out.cells
  have T2 := hid (HT.out.keep B2.out)
  have hz0 : hs0.toList = [] := by decide +kernel
  by_cases q1 : sh.size = 32
  · have e1 : (((sh.size : Nat) : Int) == 32) = true := beq_iff_eq.2 (by omega)
    have e2 : (((hl.size : Nat) : Int) == 32) = false := beq_eq_false_iff_ne.2 (by omega)
    go_wp2_with fail
    refine (kalive_any _ T2.out).mono ?_
    rintro e w11 ⟨rfl, hb11⟩
    go_wp2_with fail
    go_ret
    exact ⟨congrArg (fun b => Ending.returned (.bool b)) (show (((hl.size : Nat) : Int) != 32) = true by simp [bne, e2]), below_to B2.out hb11⟩
  · have e1 : (((sh.size : Nat) : Int) == 32) = false := beq_eq_false_iff_ne.2 (by omega)
    go_wp2_with fail
    refine (kalive_any _ T2.out).mono ?_
    rintro e w11 ⟨rfl, hb11⟩
    go_wp2_with fail
    go_ret
    exact ⟨rfl, below_to B2.out hb11⟩

set_option maxHeartbeats 4000000 in
theorem khg_yes_no (sh hl fin ot : ByteArray) (W : World) (hT : Tab W) (h1 : sh.size ≤ 140737488351232) (h2 : hl.size ≤ 140737488351232) (h3 : fin.size ≤ 140737488351232) (h4 : ot.size ≤ 140737488351232) (hd : decide (lsum [sh, hl, fin, ot] ≤ 2048) = true) (hc : sh.size = 32 ∧ hl.size = 32) (hf : ¬ fin.size = 32) : Calls Tryd.prog 12 #[.string sh, .string hl, .string fin, .string ot] W fun er w' => er = .returned (.bool true) ∧ Below W.heap.size W w' := by
  have HT := hid hT
  have hsm := ksmall_new [sh, hl, fin, ot] W (by simp) (fun s hs => by
    simp at hs
    rcases hs with rfl | rfl | rfl | rfl <;> assumption)
  have B0 := hid (below_new (w := W) (.cells #[.string sh, .string hl, .string fin, .string ot] 9))
  change Calls Tryd.prog 30 #[.slice (some ⟨W.heap.size, 0, none⟩) 4 4] (W.alloc (.cells #[.string sh, .string hl, .string fin, .string ot] 9)) fun e w' => e = .returned (.bool (decide (lsum [sh, hl, fin, ot] ≤ 2048))) ∧ W.alloc (.cells #[.string sh, .string hl, .string fin, .string ot] 9) = w' at hsm
  have T0 := hid (HT.out.keep B0.out)
  clear hT
  have f1 := fun w T => handshake_any sh hl w T
  rw [show HSv sh hl = sec EY (beh EY sh) hs0 (lab (beh EY sh) tc hl 32) (lab (beh EY sh) ts hl 32) hs0 hs0 by unfold HSv; rw [if_pos hc], show HSe sh hl = 0 by unfold HSe; rw [if_pos hc]] at f1
  obtain ⟨x0, hx0⟩ : ∃ x, EY = x := ⟨_, rfl⟩
  obtain ⟨x1, hx1⟩ : ∃ x, beh EY sh = x := ⟨_, rfl⟩
  have hx1s : x1.size = 32 := by rw [← hx1]; exact beh_size EY sh
  obtain ⟨x3, hx3⟩ : ∃ x, lab (beh EY sh) tc hl 32 = x := ⟨_, rfl⟩
  obtain ⟨x4, hx4⟩ : ∃ x, lab (beh EY sh) ts hl 32 = x := ⟨_, rfl⟩
  rw [hx3, hx4, hx1, hx0] at f1
  clear hx0 hx1 hx3 hx4
  have f3 := fun w T => master_any x0 x1 hs0 x3 x4 hs0 hs0 fin w T
  have f4 := fun w T => master_any ot x1 hs0 ot ot hs0 hs0 fin w T
  have q : ¬ (x1.size = 32 ∧ fin.size = 32) := fun h => hf h.2
  rw [show MSv x0 x1 x3 x4 fin = sec hs0 hs0 hs0 hs0 hs0 hs0 hs0 by unfold MSv; rw [if_neg q], show MSe x1 fin = 2 by unfold MSe; rw [if_neg q]] at f3
  rw [show MSv ot x1 ot ot fin = sec hs0 hs0 hs0 hs0 hs0 hs0 hs0 by unfold MSv; rw [if_neg q], show MSe x1 fin = 2 by unfold MSe; rw [if_neg q]] at f4
  have q9 : (((fin.size : Nat) : Int) == 32) = false := beq_eq_false_iff_ne.2 (by omega)
  clear q
  have F1 := hid f1
  have F3 := hid f3
  have F4 := hid f4
  clear f1 f3 f4 hx1s hc
  unfold sec at F1 F3 F4
  rw [hd] at hsm
  have HSM := hid hsm
  clear hsm
  go_enter Tryd.func12, Tryd.ntmps12
  go_wp2_with fail
  refine HSM.out.mono ?_
  rintro e w' ⟨rfl, rfl⟩
  generalize W.alloc (.cells #[.string sh, .string hl, .string fin, .string ot] 9) = w0 at *
  go_wp2_with fail
  refine (F1.out _ T0.out).mono ?_
  rintro e w1 ⟨rfl, hb1⟩
  have B1 := hid (below_to B0.out hb1)
  clear hb1 B0 T0 HSM F1
  go_upto_region 6 with (fail)
  obtain ⟨n1, hnn1⟩ : ∃ n, w1.heap.size = n := ⟨_, rfl⟩
  have gn1 : S7 (w1.alloc (.cells #[.string x0, .string x1, .string hs0, .string x3, .string x4, .string hs0, .string hs0] 47)) w1.heap.size _ _ _ _ _ _ _ := ⟨alloc_at w1 _⟩
  have B2 := hid (below_to B1.out (below_new (w := w1) (.cells #[.string x0, .string x1, .string hs0, .string x3, .string x4, .string hs0, .string hs0] 47)))
  generalize w1.alloc (.cells #[.string x0, .string x1, .string hs0, .string x3, .string x4, .string hs0, .string hs0] 47) = w2 at *
  rw [hnn1] at gn1 ⊢
  have T2 := hid (HT.out.keep B2.out)
  have Gn1 := hid gn1
  have en1 := hid hnn1
  clear hnn1 B1 gn1
  have B2s := B2.out.size
  obtain ⟨c0, c1, c2, c3, c4, c5, c6⟩ := Gn1.out.cells
  go_upto_region 7 with (fail)
  clear c0 c1 c2 c3 c4 c5 c6
  have A3 := Gn1.out.keep (below_new (w := w2) (.cells #[.string x0, .string x1, .string hs0, .string x3, .string x4, .string hs0, .string hs0] 47))
  obtain ⟨m2, hm2⟩ : ∃ m, w2.heap.size = m := ⟨_, rfl⟩
  have hne : n1 ≠ m2 := by have := hget_lt Gn1.out.get; omega
  rw [hm2] at B2s
  obtain ⟨n2, hnn2⟩ : ∃ n, w2.heap.size = n := ⟨_, rfl⟩
  have gn2 : S7 (w2.alloc (.cells #[.string x0, .string x1, .string hs0, .string x3, .string x4, .string hs0, .string hs0] 47)) w2.heap.size _ _ _ _ _ _ _ := ⟨alloc_at w2 _⟩
  have B3 := hid (below_to B2.out (below_new (w := w2) (.cells #[.string x0, .string x1, .string hs0, .string x3, .string x4, .string hs0, .string hs0] 47)))
  generalize w2.alloc (.cells #[.string x0, .string x1, .string hs0, .string x3, .string x4, .string hs0, .string hs0] 47) = w3 at *
  rw [hnn2] at gn2 ⊢
  have T3 := hid (HT.out.keep B3.out)
  have Gn2 := hid gn2
  have en2 := hid hnn2
  clear hnn2 B2 gn2
  have hmn : m2 = n2 := hm2.symm.trans en2.out
  rw [hmn] at hne B2s
  clear hm2 en2 hmn
  obtain ⟨w4, hw4⟩ : ∃ w4, ((w3.setCell ⟨n2, 0, none⟩ (.string ot)).setCell ⟨n2, 3, none⟩ (.string ot)).setCell ⟨n2, 4, none⟩ (.string ot) = w4 := ⟨_, rfl⟩
  have G4 : Hid (S7 w4 n2 ot x1 hs0 ot ot hs0 hs0) := by rw [← hw4]; exact hid ⟨hget_setCell (hget_setCell (hget_setCell Gn2.out.get 0 _) 3 _) 4 _⟩
  have A4 : Hid (S7 w4 n1 x0 x1 hs0 x3 x4 hs0 hs0) := by rw [← hw4]; exact hid ⟨hget_setCell_ne (hget_setCell_ne (hget_setCell_ne A3.get hne _) hne _) hne _⟩
  have B4 : Hid (Below W.heap.size W w4) := by rw [← hw4]; exact hid (Below.setCell (Below.setCell (Below.setCell B3.out B2s _) B2s _) B2s _)
  have T4 := hid (HT.out.keep B4.out)
  obtain ⟨c0, c1, c2, c3, c4, c5, c6⟩ := Gn2.out.cells
  obtain ⟨f0, f1, f2, f3, f4, f5, f6⟩ := Gn2.out.free
  obtain ⟨d0, d1, d2, d3, d4, d5, d6⟩ := A4.out.cells
  clear Gn1 Gn2 A3 B3 T3 B2s hne T2
  go_wp2_with fail
  clear hw4 c0 c1 c2 c3 c4 c5 c6 d0 d1 d2 d3 d4 d5 d6 f0 f1 f2 f3 f4 f5 f6
  refine (F3.out _ T4.out).mono ?_
  rintro e w5 ⟨rfl, hb5⟩
  have B5 := hid (below_to B4.out hb5)
  have A5 := hid (A4.out.keep hb5)
  have G5 := hid (G4.out.keep hb5)
  clear hb5 B4 T4 A4 G4
  go_upto_region 11 with (fail)
  have A6 := hid (A5.out.keep (below_new (w := w5) (.cells #[.string hs0, .string hs0, .string hs0, .string hs0, .string hs0, .string hs0, .string hs0] 47)))
  have G6 := hid (G5.out.keep (below_new (w := w5) (.cells #[.string hs0, .string hs0, .string hs0, .string hs0, .string hs0, .string hs0, .string hs0] 47)))
  obtain ⟨n3, hnn3⟩ : ∃ n, w5.heap.size = n := ⟨_, rfl⟩
  have gn3 : S7 (w5.alloc (.cells #[.string hs0, .string hs0, .string hs0, .string hs0, .string hs0, .string hs0, .string hs0] 47)) w5.heap.size _ _ _ _ _ _ _ := ⟨alloc_at w5 _⟩
  have B6 := hid (below_to B5.out (below_new (w := w5) (.cells #[.string hs0, .string hs0, .string hs0, .string hs0, .string hs0, .string hs0, .string hs0] 47)))
  generalize w5.alloc (.cells #[.string hs0, .string hs0, .string hs0, .string hs0, .string hs0, .string hs0, .string hs0] 47) = w6 at *
  rw [hnn3] at gn3 ⊢
  have T6 := hid (HT.out.keep B6.out)
  have Gn3 := hid gn3
  have en3 := hid hnn3
  clear hnn3 B5 gn3
  obtain ⟨c0, c1, c2, c3, c4, c5, c6⟩ := G6.out.cells
  go_wp2_with fail
  clear c0 c1 c2 c3 c4 c5 c6 A5 G5
  refine (F4.out _ T6.out).mono ?_
  rintro e w7 ⟨rfl, hb7⟩
  have B7 := hid (below_to B6.out hb7)
  have A7 := hid (A6.out.keep hb7)
  have H7 := hid (Gn3.out.keep hb7)
  clear hb7 B6 T6 A6 G6 Gn3
  go_upto_region 12 with (fail)
  have A8 := hid (A7.out.keep (below_new (w := w7) (.cells #[.string hs0, .string hs0, .string hs0, .string hs0, .string hs0, .string hs0, .string hs0] 47)))
  have H8 := hid (H7.out.keep (below_new (w := w7) (.cells #[.string hs0, .string hs0, .string hs0, .string hs0, .string hs0, .string hs0, .string hs0] 47)))
  obtain ⟨n4, hnn4⟩ : ∃ n, w7.heap.size = n := ⟨_, rfl⟩
  have gn4 : S7 (w7.alloc (.cells #[.string hs0, .string hs0, .string hs0, .string hs0, .string hs0, .string hs0, .string hs0] 47)) w7.heap.size _ _ _ _ _ _ _ := ⟨alloc_at w7 _⟩
  have B8 := hid (below_to B7.out (below_new (w := w7) (.cells #[.string hs0, .string hs0, .string hs0, .string hs0, .string hs0, .string hs0, .string hs0] 47)))
  generalize w7.alloc (.cells #[.string hs0, .string hs0, .string hs0, .string hs0, .string hs0, .string hs0, .string hs0] 47) = w8 at *
  rw [hnn4] at gn4 ⊢
  have T8 := hid (HT.out.keep B8.out)
  have Gn4 := hid gn4
  have en4 := hid hnn4
  clear hnn4 B7 gn4
  obtain ⟨c0, c1, c2, c3, c4, c5, c6⟩ := A8.out.cells
  obtain ⟨d0, d1, d2, d3, d4, d5, d6⟩ := H8.out.cells
  obtain ⟨f0, f1, f2, f3, f4, f5, f6⟩ := Gn4.out.cells
  clear A7 H7 A8 H8 Gn4
  go_wp2_with fail
  refine (kalive_any _ T8.out).mono ?_
  rintro e w11 ⟨rfl, hb11⟩
  go_wp2_with fail
  go_ret
  exact ⟨congrArg (fun b => Ending.returned (.bool b)) (show (((fin.size : Nat) : Int) != 32) = true by simp [bne, q9]), below_to B8.out hb11⟩

set_option maxHeartbeats 4000000 in
theorem khg_yes_yes (sh hl fin ot : ByteArray) (W : World) (hT : Tab W) (h1 : sh.size ≤ 140737488351232) (h2 : hl.size ≤ 140737488351232) (h3 : fin.size ≤ 140737488351232) (h4 : ot.size ≤ 140737488351232) (hd : decide (lsum [sh, hl, fin, ot] ≤ 2048) = true) (hc : sh.size = 32 ∧ hl.size = 32) (hf : fin.size = 32) : Calls Tryd.prog 12 #[.string sh, .string hl, .string fin, .string ot] W fun er w' => er = .returned (.bool true) ∧ Below W.heap.size W w' := by
  have HT := hid hT
  have hsm := ksmall_new [sh, hl, fin, ot] W (by simp) (fun s hs => by
    simp at hs
    rcases hs with rfl | rfl | rfl | rfl <;> assumption)
  have B0 := hid (below_new (w := W) (.cells #[.string sh, .string hl, .string fin, .string ot] 9))
  change Calls Tryd.prog 30 #[.slice (some ⟨W.heap.size, 0, none⟩) 4 4] (W.alloc (.cells #[.string sh, .string hl, .string fin, .string ot] 9)) fun e w' => e = .returned (.bool (decide (lsum [sh, hl, fin, ot] ≤ 2048))) ∧ W.alloc (.cells #[.string sh, .string hl, .string fin, .string ot] 9) = w' at hsm
  have T0 := hid (HT.out.keep B0.out)
  clear hT
  have f1 := fun w T => handshake_any sh hl w T
  rw [show HSv sh hl = sec EY (beh EY sh) hs0 (lab (beh EY sh) tc hl 32) (lab (beh EY sh) ts hl 32) hs0 hs0 by unfold HSv; rw [if_pos hc], show HSe sh hl = 0 by unfold HSe; rw [if_pos hc]] at f1
  obtain ⟨x0, hx0⟩ : ∃ x, EY = x := ⟨_, rfl⟩
  obtain ⟨x1, hx1⟩ : ∃ x, beh EY sh = x := ⟨_, rfl⟩
  have hx1s : x1.size = 32 := by rw [← hx1]; exact beh_size EY sh
  obtain ⟨x3, hx3⟩ : ∃ x, lab (beh EY sh) tc hl 32 = x := ⟨_, rfl⟩
  obtain ⟨x4, hx4⟩ : ∃ x, lab (beh EY sh) ts hl 32 = x := ⟨_, rfl⟩
  rw [hx3, hx4, hx1, hx0] at f1
  clear hx0 hx1 hx3 hx4
  have f3 := fun w T => master_any x0 x1 hs0 x3 x4 hs0 hs0 fin w T
  have f4 := fun w T => master_any ot x1 hs0 ot ot hs0 hs0 fin w T
  have q : x1.size = 32 ∧ fin.size = 32 := ⟨hx1s, hf⟩
  rw [show MSv x0 x1 x3 x4 fin = sec x0 x1 (beh x1 Z) x3 x4 (lab (beh x1 Z) ta fin 32) (lab (beh x1 Z) tb fin 32) by unfold MSv; rw [if_pos q], show MSe x1 fin = 0 by unfold MSe; rw [if_pos q]] at f3
  rw [show MSv ot x1 ot ot fin = sec ot x1 (beh x1 Z) ot ot (lab (beh x1 Z) ta fin 32) (lab (beh x1 Z) tb fin 32) by unfold MSv; rw [if_pos q], show MSe x1 fin = 0 by unfold MSe; rw [if_pos q]] at f4
  generalize lab (beh x1 Z) ta fin 32 = ya at *
  generalize lab (beh x1 Z) tb fin 32 = yb at *
  generalize beh x1 Z = m at *
  clear q
  have F1 := hid f1
  have F3 := hid f3
  have F4 := hid f4
  clear f1 f3 f4 hx1s hc
  unfold sec at F1 F3 F4
  rw [hd] at hsm
  have HSM := hid hsm
  clear hsm
  go_enter Tryd.func12, Tryd.ntmps12
  go_wp2_with fail
  refine HSM.out.mono ?_
  rintro e w' ⟨rfl, rfl⟩
  generalize W.alloc (.cells #[.string sh, .string hl, .string fin, .string ot] 9) = w0 at *
  go_wp2_with fail
  refine (F1.out _ T0.out).mono ?_
  rintro e w1 ⟨rfl, hb1⟩
  have B1 := hid (below_to B0.out hb1)
  clear hb1 B0 T0 HSM F1
  go_upto_region 6 with (fail)
  obtain ⟨n1, hnn1⟩ : ∃ n, w1.heap.size = n := ⟨_, rfl⟩
  have gn1 : S7 (w1.alloc (.cells #[.string x0, .string x1, .string hs0, .string x3, .string x4, .string hs0, .string hs0] 47)) w1.heap.size _ _ _ _ _ _ _ := ⟨alloc_at w1 _⟩
  have B2 := hid (below_to B1.out (below_new (w := w1) (.cells #[.string x0, .string x1, .string hs0, .string x3, .string x4, .string hs0, .string hs0] 47)))
  generalize w1.alloc (.cells #[.string x0, .string x1, .string hs0, .string x3, .string x4, .string hs0, .string hs0] 47) = w2 at *
  rw [hnn1] at gn1 ⊢
  have T2 := hid (HT.out.keep B2.out)
  have Gn1 := hid gn1
  have en1 := hid hnn1
  clear hnn1 B1 gn1
  have B2s := B2.out.size
  obtain ⟨c0, c1, c2, c3, c4, c5, c6⟩ := Gn1.out.cells
  go_upto_region 7 with (fail)
  clear c0 c1 c2 c3 c4 c5 c6
  have A3 := Gn1.out.keep (below_new (w := w2) (.cells #[.string x0, .string x1, .string hs0, .string x3, .string x4, .string hs0, .string hs0] 47))
  obtain ⟨m2, hm2⟩ : ∃ m, w2.heap.size = m := ⟨_, rfl⟩
  have hne : n1 ≠ m2 := by have := hget_lt Gn1.out.get; omega
  rw [hm2] at B2s
  obtain ⟨n2, hnn2⟩ : ∃ n, w2.heap.size = n := ⟨_, rfl⟩
  have gn2 : S7 (w2.alloc (.cells #[.string x0, .string x1, .string hs0, .string x3, .string x4, .string hs0, .string hs0] 47)) w2.heap.size _ _ _ _ _ _ _ := ⟨alloc_at w2 _⟩
  have B3 := hid (below_to B2.out (below_new (w := w2) (.cells #[.string x0, .string x1, .string hs0, .string x3, .string x4, .string hs0, .string hs0] 47)))
  generalize w2.alloc (.cells #[.string x0, .string x1, .string hs0, .string x3, .string x4, .string hs0, .string hs0] 47) = w3 at *
  rw [hnn2] at gn2 ⊢
  have T3 := hid (HT.out.keep B3.out)
  have Gn2 := hid gn2
  have en2 := hid hnn2
  clear hnn2 B2 gn2
  have hmn : m2 = n2 := hm2.symm.trans en2.out
  rw [hmn] at hne B2s
  clear hm2 en2 hmn
  obtain ⟨w4, hw4⟩ : ∃ w4, ((w3.setCell ⟨n2, 0, none⟩ (.string ot)).setCell ⟨n2, 3, none⟩ (.string ot)).setCell ⟨n2, 4, none⟩ (.string ot) = w4 := ⟨_, rfl⟩
  have G4 : Hid (S7 w4 n2 ot x1 hs0 ot ot hs0 hs0) := by rw [← hw4]; exact hid ⟨hget_setCell (hget_setCell (hget_setCell Gn2.out.get 0 _) 3 _) 4 _⟩
  have A4 : Hid (S7 w4 n1 x0 x1 hs0 x3 x4 hs0 hs0) := by rw [← hw4]; exact hid ⟨hget_setCell_ne (hget_setCell_ne (hget_setCell_ne A3.get hne _) hne _) hne _⟩
  have B4 : Hid (Below W.heap.size W w4) := by rw [← hw4]; exact hid (Below.setCell (Below.setCell (Below.setCell B3.out B2s _) B2s _) B2s _)
  have T4 := hid (HT.out.keep B4.out)
  obtain ⟨c0, c1, c2, c3, c4, c5, c6⟩ := Gn2.out.cells
  obtain ⟨f0, f1, f2, f3, f4, f5, f6⟩ := Gn2.out.free
  obtain ⟨d0, d1, d2, d3, d4, d5, d6⟩ := A4.out.cells
  clear Gn1 Gn2 A3 B3 T3 B2s hne T2
  go_wp2_with fail
  clear hw4 c0 c1 c2 c3 c4 c5 c6 d0 d1 d2 d3 d4 d5 d6 f0 f1 f2 f3 f4 f5 f6
  refine (F3.out _ T4.out).mono ?_
  rintro e w5 ⟨rfl, hb5⟩
  have B5 := hid (below_to B4.out hb5)
  have A5 := hid (A4.out.keep hb5)
  have G5 := hid (G4.out.keep hb5)
  clear hb5 B4 T4 A4 G4
  go_upto_region 11 with (fail)
  have A6 := hid (A5.out.keep (below_new (w := w5) (.cells #[.string x0, .string x1, .string m, .string x3, .string x4, .string ya, .string yb] 47)))
  have G6 := hid (G5.out.keep (below_new (w := w5) (.cells #[.string x0, .string x1, .string m, .string x3, .string x4, .string ya, .string yb] 47)))
  obtain ⟨n3, hnn3⟩ : ∃ n, w5.heap.size = n := ⟨_, rfl⟩
  have gn3 : S7 (w5.alloc (.cells #[.string x0, .string x1, .string m, .string x3, .string x4, .string ya, .string yb] 47)) w5.heap.size _ _ _ _ _ _ _ := ⟨alloc_at w5 _⟩
  have B6 := hid (below_to B5.out (below_new (w := w5) (.cells #[.string x0, .string x1, .string m, .string x3, .string x4, .string ya, .string yb] 47)))
  generalize w5.alloc (.cells #[.string x0, .string x1, .string m, .string x3, .string x4, .string ya, .string yb] 47) = w6 at *
  rw [hnn3] at gn3 ⊢
  have T6 := hid (HT.out.keep B6.out)
  have Gn3 := hid gn3
  have en3 := hid hnn3
  clear hnn3 B5 gn3
  obtain ⟨c0, c1, c2, c3, c4, c5, c6⟩ := G6.out.cells
  go_wp2_with fail
  clear c0 c1 c2 c3 c4 c5 c6 A5 G5
  refine (F4.out _ T6.out).mono ?_
  rintro e w7 ⟨rfl, hb7⟩
  have B7 := hid (below_to B6.out hb7)
  have A7 := hid (A6.out.keep hb7)
  have H7 := hid (Gn3.out.keep hb7)
  clear hb7 B6 T6 A6 G6 Gn3
  go_upto_region 12 with (fail)
  have A8 := hid (A7.out.keep (below_new (w := w7) (.cells #[.string ot, .string x1, .string m, .string ot, .string ot, .string ya, .string yb] 47)))
  have H8 := hid (H7.out.keep (below_new (w := w7) (.cells #[.string ot, .string x1, .string m, .string ot, .string ot, .string ya, .string yb] 47)))
  obtain ⟨n4, hnn4⟩ : ∃ n, w7.heap.size = n := ⟨_, rfl⟩
  have gn4 : S7 (w7.alloc (.cells #[.string ot, .string x1, .string m, .string ot, .string ot, .string ya, .string yb] 47)) w7.heap.size _ _ _ _ _ _ _ := ⟨alloc_at w7 _⟩
  have B8 := hid (below_to B7.out (below_new (w := w7) (.cells #[.string ot, .string x1, .string m, .string ot, .string ot, .string ya, .string yb] 47)))
  generalize w7.alloc (.cells #[.string ot, .string x1, .string m, .string ot, .string ot, .string ya, .string yb] 47) = w8 at *
  rw [hnn4] at gn4 ⊢
  have T8 := hid (HT.out.keep B8.out)
  have Gn4 := hid gn4
  have en4 := hid hnn4
  clear hnn4 B7 gn4
  obtain ⟨c0, c1, c2, c3, c4, c5, c6⟩ := A8.out.cells
  obtain ⟨d0, d1, d2, d3, d4, d5, d6⟩ := H8.out.cells
  obtain ⟨f0, f1, f2, f3, f4, f5, f6⟩ := Gn4.out.cells
  clear A7 H7 A8 H8 Gn4
  go_wp2_with fail
  refine (kalive_any _ T8.out).mono ?_
  rintro e w11 ⟨rfl, hb11⟩
  go_wp2_with fail
  go_ret
  exact ⟨rfl, below_to B8.out hb11⟩

theorem khg_any (sh hl fin ot : ByteArray) (W : World) (hT : Tab W) (h1 : sh.size ≤ 140737488351232) (h2 : hl.size ≤ 140737488351232) (h3 : fin.size ≤ 140737488351232) (h4 : ot.size ≤ 140737488351232) : Calls Tryd.prog 12 #[.string sh, .string hl, .string fin, .string ot] W fun er w' => er = .returned (.bool true) ∧ Below W.heap.size W w' := by
  cases hd : decide (lsum [sh, hl, fin, ot] ≤ 2048)
  · exact khg_far sh hl fin ot W hT h1 h2 h3 h4 hd
  · by_cases hc : sh.size = 32 ∧ hl.size = 32
    · by_cases hf : fin.size = 32
      · exact khg_yes_yes sh hl fin ot W hT h1 h2 h3 h4 hd hc hf
      · exact khg_yes_no sh hl fin ot W hT h1 h2 h3 h4 hd hc hf
    · exact khg_no sh hl fin ot W hT h1 h2 h3 h4 hd hc

end Go.Proofs.YtejkimhmpnogkaaDoor

namespace Go.Proofs.YtejkimhmpnogkaaDoor
open Go Go.RowKit

section
open Go.ChangeShapes Go.WideShapes
variable {H : Type} {enc : TypeId × Value → H} {w : World} {base : Nat} {held : Bool}
/-- A struct of secrets that came in: its texts, and what they weigh. -/
theorem sec_sized {a : Array Value} {d : DataW H} {ps : List MemPlace} (h : DataW.Trod enc Tryd.prog w base (fun _ => true) held 47 (.agg a) d ps) (hz : ∀ n ∈ d.weights Tryd.prog 47, n ≤ reachBytes) :
    ∃ s0 s1 s2 s3 s4 s5 s6 : ByteArray, a = sec s0 s1 s2 s3 s4 s5 s6 ∧ ∀ s ∈ [s0, s1, s2, s3, s4, s5, s6], s.size ≤ 140737488351232 := by
  obtain ⟨fuel, hf⟩ := h
  have hu := Tryd.underlying47
  obtain ⟨xs, n, _, hx, hl, hlen, hel⟩ := DataW.trod_struct hu hf
  have hcs : (Value.agg a).cells.toList = a.toList := rfl
  have c7 : Tryd.prog.cellsOf 47 = 7 := by kernel_rfl
  have c1 : Tryd.prog.cellsOf 9 = 1 := by kernel_rfl
  rw [hcs, c7] at hl
  rw [hcs] at hel
  have hdx := (Prod.mk.inj hx).1
  have key : ∀ (j : Nat) (f : Field), j < 7 → f.type = 9 → f.offset = j → DataW.trod enc Tryd.prog w base (fun _ => true) held n f.type ((a.toList.drop f.offset).take (Tryd.prog.cellsOf f.type)) = xs[j]? → ∃ s : ByteArray, a.toList[j]? = some (.string s) ∧ s.size ≤ 140737488351232 := by
    intro j f hj ht ho h2
    rw [ht, ho, c1] at h2
    have hjx : j < xs.length := by rw [hlen]; exact hj
    rw [List.getElem?_eq_getElem hjx] at h2
    obtain ⟨s, e1, e2, _⟩ := DataW.trod_string Tryd.underlying9 h2
    refine ⟨s, ?_, ?_⟩
    · have h3 : ((a.toList.drop j).take 1)[0]? = some (.string s) := by rw [e1]; rfl
      simpa using h3
    · have := hz s.data.toList.length (by
        rw [hdx]
        simp only [DataW.weights, hu]
        exact DataW.weights_mem_each (j := j) (t := 9) (d := xs[j].1) (by
          match j, hj with
          | 0, _ => rfl
          | 1, _ => rfl
          | 2, _ => rfl
          | 3, _ => rfl
          | 4, _ => rfl
          | 5, _ => rfl
          | 6, _ => rfl) (by rw [List.getElem?_map, List.getElem?_eq_getElem hjx]; rfl) _ (by rw [e2]; simp [DataW.weights]))
      have e : s.data.toList.length = s.size := by simp
      rw [e] at this
      exact this
  obtain ⟨s0, q0, z0⟩ := key 0 _ (by omega) rfl rfl (hel 0 _ rfl)
  obtain ⟨s1, q1, z1⟩ := key 1 _ (by omega) rfl rfl (hel 1 _ rfl)
  obtain ⟨s2, q2, z2⟩ := key 2 _ (by omega) rfl rfl (hel 2 _ rfl)
  obtain ⟨s3, q3, z3⟩ := key 3 _ (by omega) rfl rfl (hel 3 _ rfl)
  obtain ⟨s4, q4, z4⟩ := key 4 _ (by omega) rfl rfl (hel 4 _ rfl)
  obtain ⟨s5, q5, z5⟩ := key 5 _ (by omega) rfl rfl (hel 5 _ rfl)
  obtain ⟨s6, q6, z6⟩ := key 6 _ (by omega) rfl rfl (hel 6 _ rfl)
  refine ⟨s0, s1, s2, s3, s4, s5, s6, ?_, ?_⟩
  · apply Array.ext'
    apply List.ext_getElem?
    intro j
    match j with
    | 0 => exact q0
    | 1 => exact q1
    | 2 => exact q2
    | 3 => exact q3
    | 4 => exact q4
    | 5 => exact q5
    | 6 => exact q6
    | j + 7 => rw [List.getElem?_eq_none (by rw [hl]; omega), List.getElem?_eq_none (by show 7 ≤ j + 7; omega)]
  · intro s hs
    simp at hs
    rcases hs with rfl | rfl | rfl | rfl | rfl | rfl | rfl <;> assumption
end


end Go.Proofs.YtejkimhmpnogkaaDoor
