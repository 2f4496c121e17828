/- The walk of the law ShaPieces. -/
import Derived.Test.YtjfjbanoikbnoaaDoorShaL1
namespace Go.Proofs.YtjfjbanoikbnoaaDoor
open Go.RowKit

def catB (ss : List ByteArray) : ByteArray := ⟨(cat ss).toArray⟩
theorem catB_data (ss : List ByteArray) : (catB ss).data.toList = cat ss := by simp [catB]
theorem catB_size (ss : List ByteArray) : (catB ss).size = (cat ss).length := by
  show (cat ss).toArray.size = _
  simp
theorem catB_succ (ss : List ByteArray) (k : Nat) (h : k < ss.length) : catB (ss.take k) ++ ss.getD k ByteArray.empty = catB (ss.take (k + 1)) := by
  apply ByteArray.ext
  rw [ByteArray.data_append]
  apply Array.ext'
  rw [Array.toList_append, catB_data, catB_data, cat_take_succ ss k h]
theorem catB_zero (ss : List ByteArray) : catB (ss.take 0) = ByteArray.mk #[] := rfl

set_option maxHeartbeats 2000000 in
theorem pieces_any (ss : List ByteArray) (a : Option Addr) (cap : Nat) (W : World) (hT : Tab W) (hm : ss.length ≤ maxLen) (hsz : ∀ j, j < ss.length → (ss.getD j ByteArray.empty).size ≤ maxLen)
    (ha : ss.length = 0 ∨ ∃ b off, a = some ⟨b, off, none⟩ ∧ b < W.heap.size ∧ ∀ j, j < ss.length → W.cell? ⟨b, off + j, none⟩ = some (.string (ss.getD j ByteArray.empty))) :
    Calls Tryd.prog 5 #[.slice a ss.length cap] W fun e w' => e = .returned (.bool true) ∧ Below W.heap.size W w' := by
  have HT := hid hT
  have HA := hid ha
  have HZ := hid hsz
  clear hT ha hsz
  obtain ⟨len, hlen⟩ : ∃ len, ss.length = len := ⟨_, rfl⟩
  rw [hlen] at hm HA HZ ⊢
  have HL := hid hlen
  unfold maxLen at hm
  clear hlen
  go_enter Tryd.func5, Tryd.ntmps5
  go_wp2_with fail
  go_loopw [3, 4] (fun s i wr => ∃ k : Nat, k ≤ len ∧ i = .int .i64 (k : Int) ∧ s = .string (catB (ss.take k)) ∧ (catB (ss.take k)).size ≤ 2600 ∧ Below W.heap.size W wr) (fun _ i _ => (len - intOf i).toNat)
  case atStart => exact ⟨0, Nat.zero_le _, rfl, rfl, Nat.zero_le _, Below.refl _ _⟩
  case round =>
    obtain ⟨k, hk, rfl, rfl, hs, rb⟩ := hrel
    have RB := hid rb
    have T1 := hid (HT.out.keep rb)
    by_cases hlt : k < len
    · have hd : decide ((k : Int) < (len : Int)) = true := decide_eq_true (by omega)
      have hdn : decide (k < len) = true := decide_eq_true hlt
      have hne : ¬ len = 0 := by omega
      obtain ⟨b, off, rfl, hb, hc⟩ := HA.out.resolve_left hne
      have ck := (rb.cell (p := ⟨b, off + k, none⟩) hb).trans (hc k hlt)
      have hsk := HZ.out k hlt
      have hk0 : 0 ≤ (k : Int) := by omega
      have hk1 : (k : Int) < (len : Int) := by omega
      have hsuc := catB_succ ss k (by rw [HL.out]; exact hlt)
      have hsum : (catB (ss.take (k + 1))).size = (catB (ss.take k)).size + (ss.getD k ByteArray.empty).size := by rw [← hsuc, ByteArray.size_append]
      obtain ⟨nx, hnx⟩ : ∃ nx, catB (ss.take (k + 1)) = nx := ⟨_, rfl⟩
      rw [hnx] at hsuc hsum
      have HN := hid hnx
      clear hnx
      generalize ss.getD k ByteArray.empty = sk at *
      generalize catB (ss.take k) = sc at *
      unfold maxLen at hsk
      have HC := hid hc
      have HS := hid hsuc
      have HM := hid hsum
      clear hc hsuc hsum rb
      by_cases h1 : 500 < sk.size
      · have e1 : decide ((sk.size : Int) > 500) = true := decide_eq_true (by omega)
        have e1' : decide (500 < (sk.size : Int)) = true := decide_eq_true (by omega)
        go_wp2_with fail
        refine (alive_any _ T1.out).mono ?_
        rintro e w1 ⟨rfl, hb1⟩
        go_wp2_with fail
        go_ret
        exact ⟨rfl, below_to RB.out hb1⟩
      have e1 : decide ((sk.size : Int) > 500) = false := decide_eq_false (by omega)
      have e1' : decide (500 < (sk.size : Int)) = false := decide_eq_false (by omega)
      by_cases h2 : 2048 < sc.size
      · have e2 : decide ((sc.size : Int) > 2048) = true := decide_eq_true (by omega)
        have e2' : decide (2048 < (sc.size : Int)) = true := decide_eq_true (by omega)
        go_wp2_with fail
        refine (alive_any _ T1.out).mono ?_
        rintro e w1 ⟨rfl, hb1⟩
        go_wp2_with fail
        go_ret
        exact ⟨rfl, below_to RB.out hb1⟩
      have e2 : decide ((sc.size : Int) > 2048) = false := decide_eq_false (by omega)
      have e2' : decide (2048 < (sc.size : Int)) = false := decide_eq_false (by omega)
      by_cases h3 : 40 < k
      · have e3 : decide ((k : Int) > 40) = true := decide_eq_true (by omega)
        have e3' : decide (40 < (k : Int)) = true := decide_eq_true (by omega)
        go_wp2_with fail
        refine (alive_any _ T1.out).mono ?_
        rintro e w1 ⟨rfl, hb1⟩
        go_wp2_with fail
        go_ret
        exact ⟨rfl, below_to RB.out hb1⟩
      have e3 : decide ((k : Int) > 40) = false := decide_eq_false (by omega)
      have e3' : decide (40 < (k : Int)) = false := decide_eq_false (by omega)
      go_wp2_with fail
      refine ⟨⟨k + 1, by omega, by go_num, by rw [HN.out, HS.out], by rw [HN.out]; have := HM.out; omega, RB.out⟩, by simp [intOf]; omega⟩
    · have hkk : k = len := by omega
      have hd : decide ((k : Int) < (len : Int)) = false := decide_eq_false (by omega)
      have hdn : decide (k < len) = false := decide_eq_false hlt
      have htk : catB (ss.take k) = catB ss := by rw [List.take_of_length_le (by rw [HL.out]; omega)]
      rw [htk] at hs ⊢
      have hcs := hs
      rw [catB_size] at hcs
      have HCS := hid hcs
      have HAA : Hid (len = 0 ∨ ∃ bw off, a = some ⟨bw, off, none⟩ ∧ ∀ j, j < len → wr.cell? ⟨bw, off + j, none⟩ = some (.string (ss.getD j ByteArray.empty))) := hid (by
        rcases HA.out with h | ⟨b, off, h1, h2, h3⟩
        · exact .inl h
        · exact .inr ⟨b, off, h1, fun j hj => (RB.out.cell (p := ⟨b, off + j, none⟩) h2).trans (h3 j hj)⟩)
      clear rb hlt hk hkk htk hcs
      go_wp2_with fail
      have hof := Of_any ss a cap
      rw [HL.out] at hof
      have hrof := ROf_any (catB ss)
      rw [catB_data] at hrof
      have hof2 := Of_any [catB ss]
      rw [show cat [catB ss] = cat ss by simp [cat, catB]] at hof2
      have HO := hid hof
      have HR := hid hrof
      have HO2 := hid hof2
      clear hof hrof hof2
      obtain ⟨TG, fg, hG⟩ := T1.out
      refine (HO.out TG fg wr hG (by have := HCS.out; omega) (by omega) HAA.out).mono ?_
      rintro e w1 ⟨rfl, hb1⟩
      have T2 := hid (T1.out.keep hb1)
      have B2 := hid (below_to RB.out hb1)
      have A2 : Hid (len = 0 ∨ ∃ bw off, a = some ⟨bw, off, none⟩ ∧ ∀ j, j < len → w1.cell? ⟨bw, off + j, none⟩ = some (.string (ss.getD j ByteArray.empty))) := hid (by
        rcases HA.out with h | ⟨b, off, h1, h2, h3⟩
        · exact .inl h
        · exact .inr ⟨b, off, h1, fun j hj => (B2.out.cell (p := ⟨b, off + j, none⟩) h2).trans (h3 j hj)⟩)
      clear hG hb1 T1 RB HAA
      go_wp2_with fail
      refine (HR.out _ (by have := HCS.out; rw [catB_size]; omega)).mono ?_
      rintro e w2 ⟨rfl, hb2⟩
      have T3 := hid (T2.out.keep hb2)
      have B3 := hid (below_to B2.out hb2)
      have A3 : Hid (len = 0 ∨ ∃ bw off, a = some ⟨bw, off, none⟩ ∧ ∀ j, j < len → w2.cell? ⟨bw, off + j, none⟩ = some (.string (ss.getD j ByteArray.empty))) := hid (by
        rcases HA.out with h | ⟨b, off, h1, h2, h3⟩
        · exact .inl h
        · exact .inr ⟨b, off, h1, fun j hj => (B3.out.cell (p := ⟨b, off + j, none⟩) h2).trans (h3 j hj)⟩)
      clear hb2 T2 B2 A2
      go_wp2_with fail
      obtain ⟨TG, fg, hG⟩ := T3.out
      refine (HO.out TG fg w2 hG (by have := HCS.out; omega) (by omega) A3.out).mono ?_
      rintro e w3 ⟨rfl, hb3⟩
      have T4 := hid ((T3.out.keep hb3).alloc (.cells #[.string (catB ss)] 9))
      have B4 := hid (below_alloc (below_to B3.out hb3) (.cells #[.string (catB ss)] 9))
      clear hG hb3 T3 B3 A3
      go_wp2_with fail
      obtain ⟨TG, fg, hG⟩ := T4.out
      refine (HO2.out (some ⟨w3.heap.size, 0, none⟩) 1 TG fg _ hG (by have := HCS.out; omega) (by simp) (.inr ⟨_, 0, rfl, fun j hj => by
        rw [Nat.zero_add, cell_at (alloc_at _ _)]
        match j, hj with
        | 0, _ => rfl⟩)).mono ?_
      rintro e w4 ⟨rfl, hb4⟩
      have T5 := hid (T4.out.keep hb4)
      have B5 := hid (below_to B4.out hb4)
      clear hG hb4 T4 B4
      go_wp2_with fail
      refine (alive_any _ T5.out).mono ?_
      rintro e w5 ⟨rfl, hb5⟩
      go_wp2_with fail
      go_ret
      exact ⟨rfl, below_to B5.out hb5⟩

end Go.Proofs.YtjfjbanoikbnoaaDoor
