/- Bytes that are put together: numbers. Bytes that are put together: Extensions, Frame. The document's numbers and lists. The reader of messages: what it tells; its small functions. A region that draws its order, in which one operation makes memory wherever it comes, one stores behind all others, and the others leave the world alone: one walk in the order of the text. -/
import Derived.Test.YtliblhfabnjpkaaM01
import Derived.Test.YtliblhfabnjpkaaM03
import Derived.Maps.AppendAt
import Derived.Still
namespace Go.Proofs.Ytliblhfabnjpkaa
open Go Go.RowKit

/-- A number's bytes, the greatest first. -/
def be : Nat → Nat → List UInt8
  | 0, _ => []
  | n + 1, x => UInt8.ofNat (x / 256 ^ n % 256) :: be n x
theorem be_length (n x : Nat) : (be n x).length = n := by
  induction n with
  | zero => rfl
  | succ n ih => simp [be, ih]
section
variable {w : World} {B : Nat}
set_option maxHeartbeats 2000000 in
theorem bnum_any (b : Value) (l : List UInt8) (x n : Nat) (hn : n ≤ 8) (h : OwnsQ w b l) (hB : ∀ g, b.ownBlock = some g → B ≤ g) (hBw : B ≤ w.heap.size) (hl : l.length ≤ 10000000) :
    Calls Try.prog 54 #[b, .int .u64 (x : Int), .int .i64 (n : Int)] w fun e w' => Below B w w' ∧ ∃ v, e = .returned v ∧ OwnsQ w' v (l ++ be n x) ∧ ∀ g, v.ownBlock = some g → B ≤ g := by
  obtain ⟨a0, c0, rfl, _⟩ := h.shape
  go_enter Try.func54, Try.ntmps54
  go_wp2_with fail
  go_loopw [0, 7] (fun v i wr => ∃ (k : Nat) (m : List UInt8), k ≤ n ∧ i = .int .i64 ((k : Int) - 1) ∧ m ++ be k x = be n x ∧ m.length + k = n ∧ OwnsQ wr v (l ++ m) ∧ (∀ g, v.ownBlock = some g → B ≤ g) ∧ Below B w wr) (fun _ i _ => (intOf i + 1).toNat)
  case atStart => exact ⟨n, [], Nat.le_refl _, rfl, rfl, by simp, by rw [List.append_nil]; exact h, hB, Below.refl _ _⟩
  case round =>
    obtain ⟨k, m, hk, rfl, hm, hml, ho, hg, hb⟩ := hrel
    obtain ⟨a, c, hv, _⟩ := ho.shape
    subst hv
    have HO := hid ho
    have HG := hid hg
    have HB := hid hb
    have HM := hid hm
    clear ho hg hb hm h hB
    cases k with
    | zero =>
      have dk : decide ((0 : Int) ≤ ((0 : Nat) : Int) - 1) = false := rfl
      have he : m = be n x := by rw [← HM.out]; simp [be]
      have HE := hid he
      clear he
      go_wp2_with fail
      go_ret
      refine ⟨HB.out, _, rfl, ?_, HG.out⟩
      rw [← HE.out]
      exact HO.out
    | succ j =>
      have ej : ((j + 1 : Nat) : Int) - 1 = (j : Int) := by omega
      rw [ej]
      have hj8 : j < 8 := by omega
      obtain ⟨d, hd⟩ : ∃ d, UInt8.ofNat (x / 256 ^ j % 256) = d := ⟨_, rfl⟩
      have hdv : (x : Int) / 2 ^ (8 * j) % 256 = ((d.toNat : Nat) : Int) := by
        have h1 : ((x / 2 ^ (8 * j) % 256 : Nat) : Int) = (x : Int) / 2 ^ (8 * j) % 256 := by rw [Int.natCast_emod, Int.natCast_ediv, Int.natCast_pow]; rfl
        rw [← h1, ← hd, UInt8.toNat_ofNat', show (2 : Nat) ^ (8 * j) = 256 ^ j by rw [Nat.pow_mul]]
        simp
      have hm2 : (m ++ [d]) ++ be j x = be n x := by rw [← HM.out, ← hd]; simp [be]
      have HM2 := hid hm2
      have hsrc := Src.ofSlice (P := Try.prog) (size := 1) (w := wr.alloc (.cells #[.int .u8 (d.toNat : Int)] 5)) Try.underlying91 ⟨wr.heap.size, 0, none⟩ 1 1 (u8s [d]) rfl (cell_one_new _ _ _) (by simp [u8s, Value.oneCell'])
      obtain ⟨i0, hi, hz0, hz1, hz2⟩ := info_parts info_u8
      have HSRC := hid hsrc
      have HO1 := hid (HO.out.keep (w' := wr.alloc (.cells #[.int .u8 (d.toNat : Int)] 5)) fun g o _ ho => keepB (below_new _) ho)
      clear hsrc hm2 hd
      go_wp2_with (at_builtin; refine wpList_append_Q rfl _ _ 91 91 rfl i0 Try.underlying91 hi hz0 hz1 hz2 _ _ rfl rfl _ [d] HO1.out HSRC.out (Nat.succ_pos 0) ?ca ?_)
      case ca => simp only [List.length_append, List.length_cons, List.length_nil]; omega
      intro v' w2 hq2 hg2 hn2
      have hgg := HG.out
      rw [List.length_append] at hgg
      have HQ2 := hid hq2
      have HG2 := hid (show ∀ g, v'.ownBlock = some g → B ≤ g from fun g e => by
        rcases hn2 with h | h
        · exact hgg g (h.symm.trans e)
        · rw [h] at e; injection e with e; have := HB.out.size; omega)
      have HB2 := hid ((HB.out.alloc (by have := HB.out.size; omega) (.cells #[.int .u8 (d.toNat : Int)] 5)).grown hg2 (by have := HB.out.size; simp; omega) (fun g e => hgg g e))
      clear hq2 hg2 hn2 hgg
      go_wp2_with fail
      exact ⟨⟨j, m ++ [d], by omega, rfl, HM2.out, by rw [List.length_append, List.length_singleton]; omega, HQ2.out, HG2.out, HB2.out⟩, by simp only [intOf]; omega⟩
set_option maxHeartbeats 2000000 in
theorem btext_any (b : Value) (l : List UInt8) (t : List UInt8) (h : OwnsQ w b l) (hB : ∀ g, b.ownBlock = some g → B ≤ g) (hBw : B ≤ w.heap.size) (hl : l.length ≤ 10000000) (ht : t.length ≤ 10000000) :
    Calls Try.prog 65 #[b, .string ⟨t.toArray⟩] w fun e w' => Below B w w' ∧ ∃ v, e = .returned v ∧ OwnsQ w' v (l ++ t) ∧ ∀ g, v.ownBlock = some g → B ≤ g := by
  have HO := hid h
  have HG := hid hB
  obtain ⟨a0, c0, rfl, _⟩ := h.shape
  clear h hB
  rcases Nat.eq_zero_or_pos t.length with h0 | h0
  · have ht0 : t = [] := List.length_eq_zero_iff.1 h0
    subst ht0
    go_enter Try.func65, Try.ntmps65
    go_wp2_with fail
    all_goals
      simp only [Sem.run_pure, Result.andThen_ok]
      go_wp2_with fail
      go_ret
      exact ⟨⟨rfl, rfl, rfl, Nat.le_refl _, fun _ _ => rfl⟩, _, rfl, by rw [List.append_nil]; exact HO.out, HG.out⟩
  · have hsrc : Src Try.prog 1 9 (.string ⟨t.toArray⟩) t.length (u8s t) w := by
      have h := Src.ofString (P := Try.prog) (w := w) Try.underlying9 ⟨t.toArray⟩
      have e : (⟨t.toArray⟩ : ByteArray).size = t.length := by simp [ByteArray.size]
      rw [e] at h
      exact h
    obtain ⟨i0, hi, hz0, hz1, hz2⟩ := info_parts info_u8
    have HSRC := hid hsrc
    clear hsrc
    go_enter Try.func65, Try.ntmps65
    go_wp2_with (at_builtin; refine wpList_append_Q rfl _ _ 91 9 rfl i0 Try.underlying91 hi hz0 hz1 hz2 _ _ rfl rfl _ t HO.out HSRC.out h0 (by omega) ?_)
    intro v' w2 hq2 hg2 hn2
    have HQ2 := hid hq2
    have HG2 := hid (show ∀ g, v'.ownBlock = some g → B ≤ g from fun g e => by
      rcases hn2 with h | h
      · exact HG.out g (h.symm.trans e)
      · rw [h] at e; injection e with e; omega)
    have HB2 := hid ((show Below B w w from ⟨rfl, rfl, rfl, Nat.le_refl _, fun _ _ => rfl⟩).grown hg2 hBw (fun g e => HG.out g e))
    clear hq2 hg2 hn2
    go_wp2_with fail
    go_ret
    exact ⟨HB2.out, _, rfl, HQ2.out, HG2.out⟩
set_option maxHeartbeats 2000000 in
theorem blist_any (b : Value) (l : List UInt8) (n : Nat) (t : List UInt8) (hn : n ≤ 8) (h : OwnsQ w b l) (hB : ∀ g, b.ownBlock = some g → B ≤ g) (hBw : B ≤ w.heap.size) (hl : l.length ≤ 9000000) (ht : t.length ≤ 10000000) :
    Calls Try.prog 49 #[b, .int .i64 (n : Int), .string ⟨t.toArray⟩] w fun e w' => Below B w w' ∧ ∃ v, e = .returned v ∧ OwnsQ w' v (l ++ be n t.length ++ t) ∧ ∀ g, v.ownBlock = some g → B ≤ g := by
  have h1 := hid (bnum_any b l t.length n hn h hB hBw (by omega))
  have hs : (⟨t.toArray⟩ : ByteArray).size = t.length := by simp [ByteArray.size]
  obtain ⟨T, hT⟩ : ∃ T, (⟨t.toArray⟩ : ByteArray) = T := ⟨_, rfl⟩
  rw [hT] at hs
  have HT := hid hT
  have hu : ((t.length : Nat) : Int) % 18446744073709551616 = (t.length : Int) := by omega
  obtain ⟨a0, c0, rfl, _⟩ := h.shape
  clear h hB
  rw [hT]
  clear hT
  go_enter Try.func49, Try.ntmps49
  go_wp2_with fail
  refine h1.out.mono ?_
  rintro e w1 ⟨b1, v, rfl, ho, hg⟩
  have h2 := hid (btext_any v (l ++ be n t.length) t ho hg (Nat.le_trans hBw b1.size) (by rw [List.length_append, be_length]; omega) ht)
  have B1 := hid b1
  rw [HT.out] at h2
  clear b1 ho hg h1
  go_wp2_with fail
  refine h2.out.mono ?_
  rintro e w2 ⟨b2, v2, rfl, ho2, hg2⟩
  have B2 := hid (B1.out.trans b2)
  have HO := hid ho2
  have HG := hid hg2
  clear b2 ho2 hg2
  go_wp2_with fail
  go_ret
  exact ⟨B2.out, _, rfl, HO.out, HG.out⟩
end
end Go.Proofs.Ytliblhfabnjpkaa

namespace Go.Proofs.Ytliblhfabnjpkaa
open Go Go.RowKit

set_option maxRecDepth 100000 in
theorem conv_hb {w : World} {v : Value} {l : List UInt8} (h : OwnsQ w v l) (hl : 0 < l.length) : (convert 91 9 v).run Try.prog w = .ok (.string ⟨l.toArray⟩) w := by
  obtain ⟨a, cap, rfl, h1, h2, h3, h4⟩ := h.shape
  obtain ⟨g, rfl, _⟩ := h4 0 hl
  have hr := run_convert_bytes_arg (P := Try.prog) w 91 5 Try.underlying91 Try.underlying5 g 0 l.length cap (l.map fun c => (c.toNat : Int)) (by simp) (fun i hi => by
    have hil : i < l.length := by simpa using hi
    obtain ⟨g', e, hc⟩ := h4 i hil
    injection e with e
    injection e with e
    subst e
    rw [Nat.zero_add, hc]; simp [hil]) 9 Try.underlying9
  rw [hr]
  congr 2
  unfold strOfNums
  congr 1
  rw [List.map_map]
  congr 1
  conv => rhs; rw [← List.map_id l]
  exact List.map_congr_left fun c _ => by simp
theorem owns_one (w : World) (c : UInt8) : OwnsQ (w.alloc (.cells #[.int .u8 (c.toNat : Int)] 5)) (.slice (some ⟨w.heap.size, 0, none⟩) 1 1) [c] :=
  .inr ⟨w.heap.size, 1, _, rfl, alloc_at _ _, Nat.le_refl _, by simp, by unfold maxLen; simp, rfl⟩
section
variable {w : World}
/-- A framed message. -/
def frameL (k : UInt8) (b : List UInt8) : List UInt8 := k :: (be 3 b.length ++ b)
set_option maxHeartbeats 2000000 in
theorem frame_yes (k : UInt8) (b : List UInt8) (hb : b.length ≤ 16384) : Calls Try.prog 16 #[.agg #[.int .u8 (k.toNat : Int), .string ⟨b.toArray⟩]] w fun e w' => Below w.heap.size w w' ∧ e = .returned (.tuple #[.string ⟨(frameL k b).toArray⟩, .int .i64 0]) := by
  have hs : (⟨b.toArray⟩ : ByteArray).size = b.length := by simp [ByteArray.size]
  have hcl : ∀ (w1 : World) (v : Value), OwnsQ w1 v [k] → (∀ g, v.ownBlock = some g → w.heap.size ≤ g) → w.heap.size ≤ w1.heap.size → Calls Try.prog 49 #[v, .int .i64 3, .string ⟨b.toArray⟩] w1 fun e w' => Below w.heap.size w1 w' ∧ ∃ v', e = .returned v' ∧ OwnsQ w' v' ([k] ++ be 3 b.length ++ b) ∧ ∀ g, v'.ownBlock = some g → w.heap.size ≤ g := fun w1 v h h1 h2 => blist_any (w := w1) (B := w.heap.size) v [k] 3 b (by omega) h h1 h2 (by simp) (by omega)
  obtain ⟨T, hT⟩ : ∃ T, (⟨b.toArray⟩ : ByteArray) = T := ⟨_, rfl⟩
  rw [hT] at hs hcl ⊢
  have HC := hid hcl
  have d1 : decide ((16384 : Int) < (b.length : Int)) = false := decide_eq_false (by omega)
  have hb1 := below_new (w := w) (.cells #[.int .u8 (k.toNat : Int), .string T] 33)
  have ho := owns_one (w.alloc (.cells #[.int .u8 (k.toNat : Int), .string T] 33)) k
  have hb2 := below_alloc hb1 (.cells #[.int .u8 (k.toNat : Int)] 5)
  have hsz : (w.alloc (.cells #[.int .u8 (k.toNat : Int), .string T] 33)).heap.size = w.heap.size + 1 := by simp
  rw [hsz] at ho
  have H := hid (And.intro ho hb2)
  clear hcl hT ho hb1 hb2 hsz
  go_enter Try.func16, Try.ntmps16
  go_wp2_with fail
  refine (HC.out _ _ H.out.1 (fun g e => by have e := Option.some.inj e; change w.heap.size + 1 = g at e; omega) H.out.2.size).mono ?_
  rintro e w1 ⟨b1, v, rfl, hown, _⟩
  have HB := hid (H.out.2.trans b1)
  have hcv := conv_hb hown (by simp)
  have hfr : frameL k b = [k] ++ be 3 b.length ++ b := rfl
  rw [← hfr] at hcv
  have HF := hid hfr
  clear b1 hown hfr H
  go_wp2_with fail
  go_ret2
  exact ⟨HB.out, rfl⟩
theorem frame_no (k : UInt8) (b : List UInt8) (hb : 16384 < b.length) : Calls Try.prog 16 #[.agg #[.int .u8 (k.toNat : Int), .string ⟨b.toArray⟩]] w fun e w' => Below w.heap.size w w' ∧ e = .returned (.tuple #[.string ⟨#[]⟩, .int .i64 4]) := by
  have hs : (⟨b.toArray⟩ : ByteArray).size = b.length := by simp [ByteArray.size]
  obtain ⟨T, hT⟩ : ∃ T, (⟨b.toArray⟩ : ByteArray) = T := ⟨_, rfl⟩
  rw [hT] at hs ⊢
  have d1 : decide ((16384 : Int) < (b.length : Int)) = true := decide_eq_true (by omega)
  have H := hid (below_new (w := w) (.cells #[.int .u8 (k.toNat : Int), .string T] 33))
  clear hT
  go_enter Try.func16, Try.ntmps16
  go_wp2_with fail
  go_ret2
  exact ⟨H.out, rfl⟩
set_option maxHeartbeats 2000000 in
theorem extsn_any : Calls Try.prog 32 #[] w fun e w' => Below w.heap.size w w' ∧ e = .returned (.string ⟨#[0, 0]⟩) := by
  have ho : OwnsQ (w.alloc (.cells #[] 5)) (.slice (some ⟨w.heap.size, 0, none⟩) 0 0) [] := .inr ⟨w.heap.size, 0, #[], rfl, alloc_at _ _, Nat.le_refl _, Nat.le_refl _, Nat.zero_le _, rfl⟩
  have hb1 := below_new (w := w) (.cells #[] 5)
  have hc : Calls Try.prog 49 #[.slice (some ⟨w.heap.size, 0, none⟩) 0 0, .int .i64 2, .string ⟨#[]⟩] (w.alloc (.cells #[] 5)) fun e w' => Below w.heap.size (w.alloc (.cells #[] 5)) w' ∧ ∃ v', e = .returned v' ∧ OwnsQ w' v' [0, 0] ∧ ∀ g, v'.ownBlock = some g → w.heap.size ≤ g := blist_any (w := w.alloc (.cells #[] 5)) (B := w.heap.size) _ [] 2 [] (by omega) ho (fun g e => by have e := Option.some.inj e; simp at e; omega) hb1.size (by simp) (by simp)
  have H := hid (And.intro hc hb1)
  clear ho hc hb1
  go_enter Try.func32, Try.ntmps32
  go_wp2_with fail
  refine H.out.1.mono ?_
  rintro e w1 ⟨b1, v, rfl, hown, _⟩
  have HB := hid (H.out.2.trans b1)
  have hcv := conv_hb hown (by decide)
  clear b1 hown H
  go_wp2_with fail
  go_ret
  exact ⟨HB.out, rfl⟩
end
end Go.Proofs.Ytliblhfabnjpkaa

namespace Go.Proofs.Ytliblhfabnjpkaa
open Go Go.RowKit

set_option maxRecDepth 100000 in
theorem conv_q {w : World} {v : Value} {l : List UInt8} (h : OwnsQ w v l) (hl : 0 < l.length) : (convert 30 9 v).run Try.prog w = .ok (.string ⟨l.toArray⟩) w := by
  obtain ⟨a, cap, rfl, h1, h2, h3, h4⟩ := h.shape
  obtain ⟨g, rfl, _⟩ := h4 0 hl
  have hr := run_convert_bytes_arg (P := Try.prog) w 30 5 Try.underlying30 Try.underlying5 g 0 l.length cap (l.map fun c => (c.toNat : Int)) (by simp) (fun i hi => by
    have hil : i < l.length := by simpa using hi
    obtain ⟨g', e, hc⟩ := h4 i hil
    injection e with e
    injection e with e
    subst e
    rw [Nat.zero_add, hc]; simp [hil]) 9 Try.underlying9
  rw [hr]
  congr 2
  unfold strOfNums
  congr 1
  rw [List.map_map]
  congr 1
  conv => rhs; rw [← List.map_id l]
  exact List.map_congr_left fun c _ => by simp
theorem str_app (a b : List UInt8) : (⟨a.toArray⟩ : ByteArray) ++ ⟨b.toArray⟩ = ⟨(a ++ b).toArray⟩ := by
  apply ByteArray.ext
  simp [ByteArray.data_append]
section
variable {w : World}
set_option maxHeartbeats 2000000 in
theorem rnum_any (x n : Nat) (_hx : x < 9223372036854775808) (hn : n ≤ 7) : Calls Try.prog 55 #[.int .i64 (x : Int), .int .i64 (n : Int)] w fun e w' => Below w.heap.size w w' ∧ e = .returned (.string ⟨(be n x).toArray⟩) := by
  go_enter Try.func55, Try.ntmps55
  go_wp2_with fail
  go_loopw [5, 6] (fun s i wr => ∃ k : Nat, k ≤ n ∧ i = .int .i64 (k : Int) ∧ s = .string ⟨(be k x).toArray⟩ ∧ Below w.heap.size w wr) (fun _ i _ => (n - intOf i).toNat)
  case atStart => exact ⟨0, Nat.zero_le _, rfl, rfl, Below.refl _ _⟩
  case round =>
    obtain ⟨k, hk, rfl, rfl, hb⟩ := hrel
    have HB := hid hb
    clear hb
    by_cases hkn : k < n
    · have dk : decide ((k : Int) < (n : Int)) = true := decide_eq_true (by omega)
      obtain ⟨d, hd⟩ : ∃ d, UInt8.ofNat (x / 256 ^ k % 256) = d := ⟨_, rfl⟩
      have hst : (⟨[d].toArray⟩ : ByteArray) ++ ⟨(be k x).toArray⟩ = ⟨(be (k + 1) x).toArray⟩ := by rw [str_app, ← hd]; rfl
      have hdv : (x : Int) / 2 ^ (8 * k) % 256 = ((d.toNat : Nat) : Int) := by
        have h1 : ((x / 2 ^ (8 * k) % 256 : Nat) : Int) = (x : Int) / 2 ^ (8 * k) % 256 := by rw [Int.natCast_emod, Int.natCast_ediv, Int.natCast_pow]; rfl
        rw [← h1, ← hd, UInt8.toNat_ofNat', show (2 : Nat) ^ (8 * k) = 256 ^ k by rw [Nat.pow_mul]]
        simp
      have hs : (⟨(be k x).toArray⟩ : ByteArray).size = k := by simp [ByteArray.size, be_length]
      have hcv := conv_q (owns_one wr d) (Nat.succ_pos 0)
      obtain ⟨S, hS⟩ : ∃ S, (⟨(be k x).toArray⟩ : ByteArray) = S := ⟨_, rfl⟩
      obtain ⟨D, hD⟩ : ∃ D, (⟨[d].toArray⟩ : ByteArray) = D := ⟨_, rfl⟩
      have hsd : D.size = 1 := by rw [← hD]; rfl
      rw [hS] at hst hs ⊢
      rw [hD] at hst hcv
      have HST := hid hst
      clear hst hd hS hD
      go_wp2_with fail
      exact ⟨⟨k + 1, by omega, by go_num, by rw [HST.out], below_alloc HB.out _⟩, by simp only [intOf]; omega⟩
    · have dk : decide ((k : Int) < (n : Int)) = false := decide_eq_false (by omega)
      obtain rfl : k = n := by omega
      go_wp2_with fail
      go_ret
      exact ⟨HB.out, rfl⟩
theorem rlist_any (t : List UInt8) (n : Nat) (hn : n ≤ 7) (ht : t.length ≤ 100000000) : Calls Try.prog 50 #[.string ⟨t.toArray⟩, .int .i64 (n : Int)] w fun e w' => Below w.heap.size w w' ∧ e = .returned (.string ⟨(be n t.length ++ t).toArray⟩) := by
  have hN := rnum_any (w := w) t.length n (by omega) hn
  have hs : (⟨t.toArray⟩ : ByteArray).size = t.length := by simp [ByteArray.size]
  have hs2 : (⟨(be n t.length).toArray⟩ : ByteArray).size = n := by simp [ByteArray.size, be_length]
  have hst := str_app (be n t.length) t
  obtain ⟨T, hT⟩ : ∃ T, (⟨t.toArray⟩ : ByteArray) = T := ⟨_, rfl⟩
  obtain ⟨D, hD⟩ : ∃ D, (⟨(be n t.length).toArray⟩ : ByteArray) = D := ⟨_, rfl⟩
  rw [hT] at hs hst ⊢
  rw [hD] at hst hs2 hN
  have HST := hid hst
  have HN := hid hN
  clear hst hT hD hN
  go_enter Try.func50, Try.ntmps50
  go_wp2_with fail
  refine HN.out.mono ?_
  rintro e w1 ⟨b1, rfl⟩
  have HB := hid b1
  clear b1
  go_wp2_with fail
  go_ret
  exact ⟨HB.out, by rw [HST.out]; rfl⟩
end
end Go.Proofs.Ytliblhfabnjpkaa

namespace Go.Proofs.Ytliblhfabnjpkaa
open Go Go.RowKit
namespace HE
/-- How long the message says that it is. -/
def msgN (l : BS) : Nat := (l.getD 1 0).toNat * 65536 + (l.getD 2 0).toNat * 256 + (l.getD 3 0).toNat
/-- The messages that bytes are, what is left, and whether it went wrong. -/
def feedN : Nat → BS → List (UInt8 × BS) × BS × Bool
  | 0, l => ([], l, false)
  | n + 1, l =>
    if l.length < 4 then ([], l, false) else
    if 16384 < msgN l then ([], l, true) else
    if l.length < 4 + msgN l then ([], l, false) else
    let r := feedN n (l.drop (4 + msgN l))
    ((l.getD 0 0, (l.drop 4).take (msgN l)) :: r.1, r.2)
def feedL (l : BS) : List (UInt8 × BS) × BS × Bool := feedN l.length l
theorem feedN_eq : ∀ (n m : Nat) (l : BS), l.length ≤ n → l.length ≤ m → feedN n l = feedN m l
  | 0, 0, _, _, _ => rfl
  | 0, m + 1, l, h, _ => by unfold feedN; rw [if_pos (by omega)]
  | n + 1, 0, l, _, h => by unfold feedN; rw [if_pos (by omega)]
  | n + 1, m + 1, l, h1, h2 => by
    unfold feedN
    rw [feedN_eq n m (l.drop (4 + msgN l)) (by rw [List.length_drop]; omega) (by rw [List.length_drop]; omega)]
theorem feedL_short {l : BS} (h : l.length < 4) : feedL l = ([], l, false) := by
  unfold feedL
  cases hn : l.length with
  | zero => rfl
  | succ n => unfold feedN; rw [if_pos h]
theorem feedL_bad {l : BS} (h : ¬ l.length < 4) (h2 : 16384 < msgN l) : feedL l = ([], l, true) := by
  unfold feedL
  cases hn : l.length with
  | zero => omega
  | succ n => unfold feedN; rw [if_neg h, if_pos h2]
theorem feedL_part {l : BS} (h : ¬ l.length < 4) (h2 : ¬ 16384 < msgN l) (h3 : l.length < 4 + msgN l) : feedL l = ([], l, false) := by
  unfold feedL
  cases hn : l.length with
  | zero => omega
  | succ n => unfold feedN; rw [if_neg h, if_neg h2, if_pos h3]
theorem feedL_step {l : BS} (h : ¬ l.length < 4) (h2 : ¬ 16384 < msgN l) (h3 : ¬ l.length < 4 + msgN l) : feedL l = ((l.getD 0 0, (l.drop 4).take (msgN l)) :: (feedL (l.drop (4 + msgN l))).1, (feedL (l.drop (4 + msgN l))).2) := by
  unfold feedL
  obtain ⟨n, hn⟩ : ∃ n, l.length = n + 1 := ⟨l.length - 1, by omega⟩
  rw [hn]
  show (if l.length < 4 then _ else _) = _
  rw [if_neg h, if_neg h2, if_neg h3, feedN_eq n (l.drop (4 + msgN l)).length _ (by rw [List.length_drop]; omega) (Nat.le_refl _)]
end HE
def msgVs (l : List (UInt8 × HE.BS)) : List Value := l.flatMap fun x => [.int .u8 (x.1.toNat : Int), .string ⟨x.2.toArray⟩]
theorem msgVs_append (l m : List (UInt8 × HE.BS)) : msgVs (l ++ m) = msgVs l ++ msgVs m := by simp [msgVs]
theorem msgVs_at : ∀ (l : List (UInt8 × HE.BS)) (k : Nat) (x : UInt8 × HE.BS), l[k]? = some x → (msgVs l)[k * 2]? = some (.int .u8 (x.1.toNat : Int)) ∧ (msgVs l)[k * 2 + 1]? = some (.string ⟨x.2.toArray⟩)
  | [], k, x, h => by cases h
  | y :: l, 0, x, h => by injection h with h; subst h; exact ⟨rfl, rfl⟩
  | y :: l, k + 1, x, h => by
    obtain ⟨h1, h2⟩ := msgVs_at l k x h
    rw [show msgVs (y :: l) = .int .u8 (y.1.toNat : Int) :: .string ⟨y.2.toArray⟩ :: msgVs l from rfl, show (k + 1) * 2 = k * 2 + 1 + 1 by omega]
    exact ⟨h1, h2⟩
/-- Messages that are handed back, behind block B. -/
def MsgsAt (w : World) (B : Nat) (v : Value) (l : List (UInt8 × HE.BS)) : Prop :=
  (v = .slice none 0 0 ∧ l = []) ∨ ∃ g cap, v = .slice (some ⟨g, 0, none⟩) l.length cap ∧ B ≤ g ∧ g < w.heap.size ∧ ∀ k x, l[k]? = some x → w.cell? ⟨g, k * 2, none⟩ = some (.int .u8 (x.1.toNat : Int)) ∧ w.cell? ⟨g, k * 2 + 1, none⟩ = some (.string ⟨x.2.toArray⟩)
theorem MsgsAt.keep {w w' : World} {B : Nat} {v : Value} {l : List (UInt8 × HE.BS)} (h : MsgsAt w B v l) (hb : Below w.heap.size w w') : MsgsAt w' B v l := by
  rcases h with h | ⟨g, cap, h1, h2, h3, h4⟩
  · exact .inl h
  · exact .inr ⟨g, cap, h1, h2, Nat.lt_of_lt_of_le h3 hb.size, fun k x hx => ⟨(hb.cell (p := ⟨g, k * 2, none⟩) h3).trans (h4 k x hx).1, (hb.cell (p := ⟨g, k * 2 + 1, none⟩) h3).trans (h4 k x hx).2⟩⟩
/-- A reader at block R; its bytes lie elsewhere. -/
structure RdAt (w : World) (R : Nat) (v : Value) (l : HE.BS) (f : Int) : Prop where
  cells : hget w R = some (.cells #[v, .int .i64 f, .bool true] 68 (0, 0))
  own : OwnsQ w v l
  apart : v.ownBlock ≠ some R
section
variable {P : Program}
theorem run_append_Q0 (w : World) (t tx ty : TypeId) (i : TypeInfo) (ht : P.underlying t = some (.slice 5)) (hi : P.info? 5 = some i) (hz : i.zero = some (.int .u8 0)) (hs1 : i.size = 1) (hb1 : i.bytes = 1)
    (v x : Value) (l m : List UInt8) (h : OwnsQ w v l) (hs : Src P 1 tx x m.length (u8s m) w) (hnil : m = [] → (Builtin.append_ #[t, tx] ty #[.slice none 0 0, x]).run P w = .ok (.slice none 0 0) w) (hlen : l.length + m.length ≤ 140737488355328) :
    ∃ v' w', (Builtin.append_ #[t, tx] ty #[v, x]).run P w = .ok v' w' ∧ OwnsQ w' v' (l ++ m) ∧ w.grownBy w' v.ownBlock ∧ (v'.ownBlock = v.ownBlock ∨ v'.ownBlock = some w.heap.size) := by
  by_cases hm : 0 < m.length
  · exact run_append_Q (P := P) w t tx ty i ht hi hz hs1 hb1 v x l m h hs hm hlen
  · have hm0 : m = [] := List.length_eq_zero_iff.1 (by omega)
    subst hm0
    have hgr : ∀ b, w.grownBy w b := fun b => ⟨rfl, rfl, rfl, Nat.le_refl _, fun _ _ _ => rfl⟩
    rcases h with ⟨rfl, rfl⟩ | ⟨g, cap, cur, rfl, hc, hle, hmx, hsz, hxs⟩
    · exact ⟨_, _, hnil rfl, .inl ⟨rfl, rfl⟩, hgr _, .inl rfl⟩
    · have hr := run_append_room_src (P := P) w t tx ty 5 i ht hi g 0 l.length cap x 0 [] (by rw [hs1]; exact hs) hle (fun j hj => by simp at hj) (fun j hj => by simp at hj)
      refine ⟨_, _, hr, ?_, ?_, .inl rfl⟩
      · rw [List.append_nil]
        exact .inr ⟨g, cap, cur, rfl, hc, hle, hmx, hsz, hxs⟩
      · exact hgr _
theorem wpList_append_Q0 {ops : Array Oper} {rest : List Oper} {o : Oper} {a : Act} {w : World} {Q : Exit → Act → World → Prop} (hgd : o.guard = none) (s x : Operand) (t tx : TypeId)
    (ho : o.op = .call { callee := .builtin .append, args := #[s, x], argTypes := #[t, tx] }) (i : TypeInfo) (ht : P.underlying t = some (.slice 5)) (hi : P.info? 5 = some i) (hz : i.zero = some (.int .u8 0)) (hs1 : i.size = 1) (hb1 : i.bytes = 1)
    (v y : Value) (hv : a.eval s = v) (hy : a.eval x = y) (l m : List UInt8) (h : OwnsQ w v l) (hs : Src P 1 tx y m.length (u8s m) w) (hnil : m = [] → (Builtin.append_ #[t, tx] o.type #[.slice none 0 0, y]).run P w = .ok (.slice none 0 0) w) (hlen : l.length + m.length ≤ 140737488355328)
    (k : ∀ v' w', OwnsQ w' v' (l ++ m) → w.grownBy w' v.ownBlock → (v'.ownBlock = v.ownBlock ∨ v'.ownBlock = some w.heap.size) → wpList P ops Q rest (a.put o.dst v') w') : wpList P ops Q (o :: rest) a w := by
  refine wpList_plain hgd fun _ hK => ?_
  obtain ⟨v', w', hr, h2, h3, h4⟩ := run_append_Q0 (P := P) w t tx o.type i ht hi hz hs1 hb1 v y l m h hs hnil hlen
  unfold Oper.wp execOp
  simp only [ho, resolve, invoke, builtin, Sem.run_bind, Sem.run_pure, Result.andThen_ok, List.map_toArray, List.map_cons, List.map_nil, hv, hy, hr]
  exact hK _ _ (k v' w' h2 h3 h4)
end
section
variable {w : World}
theorem newr_any : Calls Try.prog 8 #[] w fun e w' => Below w.heap.size w w' ∧ e = .returned (.pointer (some ⟨w.heap.size, 0, none⟩)) ∧ RdAt w' w.heap.size (.slice none 0 0) [] 0 := by
  have h := hid (And.intro (below_new (w := w) (.cells #[.slice none 0 0, .int .i64 0, .bool true] 68)) (show RdAt (w.alloc (.cells #[.slice none 0 0, .int .i64 0, .bool true] 68)) w.heap.size (.slice none 0 0) [] 0 from ⟨alloc_at _ _, .nil _, by simp [Value.ownBlock]⟩))
  go_enter Try.func8, Try.ntmps8
  go_wp2_with fail
  go_ret
  exact ⟨h.out.1, rfl, h.out.2⟩
theorem none_yes {R : Nat} {v : Value} {l : HE.BS} {f : Int} (h : RdAt w R v l f) : Calls Try.prog 29 #[.pointer (some ⟨R, 0, none⟩)] w fun e w' => w = w' ∧ e = .returned (.bool false) := by
  have c2 := cell_at h.cells 2
  simp only [List.getElem?_toArray, List.getElem?_cons_succ, List.getElem?_cons_zero] at c2
  clear h
  go_enter Try.func29, Try.ntmps29
  go_wp2_with fail
  go_ret
  exact ⟨rfl, rfl⟩
theorem none_nil : Calls Try.prog 29 #[.pointer none] w fun e w' => w = w' ∧ e = .returned (.bool true) := by
  go_enter Try.func29, Try.ntmps29
  go_wp2_with fail
  go_ret
  exact ⟨rfl, rfl⟩
theorem clip_any (a : Option Addr) (n cap : Nat) (h : n ≤ cap) (_ha : a = none → cap = 0) (_hm : cap ≤ maxLen) : Calls Try.prog 30 #[.slice a n cap] w fun e w' => w = w' ∧ e = .returned (.slice a n n) := by
  go_enter Try.func30, Try.ntmps30
  go_wp2_with fail
  go_ret
  exact ⟨rfl, rfl⟩
theorem left_any {R : Nat} {v : Value} {l : HE.BS} {f : Int} (h : RdAt w R v l f) : Calls Try.prog 20 #[.pointer (some ⟨R, 0, none⟩)] w fun e w' => w = w' ∧ e = .returned (.int .i64 (if f = 0 then (l.length : Int) else 0)) := by
  have hn := hid (none_yes h)
  have c0 := cell_at h.cells 0
  have c1 := cell_at h.cells 1
  simp only [List.getElem?_toArray, List.getElem?_cons_succ, List.getElem?_cons_zero] at c0 c1
  obtain ⟨a, cap, rfl, _⟩ := h.own.shape
  clear h
  by_cases hf : f = 0
  · rw [if_pos hf]
    subst hf
    go_enter Try.func20, Try.ntmps20
    go_wp2_with fail
    refine hn.out.mono ?_
    rintro e w' ⟨rfl, rfl⟩
    go_wp2_with fail
    go_ret
    exact ⟨rfl, rfl⟩
  · rw [if_neg hf]
    have hd : (f != 0) = true := bne_iff_ne.2 hf
    go_enter Try.func20, Try.ntmps20
    go_wp2_with fail
    refine hn.out.mono ?_
    rintro e w' ⟨rfl, rfl⟩
    go_wp2_with fail
    go_ret
    exact ⟨rfl, rfl⟩
theorem left_nil : Calls Try.prog 20 #[.pointer none] w fun e w' => w = w' ∧ e = .returned (.int .i64 0) := by
  have hn := hid (none_nil (w := w))
  go_enter Try.func20, Try.ntmps20
  go_wp2_with fail
  refine hn.out.mono ?_
  rintro e w' ⟨rfl, rfl⟩
  go_wp2_with fail
  go_ret
  exact ⟨rfl, rfl⟩
end
end Go.Proofs.Ytliblhfabnjpkaa

namespace Go.Proofs.Ytliblhfabnjpkaa
open Go Go.RowKit

section
variable {P : Program} {ops : Array Oper} {md : Region.Mode} {k s : Nat} {w0 w1 w2 : World}

/-- From one world into another one, with this value. -/
def goesTo (P : Program) (w w' : World) (v : Value) : Result Next → Prop
  | .ok (.value u) x => x = w' ∧ u = v
  | .ok .skip x => x = w' ∧ v = undef
  | .ok (.enter f args) x => x = w ∧ w' = w ∧ Calls P f args w (fun e w'' => e = .returned v ∧ w'' = w)
  | _ => False
/-- What is asked of the operation of this number. -/
def Asked (P : Program) (k s : Nat) (w0 w1 w2 : World) (i : Nat) (e : Sem Next) (v : Value) : Prop :=
  if i = k then goesTo P w0 w1 v (e.run P w0) else if i = s then goesTo P w1 w2 v (e.run P w1)
  else goesTo P w0 w0 v (e.run P w0) ∧ goesTo P w1 w1 v (e.run P w1) ∧ goesTo P w2 w2 v (e.run P w2)
def Does (P : Program) (ops : Array Oper) (k s : Nat) (w0 w1 w2 : World) (i : Nat) (o : Oper) (v : Value) (a : Act) : Prop :=
  (Region.wanted o (yielded ops a.tmps) = true ∧ Asked P k s w0 w1 w2 i (execOp a.eval o) v) ∨ (Region.wanted o (yielded ops a.tmps) = false ∧ v = undef ∧ i ≠ k ∧ i ≠ s)
/-- The walk in the order of the text. -/
def wpFlt (P : Program) (ops : Array Oper) (k s : Nat) (w0 w1 w2 : World) (Q : Act → Prop) : Nat → List Oper → Act → Prop
  | _, [], a => Q a
  | i, o :: rest, a => ∃ v, Does P ops k s w0 w1 w2 i o v a ∧ wpFlt P ops k s w0 w1 w2 Q (i + 1) rest (a.put o.dst v)
def fOp (P : Program) (ops : Array Oper) (k s : Nat) (w0 w1 w2 : World) (i : Nat) (K : Act → Prop) (a : Act) : Prop :=
  match ops[i]? with
  | none => K a
  | some o => ∃ v, Does P ops k s w0 w1 w2 i o v a ∧ K (a.put o.dst v)
theorem fOp_mono {i : Nat} {a : Act} {K K' : Act → Prop} (h : ∀ a, K a → K' a) (hh : fOp P ops k s w0 w1 w2 i K a) : fOp P ops k s w0 w1 w2 i K' a := by
  unfold fOp at *
  split
  · exact h _ (by simpa [*] using hh)
  · rename_i o ho
    simp only [ho] at hh
    obtain ⟨v, h1, h2⟩ := hh
    exact ⟨v, h1, h _ h2⟩
def wpAnyF (P : Program) (md : Region.Mode) (ops : Array Oper) (k s : Nat) (w0 w1 w2 : World) (Q : Array Bool → Act → Prop) : Nat → Array Bool → Act → Prop
  | 0, listed, a => Region.ready md ops listed = [] ∧ Q listed a
  | fuel + 1, listed, a =>
    (Region.ready md ops listed = [] → Q listed a) ∧
    ∀ i ∈ Region.ready md ops listed, fOp P ops k s w0 w1 w2 i (wpAnyF P md ops k s w0 w1 w2 Q fuel (listed.setIfInBounds i true)) a
theorem Does.of_same {i : Nat} {o : Oper} {v : Value} {a a' : Act} (hy : Does P ops k s w0 w1 w2 i o v a) (he : execOp a'.eval o = execOp a.eval o)
    (hw : Region.wanted o (yielded ops a'.tmps) = Region.wanted o (yielded ops a.tmps)) : Does P ops k s w0 w1 w2 i o v a' := by
  unfold Does at *
  rw [he, hw]
  exact hy
theorem fOp_put {i j : Nat} {oi oj : Oper} {v : Value} (hj : ops[j]? = some oj) (hap : oi.apart ops oj = true)
    (hsi : ∀ cs b, oi.op ≠ .select cs b) (hsj : ∀ cs b, oj.op ≠ .select cs b) {K : Act → Prop} {a : Act}
    (hy : Does P ops k s w0 w1 w2 i oi v a) (h : fOp P ops k s w0 w1 w2 j K (a.put oi.dst v)) :
    fOp P ops k s w0 w1 w2 j (fun a' => Does P ops k s w0 w1 w2 i oi v a' ∧ K (a'.put oi.dst v)) a := by
  obtain ⟨h1, h2, h3⟩ := Oper.apart_spec hap
  unfold fOp at *
  simp only [hj] at *
  obtain ⟨u, hu, hn⟩ := h
  refine ⟨u, hu.of_same (execOp_put oj hsj a oi.dst v h1).symm (wanted_put oj a oi.dst v h1).symm, hy.of_same (execOp_put oi hsi a oj.dst u h3) (wanted_put oi a oj.dst u h3), ?_⟩
  rw [← Act.put_comm a v u h2]
  exact hn
theorem wpAnyF_first {Q : Array Bool → Act → Prop} {i : Nat} {oi : Oper} {v : Value} (hi : ops[i]? = some oi) (hsel : ∀ (j : Nat) (o : Oper) cs b, ops[j]? = some o → o.op ≠ .select cs b) :
    ∀ (fuel : Nat) (listed : Array Bool) (a : Act),
      (∀ j oj, ops[j]? = some oj → j ≠ i → listed.getD j true = false → (∀ e ∈ oj.after, Region.binds md e = true → e.on ≠ i) → oi.apart ops oj = true) →
      i ∈ Region.ready md ops listed → Does P ops k s w0 w1 w2 i oi v a →
      wpAnyF P md ops k s w0 w1 w2 Q fuel (listed.setIfInBounds i true) (a.put oi.dst v) → wpAnyF P md ops k s w0 w1 w2 Q (fuel + 1) listed a := by
  intro fuel
  have take : ∀ {K : Act → Prop} {a : Act}, Does P ops k s w0 w1 w2 i oi v a → K (a.put oi.dst v) → fOp P ops k s w0 w1 w2 i K a := fun hy h => by
    unfold fOp; simp only [hi]; exact ⟨v, hy, h⟩
  induction fuel with
  | zero =>
    intro listed a _ hr hy H
    refine ⟨fun h => (by rw [h] at hr; cases hr), fun j hj => ?_⟩
    by_cases hji : j = i
    · subst hji; exact take hy H
    · have := ready_mono hj hji
      rw [H.1] at this
      cases this
  | succ fuel ih =>
    intro listed a hfree hr hy H
    refine ⟨fun h => (by rw [h] at hr; cases hr), fun j hj => ?_⟩
    by_cases hji : j = i
    · subst hji; exact take hy H
    · have h1 := H.2 j (ready_mono hj hji)
      obtain ⟨hjun, oj, hoj, hall⟩ := mem_ready.1 hj
      have hnot : ∀ e ∈ oj.after, Region.binds md e = true → e.on ≠ i := fun e he hb heq => by
        have h1 := hall e he hb
        have h0 := (mem_ready.1 hr).1
        rw [heq] at h1
        rcases Nat.lt_or_ge i listed.size with h' | h'
        · simp [h'] at h0 h1; rw [h0] at h1; cases h1
        · simp [Array.getElem?_eq_none h'] at h1
      have h2 := fOp_put hoj (hfree j oj hoj hji hjun hnot) (fun cs b => hsel i oi cs b hi) (fun cs b => hsel j oj cs b hoj) hy h1
      have hfree' : ∀ m om, ops[m]? = some om → m ≠ i → (listed.setIfInBounds j true).getD m true = false →
          (∀ e ∈ om.after, Region.binds md e = true → e.on ≠ i) → oi.apart ops om = true := fun m om hm hmi hun hno => by
        refine hfree m om hm hmi ?_ hno
        by_cases hjm : j = m
        · subst hjm; exact hjun
        · rw [getD_set_ne true hjm] at hun; exact hun
      refine fOp_mono (fun a' h3 => ih (listed.setIfInBounds j true) a' hfree' (ready_mono hr (Ne.symm hji)) h3.1 ?_) h2
      rw [Array.setIfInBounds_comm _ _ hji]
      exact h3.2
theorem wpAnyF_lex {Q : Act → Prop} (hs : Region.noSelect ops = true) : ∀ (l : List Oper) (m : Nat) (listed : Array Bool) (a : Act), (∀ j, l[j]? = ops[m + j]?) → listed.size = ops.size → (∀ j, j < m → j < ops.size → listed.getD j false = true) →
    Region.lexFrom md ops l.length m listed = true → wpFlt P ops k s w0 w1 w2 Q m l a → wpAnyF P md ops k s w0 w1 w2 (fun listed a => (s < ops.size → listed.getD s false = true) ∧ Q a) l.length listed a
  | [], m, listed, _, hl, hz, hd, hB, h => ⟨by simpa [Region.lexFrom] using hB, fun hsz => hd s (by
      rcases Nat.lt_or_ge s m with h1 | h1
      · exact h1
      · have := hl (s - m)
        rw [show m + (s - m) = s by omega, Array.getElem?_eq_getElem hsz] at this
        cases this) hsz, h⟩
  | o :: l, m, listed, a, hl, hz, hd, hB, h => by
    have h0 : ops[m]? = some o := by simpa using (hl 0).symm
    have hml : m < ops.size := (Array.getElem?_eq_some_iff.1 h0).1
    simp only [List.length_cons, Region.lexFrom, Bool.and_eq_true] at hB
    obtain ⟨⟨hr, hf⟩, hB'⟩ := hB
    obtain ⟨v, hy, hK⟩ := h
    refine wpAnyF_first h0 (Region.noSelect_spec hs) l.length listed a (Region.free_spec h0 hf) (by simpa using hr) hy
      (wpAnyF_lex hs l (m + 1) _ _ (fun j => by have := hl (j + 1); simpa [Nat.add_assoc, Nat.add_comm 1 j] using this) (by simpa using hz) (fun j hj hjs => ?_) hB' hK)
    by_cases hjm : j = m
    · subst hjm; simp [hz, hml]
    · exact getD_set_true (hd j (by omega) hjs)
/-- What came up before what waits for it. -/
def Closed (md : Region.Mode) (ops : Array Oper) (listed : Array Bool) : Prop := ∀ j oj, ops[j]? = some oj → listed.getD j false = true → ∀ e ∈ oj.after, Region.binds md e = true → listed.getD e.on false = true
def atW (k s : Nat) (w0 w1 w2 : World) (listed : Array Bool) : World := if listed.getD s false then w2 else if listed.getD k false then w1 else w0
theorem getD_ft {listed : Array Bool} {i : Nat} (h : listed.getD i true = false) : listed.getD i false = false ∧ i < listed.size := by
  rcases Nat.lt_or_ge i listed.size with h' | h'
  · simp [h'] at h ⊢; exact h
  · simp [Array.getElem?_eq_none h'] at h
theorem Closed.set {listed : Array Bool} {i : Nat} (h : Closed md ops listed) (hi : i ∈ Region.ready md ops listed) : Closed md ops (listed.setIfInBounds i true) := by
  obtain ⟨_, oi, hoi, hall⟩ := mem_ready.1 hi
  intro j oj hj hl e he hb
  by_cases hij : i = j
  · subst hij
    have : oj = oi := Option.some.inj (hj.symm.trans hoi)
    subst this
    exact getD_set_true (hall e he hb)
  · rw [getD_set_ne false hij] at hl
    exact getD_set_true (h j oj hj hl e he hb)
theorem wp_of_goes {o : Oper} {a : Act} {v : Value} {w w' : World} {K' : Act → World → Prop} {Q' : Exit → Act → World → Prop} (hg : goesTo P w w' v ((execOp a.eval o).run P w)) (h : K' (a.put o.dst v) w') : o.wp P a w K' Q' := by
  unfold Oper.wp
  generalize (execOp a.eval o).run P w = r at *
  cases r with
  | ok n x =>
    cases n <;> simp only [goesTo] at hg <;> simp only [Oper.upon]
    case value u => obtain ⟨rfl, rfl⟩ := hg; exact h
    case skip => obtain ⟨rfl, rfl⟩ := hg; exact h
    case enter f args =>
      obtain ⟨rfl, rfl, hc⟩ := hg
      exact hc.mono fun e w'' ⟨he, hw''⟩ => by subst he; subst hw''; exact h
  | halt x w' => simp only [goesTo] at hg
theorem wpAny_of_flt {Q : Act → Prop} {Q' : Exit → Act → World → Prop} {os : Oper} (hks : k ≠ s) (hsz : s < ops.size) (hos : ops[s]? = some os) (hwait : ∃ e ∈ os.after, Region.binds md e = true ∧ e.on = k) (hQ : ∀ a, Q a → Q' .normal a w2) :
    ∀ (fuel : Nat) (listed : Array Bool) (a : Act), Closed md ops listed →
    wpAnyF P md ops k s w0 w1 w2 (fun listed a => (s < ops.size → listed.getD s false = true) ∧ Q a) fuel listed a → wpAny P md ops Q' fuel listed a (atW k s w0 w1 w2 listed)
  | 0, listed, a, _, h => ⟨h.1, by have e : atW k s w0 w1 w2 listed = w2 := by unfold atW; rw [if_pos (h.2.1 hsz)]
                                   rw [e]; exact hQ _ h.2.2⟩
  | fuel + 1, listed, a, hc, h => by
    refine ⟨fun h0 => ?_, fun i hi => ?_⟩
    · have h1 := h.1 h0
      have e : atW k s w0 w1 w2 listed = w2 := by unfold atW; rw [if_pos (h1.1 hsz)]
      rw [e]; exact hQ _ h1.2
    · have h2 := h.2 i hi
      have hc2 := hc.set hi
      have hun := (mem_ready.1 hi).1
      obtain ⟨hif, hil⟩ := getD_ft hun
      have next : ∀ a', wpAnyF P md ops k s w0 w1 w2 (fun listed a => (s < ops.size → listed.getD s false = true) ∧ Q a) fuel (listed.setIfInBounds i true) a' → wpAny P md ops Q' fuel (listed.setIfInBounds i true) a' (atW k s w0 w1 w2 (listed.setIfInBounds i true)) :=
        fun a' => wpAny_of_flt hks hsz hos hwait hQ fuel _ a' hc2
      unfold fOp at h2
      unfold wpOp
      split
      · rename_i ho; simp only [ho] at h2
        obtain ⟨_, o, ho', _⟩ := mem_ready.1 hi
        rw [ho] at ho'; cases ho'
      · rename_i o ho
        simp only [ho] at h2
        obtain ⟨v, hd, hK⟩ := h2
        have here := next _ hK
        have hset : (listed.setIfInBounds i true).getD i false = true := by simp [hil]
        rcases hd with ⟨hw, hd⟩ | ⟨hw, rfl, hik, his⟩
        · rw [hw, if_pos rfl]
          refine .inl ?_
          unfold Asked at hd
          by_cases hik : i = k
          · subst hik
            rw [if_pos rfl] at hd
            have hsf : listed.getD s false = false := by
              cases hl : listed.getD s false with
              | false => rfl
              | true =>
                obtain ⟨e, he, hb, hon⟩ := hwait
                have := hc s os hos hl e he hb
                rw [hon, hif] at this; cases this
            have e1 : atW i s w0 w1 w2 listed = w0 := by unfold atW; rw [hsf, hif]; rfl
            have e2 : atW i s w0 w1 w2 (listed.setIfInBounds i true) = w1 := by unfold atW; rw [getD_set_ne false hks, hsf, hset]; rfl
            rw [e1]; rw [e2] at here
            exact wp_of_goes hd here
          · rw [if_neg hik] at hd
            by_cases his : i = s
            · subst his
              rw [if_pos rfl] at hd
              have hkt : listed.getD k false = true := by
                obtain ⟨_, o2, ho2, hall⟩ := mem_ready.1 hi
                have : o2 = os := Option.some.inj (ho2.symm.trans hos)
                subst this
                obtain ⟨e, he, hb, hon⟩ := hwait
                rw [← hon]; exact hall e he hb
              have e1 : atW k i w0 w1 w2 listed = w1 := by unfold atW; rw [hif, hkt]; rfl
              have e2 : atW k i w0 w1 w2 (listed.setIfInBounds i true) = w2 := by unfold atW; rw [hset]; rfl
              rw [e1]; rw [e2] at here
              exact wp_of_goes hd here
            · rw [if_neg his] at hd
              obtain ⟨d0, d1, d2⟩ := hd
              have e2 : atW k s w0 w1 w2 (listed.setIfInBounds i true) = atW k s w0 w1 w2 listed := by unfold atW; rw [getD_set_ne false his, getD_set_ne false hik]
              rw [e2] at here
              unfold atW at here ⊢
              split
              · rename_i h1; rw [if_pos h1] at here; exact wp_of_goes d2 here
              · rename_i h1
                rw [if_neg h1] at here
                split
                · rename_i h3; rw [if_pos h3] at here; exact wp_of_goes d1 here
                · rename_i h3; rw [if_neg h3] at here; exact wp_of_goes d0 here
        · rw [hw]
          have e2 : atW k s w0 w1 w2 (listed.setIfInBounds i true) = atW k s w0 w1 w2 listed := by unfold atW; rw [getD_set_ne false his, getD_set_ne false hik]
          rw [e2] at here
          exact here
/-- The law: operation k makes memory wherever it comes, operation s stores behind it; the others leave each of the three worlds alone. -/
theorem wp_region_flt {id : Nat} {Q : Exit → Act → World → Prop} {a : Act} {w : World} {l : List Oper} (k s : Nat) (w1 w2 : World) (hm : P.follows .mixedOrders = true) (hB : Region.lexB .any l.toArray = true)
    (hks : k ≠ s) (hsz : s < l.length) (hwait : (match l[s]? with | some os => os.after.any fun e => Region.binds .any e && e.on == k | none => false) = true)
    (h : wpFlt P l.toArray k s w.drew w1 w2 (fun a' => Q .normal a' w2) 0 l a) : (Code.region id l.toArray true).wp P Q a w := by
  simp only [Region.lexB, Bool.and_eq_true] at hB
  refine wp_region_any hm ?_
  obtain ⟨os, hos⟩ : ∃ os, l[s]? = some os := ⟨_, List.getElem?_eq_getElem hsz⟩
  rw [hos] at hwait
  obtain ⟨e, he, hb⟩ := Array.any_eq_true'.1 hwait
  simp only [Bool.and_eq_true, beq_iff_eq] at hb
  have hx := wpAnyF_lex (P := P) (k := k) (s := s) (w0 := w.drew) (w1 := w1) (w2 := w2) (md := .any) hB.1 l 0 (Array.replicate l.toArray.size false) a (by simp) (by simp) (fun j hj => absurd hj (Nat.not_lt_zero _)) (by simpa using hB.2) h
  have hf : ∀ m j, (Array.replicate m false).getD j false = false := fun m j => by
    rcases Nat.lt_or_ge j m with h | h
    · simp [h]
    · simp [h]
  have hy := wpAny_of_flt (ops := l.toArray) (md := .any) hks (by simpa using hsz) (by simpa using hos) ⟨e, he, hb.1, hb.2⟩ (fun a h => h) _ _ _ (fun j oj _ hl => by rw [hf] at hl; cases hl) hx
  have e0 : atW k s w.drew w1 w2 (Array.replicate l.toArray.size false) = w.drew := by unfold atW; rw [hf, hf]; rfl
  rw [e0] at hy
  simpa using hy
theorem wpFlt_nil {Q : Act → Prop} {i : Nat} {a : Act} (h : Q a) : wpFlt P ops k s w0 w1 w2 Q i [] a := h
/-- A step that leaves the world alone. -/
theorem wpFlt_quiet {Q : Act → Prop} {i : Nat} {a : Act} {o : Oper} {rest : List Oper} (hik : i ≠ k) (his : i ≠ s)
    (h : ∀ K : Act → Prop, (∀ a, wpFlt P ops k s w0 w1 w2 Q (i + 1) rest a → K a) →
      if Region.wanted o (yielded ops a.tmps) then ∃ v, goesTo P w0 w0 v ((execOp a.eval o).run P w0) ∧ goesTo P w1 w1 v ((execOp a.eval o).run P w1) ∧ goesTo P w2 w2 v ((execOp a.eval o).run P w2) ∧ K (a.put o.dst v) else K (a.put o.dst undef)) :
    wpFlt P ops k s w0 w1 w2 Q i (o :: rest) a := by
  have h2 := h _ (fun _ h => h)
  cases hw : Region.wanted o (yielded ops a.tmps)
  · rw [hw] at h2
    exact ⟨undef, .inr ⟨hw, rfl, hik, his⟩, h2⟩
  · rw [hw, if_pos rfl] at h2
    obtain ⟨v, a1, a2, a3, a4⟩ := h2
    refine ⟨v, .inl ⟨hw, ?_⟩, a4⟩
    unfold Asked
    rw [if_neg hik, if_neg his]
    exact ⟨a1, a2, a3⟩
theorem wpFlt_make {Q : Act → Prop} {i : Nat} {a : Act} {o : Oper} {rest : List Oper} (hg : o.guard = none) (hik : i = k)
    (h : ∀ K : Act → Prop, (∀ a, wpFlt P ops k s w0 w1 w2 Q (i + 1) rest a → K a) → ∃ v, goesTo P w0 w1 v ((execOp a.eval o).run P w0) ∧ K (a.put o.dst v)) :
    wpFlt P ops k s w0 w1 w2 Q i (o :: rest) a := by
  obtain ⟨v, a1, a2⟩ := h _ (fun _ h => h)
  refine ⟨v, .inl ⟨by unfold Region.wanted; rw [hg], ?_⟩, a2⟩
  unfold Asked
  rw [if_pos hik]
  exact a1
theorem wpFlt_store {Q : Act → Prop} {i : Nat} {a : Act} {o : Oper} {rest : List Oper} (hg : o.guard = none) (hik : i ≠ k) (his : i = s)
    (h : ∀ K : Act → Prop, (∀ a, wpFlt P ops k s w0 w1 w2 Q (i + 1) rest a → K a) → ∃ v, goesTo P w1 w2 v ((execOp a.eval o).run P w1) ∧ K (a.put o.dst v)) :
    wpFlt P ops k s w0 w1 w2 Q i (o :: rest) a := by
  obtain ⟨v, a1, a2⟩ := h _ (fun _ h => h)
  refine ⟨v, .inl ⟨by unfold Region.wanted; rw [hg], ?_⟩, a2⟩
  unfold Asked
  rw [if_neg hik, if_pos his]
  exact a1
@[go_sem] theorem goesTo_value (w w' x : World) (v u : Value) : goesTo P w w' v (.ok (.value u) x) = (x = w' ∧ u = v) := rfl
@[go_sem] theorem goesTo_skip (w w' x : World) (v : Value) : goesTo P w w' v (.ok .skip x) = (x = w' ∧ v = undef) := rfl
@[go_sem] theorem goesTo_enter (w w' x : World) (v : Value) (f : FuncId) (args : Array Value) : goesTo P w w' v (.ok (.enter f args) x) = (x = w ∧ w' = w ∧ Calls P f args w (fun e w'' => e = .returned v ∧ w'' = w)) := rfl
end

end Go.Proofs.Ytliblhfabnjpkaa
