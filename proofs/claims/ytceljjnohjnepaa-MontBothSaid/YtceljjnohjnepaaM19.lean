/- Montgomery's curve: Shared. Montgomery's curve, the document's: the ladder. Montgomery's curve, the document's: Shared and Public; the statements' secrets. The order of the base point is a prime. Montgomery's curve: keys and what two make together, as multiples of the base point. -/
import Derived.Test.YtceljjnohjnepaaM18
import Derived.Test.YtceljjnohjnepaaM16
import Derived.Test.YtceljjnohjnepaaM01
import Derived.Test.YtceljjnohjnepaaM13
namespace Go.Proofs.Ytceljjnohjnepaa
open Go Go.RowKit DG
attribute [local go_sem ↓] exl_Elem exs_Elem
                    attribute [local go_sem] ldm_Elem str_Elem to_quad0

def z32 : ByteArray := ⟨#[0, 0, 0, 0, 0, 0, 0, 0, 0, 0, 0, 0, 0, 0, 0, 0, 0, 0, 0, 0, 0, 0, 0, 0, 0, 0, 0, 0, 0, 0, 0, 0]⟩
/-- What two make together: the text, and the error. -/
def sharedS (sec s : ByteArray) : ByteArray := if sec.size = 32 ∧ s.size = 32 then (if mul32 sec (dY s) = z32 then ⟨#[]⟩ else mul32 sec (dY s)) else ⟨#[]⟩
def sharedE (sec s : ByteArray) : Int := if sec.size = 32 ∧ s.size = 32 then (if mul32 sec (dY s) = z32 then 80 else 0) else 2
set_option maxRecDepth 100000 in
theorem mul32_size (sec : ByteArray) (u : Nat) : (mul32 sec u).size = 32 := enc_size _ _
set_option maxRecDepth 100000 in
theorem u8_or (x y : UInt8) : bits .or .u8 (x.toNat : Int) (y.toNat : Int) = ((x ||| y).toNat : Int) := by
  rw [u8_or_nat _ _ x.toNat_lt y.toNat_lt, UInt8.toNat_or]
set_option maxRecDepth 100000 in
theorem u8_or0 (x y : UInt8) : x ||| y = 0 ↔ x = 0 ∧ y = 0 := by
  constructor
  · intro h
    have h1 := congrArg UInt8.toNat h
    rw [UInt8.toNat_or] at h1
    have h2 : x.toNat ||| y.toNat = 0 := h1
    constructor
    · exact UInt8.toNat_inj.1 (Nat.eq_zero_of_not_pos fun hp => by have := Nat.left_le_or (n := x.toNat) (m := y.toNat); rw [h2] at this; omega)
    · exact UInt8.toNat_inj.1 (Nat.eq_zero_of_not_pos fun hp => by have := Nat.right_le_or (n := x.toNat) (m := y.toNat); rw [h2] at this; omega)
  · rintro ⟨rfl, rfl⟩; rfl
set_option maxRecDepth 100000 in
theorem z32_of {S : ByteArray} (h : S.size = 32) : S = z32 ↔ ∀ i (hi : i < S.size), S[i] = 0 := by
  constructor
  · rintro rfl i hi
    have : ∀ i, i < 32 → z32.data.toList.getD i 1 = 0 := by decide
    have h0 : z32.data.toList.length = 32 := rfl
    have h1 := this i hi
    rw [List.getD_eq_getElem?_getD, List.getElem?_eq_getElem (by rw [h0]; exact hi), Option.getD_some] at h1
    exact h1
  · intro hz
    refine ba_ext (List.ext_getElem ?_ ?_)
    · rw [show S.data.toList.length = 32 by simpa using h]; rfl
    · intro i h1 h2
      have h3 := hz i (by simpa using h1)
      have h4 : z32.data.toList[i] = 0 := by
        have h0 : ∀ i, i < 32 → z32.data.toList.getD i 1 = 0 := by decide
        have h5 := h0 i h2
        rwa [List.getD_eq_getElem?_getD, List.getElem?_eq_getElem h2, Option.getD_some] at h5
      rw [h4]; exact h3
set_option maxRecDepth 100000 in
theorem set31 (l : List UInt8) (h : l.length = 32) (x : UInt8) : l.set 31 x = l.take 31 ++ [x] := by
  refine List.ext_getElem (by simp [h]) ?_
  intro i h1 h2
  rw [List.getElem_set]
  by_cases hi : 31 = i
  · subst hi
    rw [if_pos rfl, List.getElem_append_right (by simp [h])]
    simp [h]
  · rw [if_neg hi]
    have h3 : i < 31 := by simp [h] at h1; omega
    rw [List.getElem_append_left (by simp [h]; omega)]
    simp
set_option maxRecDepth 100000 in
theorem dY_set {s : ByteArray} (h : s.size = 32) : bytesNat (s.data.toList.set 31 (s.data.toList.getD 31 0 &&& 127)) = dY s := by
  have hs : 31 < s.size := by omega
  have hl : s.data.toList.length = 32 := by simpa using h
  have h1 := dec_nat h hs
  rw [topB_list] at h1
  rw [set31 _ hl, ← show s[31] = s.data.toList.getD 31 0 by rw [List.getD_eq_getElem?_getD, List.getElem?_eq_getElem (by omega), Option.getD_some]; rfl]
  exact h1
set_option maxRecDepth 100000 in
theorem shared_no (sec s : ByteArray) (W : World) (h : ¬ (sec.size = 32 ∧ s.size = 32)) : Calls Try.prog 12 #[.string sec, .string s] W fun r w' => r = .returned (.tuple #[.string ⟨#[]⟩, .int .i64 2]) ∧ Below W.heap.size W w' := by
  go_enter Try.func12, Try.ntmps12
  by_cases h1 : sec.size = 32
  · have hn : ((sec.size : Int) != 32) = false := by rw [bne_eq_false_iff_eq]; omega
    have hm : ((s.size : Int) != 32) = true := by rw [bne_iff_ne]; omega
    clear h h1
    go_wp2_with fail
    go_ret2
    exact ⟨rfl, Below.refl _ _⟩
  · have hn : ((sec.size : Int) != 32) = true := by rw [bne_iff_ne]; omega
    clear h h1
    go_wp2_with fail
    go_ret2
    exact ⟨rfl, Below.refl _ _⟩

set_option maxRecDepth 100000 in
set_option maxHeartbeats 2000000 in
theorem shared_core (sec s : ByteArray) (u : Nat) (S : ByteArray) (V : Value) (W : World) (h1 : sec.size = 32) (h32 : s.size = 32) (hu : dY s = u) (hS : mul32 sec u = S) (hV : (if S = z32 then .tuple #[.string ⟨#[]⟩, .int .i64 80] else .tuple #[.string S, .int .i64 0]) = V) :
    Calls Try.prog 12 #[.string sec, .string s] W fun r w' => r = .returned V ∧ Below W.heap.size W w' := by
  have HV := hid hV
  clear hV
  have hn : ((sec.size : Int) != 32) = false := by rw [bne_eq_false_iff_eq]; omega
  have hm : ((s.size : Int) != 32) = false := by rw [bne_eq_false_iff_eq]; omega
  have hu2 : u < p2 := hu ▸ dY_lt s
  have zS : S.size = 32 := hS ▸ mul32_size _ _
  have ZS := hid (z32_of zS)
  have T1 : Hid (∀ w, Calls Try.prog 40 #[.string sec, .agg (quad u)] w fun r w' => r = Ending.returned (.string S) ∧ Below w.heap.size w w') := hid (fun w => hS ▸ times_any sec u w h1 hu2)
  have hd := dY_set h32
  rw [hu] at hd
  have HN := hid h32
  have hll : s.data.toList.length = 32 := by simpa using h32
  obtain ⟨l, hl⟩ : ∃ l, s.data.toList = l := ⟨_, rfl⟩
  rw [hl] at hll hd
  have HLL := hid hll
  have HL := hid hl
  have O1 : Hid (∀ w, Calls Try.prog 39 #[.string ⟨(l.set 31 (l.getD 31 0 &&& 127)).toArray⟩] w fun e w' => e = .returned (.tuple #[.agg (quad u), .int .i64 0]) ∧ Below w.heap.size w w') :=
    hid (fun w => hd ▸ Of_32 ⟨(l.set 31 (l.getD 31 0 &&& 127)).toArray⟩ w (by show (l.set 31 _).toArray.size = 32; simp [hll]))
  clear hll hl hS hu hd h1
  go_enter Try.func12, Try.ntmps12
  go_upto_region 4 with (fail)
  clear hn hm
  have hL := laid_bytes W s
  have hB := hid (bytesWorld_below W 5 s)
  rw [HL.out] at hL
  clear h32 HN
  generalize Lib.bytesWorld W 5 s = w1 at *
  generalize grownCap W 32 0 5 = cap at *
  generalize hNN : W.heap.size = N at *
  have hlen := HLL.out
  obtain ⟨x1, hx1⟩ : ∃ x, l.getD 31 0 = x := ⟨_, rfl⟩
  rw [hx1] at O1
  have c1 := hL.cell (j := 31) (by omega)
  have f1 := hL.free (j := 31) (by omega)
  rw [hx1] at c1
  have L3 := hid (hL.set 31 (x1 &&& 127))
  have BE := hid (hB.out.setCell (p := ⟨N, 31, none⟩) (Nat.le_refl _) (.int .u8 ((x1 &&& 127).toNat : Int)))
  clear hx1 hL
  go_upto_region 5 with (fail)
  rw [and127]
  generalize hw2 : w1.setCell ⟨N, 31, none⟩ (.int .u8 ((x1 &&& 127).toNat : Int)) = w2 at *
  have hl3 : (l.set 31 (x1 &&& 127)).length = 32 := by simp [HLL.out]
  have hconv := fun (cap : Nat) => oconv_string _ N 0 32 cap _ hl3 (fun j hj => by rw [Nat.zero_add]; exact L3.out.cell (by rw [hl3]; exact hj))
  clear c1 f1 hw2
  go_wp2_with fail
  refine (O1.out _).mono ?_
  rintro e w3 ⟨rfl, b3⟩
  have b3 := hid (below_to (show Below W.heap.size W w2 by rw [hNN]; exact BE.out) b3)
  clear hconv L3 BE hB hNN
  simp only []
  go_upto_region 6 with (fail)
  skip
  obtain ⟨U, hU⟩ : ∃ b, w3.heap.size = b := ⟨_, rfl⟩
  have wU : W.heap.size ≤ U := by rw [← hU]; exact b3.out.size
  obtain ⟨w4, hw4⟩ : ∃ w4, w3.alloc (.cells (quad u) 40) = w4 := ⟨_, rfl⟩
  have kU := kept (show hget w4 (w3.heap.size) = some (.cells (quad u) 40) by rw [← hw4]; clear hw4; go_simp)
  have b4 : Hid (Below W.heap.size W w4) := by rw [← hw4]; repeat (first | exact Below.refl _ _ | exact below_new _ | exact b3.out | assumption | refine Below.drew ?_ | refine Below.drewN ?_ _ | refine below_alloc ?_ _ | refine below_blk' ?_ (by omega) _)
  rw [hw4]
  clear hw4
  try clear gU lU nU mU
  try clear jU
  have jU := kU.later
  obtain ⟨gU, lU, nU, mU⟩ := kU
  clear b3
  rw [hU] at *
  clear hU
  go_wp2_with fail
  try clear jU
  refine (T1.out _).mono ?_
  rintro e w5 ⟨rfl, hb5⟩
  have kU := Kept.on (kept (b := U) (o := .cells (quad u) 40 (0, 0)) (by go_simp)) hb5
  have b5 : Hid (Below W.heap.size W w5) := below_to (by repeat (first | exact Below.refl _ _ | exact below_new _ | exact b4.out | assumption | refine Below.drew ?_ | refine Below.drewN ?_ _ | refine below_alloc ?_ _ | refine below_blk' ?_ (by omega) _)) hb5
  clear hb5
  try clear gU lU nU mU
  obtain ⟨gU, lU, nU, mU⟩ := kU
  clear b4
  go_wp2_with fail
  clear gU lU nU mU wU O1 hlen hl3 T1 b3
  go_loopw [38, 10] (fun i a wr => ∃ (j : Nat) (x : UInt8), j ≤ 32 ∧ i = .int .i64 (j : Int) ∧ a = .int .u8 (x.toNat : Int) ∧ (x = 0 ↔ ∀ i (hi : i < S.size), i < j → S[i] = 0) ∧ Below W.heap.size W wr) (fun i _ _ => (32 - intOf i).toNat)
  case atStart => exact ⟨0, 0, by omega, rfl, rfl, ⟨fun _ i _ h => absurd h (by omega), fun _ => rfl⟩, b5.out⟩
  case round =>
    clear b5
    obtain ⟨j, x, hj, rfl, rfl, hq, hb3⟩ := hrel
    have HQ := hid hq
    have b3 := hid hb3
    clear hq hb3
    by_cases hlt : j < 32
    · have d1 : decide ((j : Int) < 32) = true := decide_eq_true (by omega)
      have hjs : j < S.size := by omega
      obtain ⟨y, hy⟩ : ∃ y, S[j]'hjs = y := ⟨_, rfl⟩
      have o1 := u8_or x y
      have hw : IntKind.i64.wrap ((j : Int) + 1) = (j : Int) + 1 := IntWalk.i64_in _ (by omega)
      have HN : x ||| y = 0 ↔ ∀ i (hi : i < S.size), i < j + 1 → S[i] = 0 := by
        rw [u8_or0, HQ.out, ← hy]
        refine ⟨fun ⟨h1, h2⟩ i hi hij => ?_, fun h => ⟨fun i hi hij => h i hi (by omega), h j hjs (by omega)⟩⟩
        by_cases he : i = j
        · subst he; exact h2
        · exact h1 i hi (by omega)
      have HN := hid HN
      go_wp2_with fail
      exact ⟨⟨j + 1, x ||| y, by omega, rfl, rfl, HN.out, b3.out⟩, by first | (simp [intOf]; done) | (simp [intOf]; omega)⟩
    · obtain rfl : j = 32 := by omega
      have d1 : decide (((32 : Nat) : Int) < 32) = false := by decide
      have hz : S = z32 ↔ x = 0 := by
        rw [ZS.out, HQ.out]
        exact ⟨fun h i hi _ => h i hi, fun h i hi => h i hi (by omega)⟩
      by_cases hx : x = 0
      · have e1 : ((x.toNat : Int) == 0) = true := by rw [hx]; rfl
        have HZ := hid (hz.2 hx)
        clear hz HQ hx
        go_wp2_with fail
        go_ret2
        exact ⟨by rw [← HV.out, if_pos HZ.out]; rfl, b3.out⟩
      · have e1 : ((x.toNat : Int) == 0) = false := by
          rw [beq_eq_false_iff_ne]
          intro h
          have h0 : (0 : UInt8).toNat = 0 := rfl
          exact hx (UInt8.toNat_inj.1 (by omega))
        have HZ := hid (fun h => hx (hz.1 h))
        clear hz HQ hx
        go_wp2_with fail
        go_ret2
        exact ⟨by rw [← HV.out, if_neg HZ.out]; rfl, b3.out⟩
set_option maxRecDepth 100000 in
theorem shared_any (sec s : ByteArray) (W : World) : Calls Try.prog 12 #[.string sec, .string s] W fun r w' => r = .returned (.tuple #[.string (sharedS sec s), .int .i64 (sharedE sec s)]) ∧ Below W.heap.size W w' := by
  unfold sharedS sharedE
  by_cases h : sec.size = 32 ∧ s.size = 32
  · rw [if_pos h, if_pos h]
    refine (shared_core sec s _ _ _ W h.1 h.2 rfl rfl rfl).mono ?_
    rintro r w' ⟨rfl, hb⟩
    refine ⟨?_, hb⟩
    by_cases hz : mul32 sec (dY s) = z32
    · rw [if_pos hz, if_pos hz, if_pos hz]
    · rw [if_neg hz, if_neg hz, if_neg hz]
  · rw [if_neg h, if_neg h]
    exact shared_no sec s W h

end Go.Proofs.Ytceljjnohjnepaa

namespace Go.Proofs.Ytceljjnohjnepaa
open Go Go.RowKit DG
attribute [local go_sem ↓] exl_Num exs_Num exl_RMp exs_RMp exb_RMp
                    attribute [local go_sem] ldm_Num str_Num ldr_RMp str_RMp to_nine0 rmp_zero bld_rmp bld_rmp0

set_option maxRecDepth 100000 in
set_option maxHeartbeats 4000000 in
theorem rtimes8_core (sec s : ByteArray) (u k : Nat) (K : ByteArray) (W : World) (h1 : sec.size = 32) (h32 : s.size = 32) (hu : dY s % pP = u) (hK : (⟨(clampL sec.data.toList).toArray⟩ : ByteArray) = K) (hk : bytesNat K.data.toList = k) :
    Calls Try.prog 41 #[.string sec, .string s] W fun r w' => r = .returned (.string (encB (Rd.out u k) false)) ∧ Below W.heap.size W w' := by
  have hu2 : u < pP := hu ▸ Nat.mod_lt _ (by decide)
  have zS : K.size = 32 := by
    rw [← hK]
    show (clampL sec.data.toList).toArray.size = 32
    unfold clampL
    simp
    exact h1
  have K1 := hid (fun w => ref_Small 1 w (by decide))
  have CL := hid (fun w => hK ▸ ref_Clamp sec w h1)
  have hd := dY_set h32
  have HN := hid h32
  have hll : s.data.toList.length = 32 := by simpa using h32
  obtain ⟨l, hl⟩ : ∃ l, s.data.toList = l := ⟨_, rfl⟩
  rw [hl] at hll hd
  have HLL := hid hll
  have HL := hid hl
  have O1 := fun w => ref_Of ⟨(l.set 31 (l.getD 31 0 &&& 127)).toArray⟩ w (by show (l.set 31 _).toArray.size ≤ 33; simp [hll])
  rw [show bytesNat (⟨(l.set 31 (l.getD 31 0 &&& 127)).toArray⟩ : ByteArray).data.toList = dY s from hd, hu] at O1
  have O1 := hid O1
  clear hll hl hu hd h1 hK
  go_enter Try.func41, Try.ntmps41
  go_wp2_with fail
  refine (CL.out _).mono ?_
  rintro e W0 ⟨rfl, b0⟩
  have b0 := hid b0
  go_upto_region 3 with (fail)
  have hL := laid_bytes W0 s
  have hB := hid (bytesWorld_below W0 5 s)
  rw [HL.out] at hL
  clear h32 HN CL
  generalize Lib.bytesWorld W0 5 s = w1 at *
  generalize grownCap W0 32 0 5 = cap at *
  generalize hNN : W0.heap.size = N at *
  have hlen := HLL.out
  obtain ⟨x1, hx1⟩ : ∃ x, l.getD 31 0 = x := ⟨_, rfl⟩
  rw [hx1] at O1
  have c1 := hL.cell (j := 31) (by omega)
  have f1 := hL.free (j := 31) (by omega)
  rw [hx1] at c1
  have L3 := hid (hL.set 31 (x1 &&& 127))
  have BE := hid (hB.out.setCell (p := ⟨N, 31, none⟩) (Nat.le_refl _) (.int .u8 ((x1 &&& 127).toNat : Int)))
  clear hx1 hL
  go_upto_region 4 with (fail)
  rw [andNot128]
  generalize hw2 : w1.setCell ⟨N, 31, none⟩ (.int .u8 ((x1 &&& 127).toNat : Int)) = w2 at *
  have hl3 : (l.set 31 (x1 &&& 127)).length = 32 := by simp [HLL.out]
  have hconv := fun (cap : Nat) => oconv_string _ N 0 32 cap _ hl3 (fun j hj => by rw [Nat.zero_add]; exact L3.out.cell (by rw [hl3]; exact hj))
  clear c1 f1 hw2
  go_wp2_with fail
  refine (O1.out _).mono ?_
  rintro e w3 ⟨rfl, b3⟩
  have b3 := below_to (show Below W0.heap.size W0 w2 by rw [hNN]; exact BE.out) b3
  have b3 := hid (below_to b0.out b3)
  clear hconv L3 BE hB b0 hNN
  simp only []
  go_upto_region 5 with (fail)
  skip
  obtain ⟨X, hX⟩ : ∃ b, w3.heap.size = b := ⟨_, rfl⟩
  have wX : W.heap.size ≤ X := by rw [← hX]; exact b3.out.size
  obtain ⟨w4, hw4⟩ : ∃ w4, w3.alloc (.cells (nine u) 35) = w4 := ⟨_, rfl⟩
  have kX := kept (show hget w4 (w3.heap.size) = some (.cells (nine u) 35) by rw [← hw4]; clear hw4; go_simp)
  have b4 : Hid (Below W.heap.size W w4) := by rw [← hw4]; repeat (first | exact Below.refl _ _ | exact below_new _ | exact b3.out | assumption | refine Below.drew ?_ | refine Below.drewN ?_ _ | refine below_alloc ?_ _ | refine below_blk' ?_ (by omega) _)
  rw [hw4]
  clear hw4
  try clear gX lX nX mX
  try clear jX
  have jX := kX.later
  obtain ⟨gX, lX, nX, mX⟩ := kX
  clear b3
  rw [hX] at *
  clear hX
  go_wp2_with fail
  try clear jX
  refine (K1.out _).mono ?_
  rintro e w5 ⟨rfl, hb5⟩
  have kX := Kept.on (kept (b := X) (o := .cells (nine u) 35 (0, 0)) (by go_simp)) hb5
  have b5 : Hid (Below W.heap.size W w5) := below_to (by repeat (first | exact Below.refl _ _ | exact below_new _ | exact b4.out | assumption | refine Below.drew ?_ | refine Below.drewN ?_ _ | refine below_alloc ?_ _ | refine below_blk' ?_ (by omega) _)) hb5
  clear hb5
  try clear gX lX nX mX
  obtain ⟨gX, lX, nX, mX⟩ := kX
  clear b4
  go_upto_region 6 with (fail)
  obtain ⟨P, hP⟩ : ∃ b, w5.heap.size = b := ⟨_, rfl⟩
  have wP : W.heap.size ≤ P := by rw [← hP]; exact b5.out.size
  have eXP : (X = P) = False := by rw [← hP]; exact nX
  have ePX : (P = X) = False := by rw [← hP]; exact mX
  obtain ⟨w6, hw6⟩ : ∃ w6, w5.alloc (.cells (rmp 1 0) 111) = w6 := ⟨_, rfl⟩
  have kX := kept (show hget w6 (X) = some (.cells (nine u) 35 (0, 0)) by rw [← hw6]; clear hw6; go_simp)
  have kP := kept (show hget w6 (w5.heap.size) = some (.cells (rmp 1 0) 111) by rw [← hw6]; clear hw6; go_simp)
  have b6 : Hid (Below W.heap.size W w6) := by rw [← hw6]; repeat (first | exact Below.refl _ _ | exact below_new _ | exact b5.out | assumption | refine Below.drew ?_ | refine Below.drewN ?_ _ | refine below_alloc ?_ _ | refine below_blk' ?_ (by omega) _)
  rw [hw6]
  clear hw6
  try clear gX lX nX mX
  try clear jX
  have jX := kX.later
  obtain ⟨gX, lX, nX, mX⟩ := kX
  try clear gP lP nP mP
  try clear jP
  have jP := kP.later
  obtain ⟨gP, lP, nP, mP⟩ := kP
  clear b5
  rw [hP] at *
  clear hP
  have vX : ∀ x_ : LaterV w6, hget x_.w' (X) = some (.cells (nine u) 35 (0, 0)) := laterx_get gX (by simp)
  have vP : ∀ x_ : LaterV w6, hget x_.w' (P) = some (.cells (rmp 1 0) 111 (0, 0)) := laterx_get gP (by simp)
  try clear jX jP
  refine wp_region_var [3] (fun _ => ⟨4, rmp 0 0, rmp u 1, 111⟩) [] (fun _ => ⟨0, #[], #[], 0⟩) (by kernel_rfl) (by kernel_rfl) (by kernel_rfl) (vsep_new (by kernel_rfl)) (fun e he => absurd he (by simp)) (fun hsep => ?_) (fun e he => absurd he (by simp))
  have HSEP := hid hsep
  clear hsep
  repeat (first | (refine wpV_plain0 HSEP.out (by kernel_rfl) (by rfl) (by rfl) (by kernel_rfl) (by kernel_rfl) (fun K hK => ?_); go_simp; refine hK _ ?_; clear hK K; try go_ints) | (refine wpV_plain0 HSEP.out (by kernel_rfl) (by rfl) (by rfl) (by kernel_rfl) (by kernel_rfl) (fun K hK => ?_); go_simp; (with_reducible refine ⟨_, fun x => K1.out _, hK _ ?_⟩); clear hK K; try go_ints) | (refine wpV_make0 HSEP.out (by kernel_rfl) (by rfl) rfl (by rfl) (by kernel_rfl) (by kernel_rfl) (fun K hK => ⟨fun x => (by first | (go_simp; done) | (go_simp; rfl)), hK _ ?_⟩); clear hK K; try go_ints) | (refine wpV_store0 3 (by rfl) (by rfl) HSEP.out (by rfl) rfl (by kernel_rfl) (fun K hK => ⟨fun g bk_ x cs hg hcs hx => (by clear hK HSEP; rcases hcs with hcs | hcs <;> (rw [hcs] at hx; clear hcs; simp only [over, dstOf, List.getElem?_toArray, List.getElem?_cons_succ, List.getElem?_cons_zero, Option.bind_some, hg]; go_simp; done)), hK _ ?_⟩); clear hK K; try go_ints))
  refine wpGho_nil ?_
  intro gL xL h0L hnL haL hlL
  clear h0L hlL HSEP
  obtain ⟨v3, e3, l3, h3⟩ := hnL 3 (by simp)
  try simp at h3
  simp only [over, dstOf, List.getElem?_toArray, List.getElem?_cons_succ, List.getElem?_cons_zero, Option.bind_some, e3]
  have hxb := laterV_below xL
  have fX := laterx_get gX (by simp) xL
  have fP := laterx_get gP (by simp) xL
  clear hnL haL e3 vX vP
  generalize xL.w' = w7 at *
  have b7 := hid (below_to b6.out hxb)
  have s6 := b6.out.size
  clear hxb b6 xL gL
  obtain ⟨Q, h_Q⟩ : ∃ n_, n_ = v3 := ⟨_, rfl⟩
  subst h_Q
  have wQ : W.heap.size ≤ Q := by omega
  have eXQ : (X = Q) = False := by simp; omega
  have eQX : (Q = X) = False := by simp; omega
  have ePQ : (P = Q) = False := by simp; omega
  have eQP : (Q = P) = False := by simp; omega
  clear l3
  clear gX lX nX mX
  clear gP lP nP mP
  obtain ⟨gX, lX, nX, mX⟩ := kept fX
  clear fX
  obtain ⟨gP, lP, nP, mP⟩ := kept fP
  clear fP
  obtain ⟨gQ, lQ, nQ, mQ⟩ := kept h3
  clear h3
  try simp only [Act.put, List.setIfInBounds_toArray, List.set_cons_zero, List.set_cons_succ]
  go_wp2_with fail
  clear O1 hlen hl3 K1
  have RB := hid (Rd.rounds_bd hu2 k)
  go_loopw [10] (fun i wr => ∃ j : Nat, ∃ t : Ld, j ≤ 255 ∧ i = .int .i64 (254 - (j : Int)) ∧ Rd.rounds u k j = t ∧ hget wr P = some (.cells (rmp t.lx t.lz) 111 (0, 0)) ∧ hget wr Q = some (.cells (rmp t.hx t.hz) 111 (0, 0)) ∧ hget wr X = some (.cells (nine u) 35 (0, 0)) ∧ Below W.heap.size W wr) (fun i _ => (intOf i + 1).toNat)
  case atStart => exact ⟨0, _, by omega, rfl, rfl, gP, gQ, gX, b7.out⟩
  case round =>
    clear b7 gP gQ gX lP nP mP lQ nQ mQ lX nX mX b3
    obtain ⟨j, t, hj, rfl, hq, fP, fQ, fX, hb3⟩ := hrel
    obtain ⟨w20, hw20⟩ : ∃ w20, w20 = wr := ⟨_, rfl⟩
    subst hw20
    have HQ := hid hq
    have b3 := hid hb3
    clear hq hb3
    by_cases hlt : j < 255
    · obtain ⟨m, hm⟩ : ∃ m : Nat, m = 254 - j := ⟨_, rfl⟩
      have hjm : j + m = 254 := by omega
      have hjI : (254 : Int) - (j : Int) = (m : Int) := by omega
      rw [hjI]
      have hge : decide ((0 : Int) ≤ (m : Int)) = true := decide_eq_true (by omega)
      have hi1 : 0 ≤ (m : Int) / 8 := by omega
      have hi2 : (m : Int) / 8 < 32 := by omega
      have hi3 : ((m : Int) / 8).toNat = m / 8 := by omega
      have hn1 : m / 8 < K.size := by omega
      have HM := hid hm
      have HJM := hid hjm
      clear hm hjm hjI
      have xn := cbit zS (j := m) (by have := HJM.out; omega) hn1
      rw [hk] at xn
      have yn := bitN_lt k m
      obtain ⟨x, hx⟩ : ∃ x, bitN k m = x := ⟨_, rfl⟩
      rw [hx] at xn yn
      have HX := hid hx
      clear hx
      have bt : Rd.bd t := HQ.out ▸ RB.out j
      have hw2 : IntKind.i64.wrap ((m : Int) - 1) = (m : Int) - 1 := IntWalk.i64_in _ (by have := HJM.out; omega)
      have hcnt : (m : Int) - 1 = 254 - ((j + 1 : Nat) : Int) := by have := HJM.out; omega
      have HCNT := hid hcnt
      clear hcnt
      have hnext : Rd.rounds u k (j + 1) = Rd.step u (decide (x = 1)) t := by
        show Rd.step u (decide (bitN k (254 - j) = 1)) (Rd.rounds u k j) = _
        rw [HQ.out, ← HM.out, HX.out]
      have SU := fun w => rsum_any t u w bt hu2
      have TL := fun w => rtwice_any t.lx t.lz w bt.lx bt.lz
      have TH := fun w => rtwice_any t.hx t.hz w bt.hx bt.hz
      unfold Rd.step at hnext
      generalize Rd.suX t = a at *
      generalize Rd.suZ u t = b at *
      generalize Rd.twX t.lx t.lz = c at *
      generalize Rd.twZ t.lx t.lz = d at *
      generalize Rd.twX t.hx t.hz = f at *
      generalize Rd.twZ t.hx t.hz = g at *
      have SU := hid SU
      have TL := hid TL
      have TH := hid TH
      have HNX := hid hnext
      clear hnext HX
      obtain ⟨gX, lX, nX, mX⟩ := kept (show hget w20 (X) = some (.cells (nine u) 35 (0, 0)) by first | assumption | go_simp)
      obtain ⟨gP, lP, nP, mP⟩ := kept (show hget w20 (P) = some (.cells (rmp t.lx t.lz) 111 (0, 0)) by first | assumption | go_simp)
      obtain ⟨gQ, lQ, nQ, mQ⟩ := kept (show hget w20 (Q) = some (.cells (rmp t.hx t.hz) 111 (0, 0)) by first | assumption | go_simp)
      clear fX fP fQ
      go_wp2_with fail
      try clear jX jP jQ
      refine (SU.out _).mono ?_
      rintro e w21 ⟨rfl, hb21⟩
      have kX := Kept.on (kept (b := X) (o := .cells (nine u) 35 (0, 0)) (by go_simp)) hb21
      have kP := Kept.on (kept (b := P) (o := .cells (rmp t.lx t.lz) 111 (0, 0)) (by go_simp)) hb21
      have kQ := Kept.on (kept (b := Q) (o := .cells (rmp t.hx t.hz) 111 (0, 0)) (by go_simp)) hb21
      have b21 : Hid (Below W.heap.size W w21) := below_to (by repeat (first | exact Below.refl _ _ | exact below_new _ | exact b3.out | assumption | refine Below.drew ?_ | refine Below.drewN ?_ _ | refine below_alloc ?_ _ | refine below_blk' ?_ (by omega) _)) hb21
      clear hb21
      try clear gX lX nX mX
      obtain ⟨gX, lX, nX, mX⟩ := kX
      try clear gP lP nP mP
      obtain ⟨gP, lP, nP, mP⟩ := kP
      try clear gQ lQ nQ mQ
      obtain ⟨gQ, lQ, nQ, mQ⟩ := kQ
      clear b3
      go_upto_region 11 with (fail)
      obtain ⟨T, hT⟩ : ∃ b, w21.heap.size = b := ⟨_, rfl⟩
      have wT : W.heap.size ≤ T := by rw [← hT]; exact b21.out.size
      have eXT : (X = T) = False := by rw [← hT]; exact nX
      have eTX : (T = X) = False := by rw [← hT]; exact mX
      have ePT : (P = T) = False := by rw [← hT]; exact nP
      have eTP : (T = P) = False := by rw [← hT]; exact mP
      have eQT : (Q = T) = False := by rw [← hT]; exact nQ
      have eTQ : (T = Q) = False := by rw [← hT]; exact mQ
      obtain ⟨w22, hw22⟩ : ∃ w22, w21.alloc (.cells (rmp a b) 111) = w22 := ⟨_, rfl⟩
      have kX := kept (show hget w22 (X) = some (.cells (nine u) 35 (0, 0)) by rw [← hw22]; clear hw22; go_simp)
      have kP := kept (show hget w22 (P) = some (.cells (rmp t.lx t.lz) 111 (0, 0)) by rw [← hw22]; clear hw22; go_simp)
      have kQ := kept (show hget w22 (Q) = some (.cells (rmp t.hx t.hz) 111 (0, 0)) by rw [← hw22]; clear hw22; go_simp)
      have kT := kept (show hget w22 (w21.heap.size) = some (.cells (rmp a b) 111) by rw [← hw22]; clear hw22; go_simp)
      have b22 : Hid (Below W.heap.size W w22) := by rw [← hw22]; repeat (first | exact Below.refl _ _ | exact below_new _ | exact b21.out | assumption | refine Below.drew ?_ | refine Below.drewN ?_ _ | refine below_alloc ?_ _ | refine below_blk' ?_ (by omega) _)
      rw [hw22]
      clear hw22
      try clear gX lX nX mX
      try clear jX
      have jX := kX.later
      obtain ⟨gX, lX, nX, mX⟩ := kX
      try clear gP lP nP mP
      try clear jP
      have jP := kP.later
      obtain ⟨gP, lP, nP, mP⟩ := kP
      try clear gQ lQ nQ mQ
      try clear jQ
      have jQ := kQ.later
      obtain ⟨gQ, lQ, nQ, mQ⟩ := kQ
      try clear gT lT nT mT
      try clear jT
      have jT := kT.later
      obtain ⟨gT, lT, nT, mT⟩ := kT
      clear b21
      rw [hT] at *
      clear hT
      obtain rfl | rfl : x = 0 ∨ x = 1 := by omega
      · have t1 : (((0 : Nat) : Int) == 1) = false := rfl
        skip
        go_wp2_with fail
        obtain ⟨w23, hw23⟩ : ∃ w23, blk w22 (Q) (.cells (rmp a b) 111 (0, 0)) = w23 := ⟨_, rfl⟩
        have kX := kept (show hget w23 (X) = some (.cells (nine u) 35 (0, 0)) by rw [← hw23]; clear hw23; go_simp)
        have kP := kept (show hget w23 (P) = some (.cells (rmp t.lx t.lz) 111 (0, 0)) by rw [← hw23]; clear hw23; go_simp)
        have kQ := kept (show hget w23 (Q) = some (.cells (rmp a b) 111 (0, 0)) by rw [← hw23]; clear hw23; go_simp)
        have kT := kept (show hget w23 (T) = some (.cells (rmp a b) 111 (0, 0)) by rw [← hw23]; clear hw23; go_simp)
        have b23 : Hid (Below W.heap.size W w23) := by rw [← hw23]; repeat (first | exact Below.refl _ _ | exact below_new _ | exact b22.out | assumption | refine Below.drew ?_ | refine Below.drewN ?_ _ | refine below_alloc ?_ _ | refine below_blk' ?_ (by omega) _)
        rw [hw23]
        clear hw23
        try clear gX lX nX mX
        try clear jX
        have jX := kX.later
        obtain ⟨gX, lX, nX, mX⟩ := kX
        try clear gP lP nP mP
        try clear jP
        have jP := kP.later
        obtain ⟨gP, lP, nP, mP⟩ := kP
        try clear gQ lQ nQ mQ
        try clear jQ
        have jQ := kQ.later
        obtain ⟨gQ, lQ, nQ, mQ⟩ := kQ
        try clear gT lT nT mT
        try clear jT
        have jT := kT.later
        obtain ⟨gT, lT, nT, mT⟩ := kT
        clear b22
        try clear jX jP jQ jT
        refine (TL.out _).mono ?_
        rintro e w24 ⟨rfl, hb24⟩
        have kX := Kept.on (kept (b := X) (o := .cells (nine u) 35 (0, 0)) (by go_simp)) hb24
        have kP := Kept.on (kept (b := P) (o := .cells (rmp t.lx t.lz) 111 (0, 0)) (by go_simp)) hb24
        have kQ := Kept.on (kept (b := Q) (o := .cells (rmp a b) 111 (0, 0)) (by go_simp)) hb24
        have kT := Kept.on (kept (b := T) (o := .cells (rmp a b) 111 (0, 0)) (by go_simp)) hb24
        have b24 : Hid (Below W.heap.size W w24) := below_to (by repeat (first | exact Below.refl _ _ | exact below_new _ | exact b23.out | assumption | refine Below.drew ?_ | refine Below.drewN ?_ _ | refine below_alloc ?_ _ | refine below_blk' ?_ (by omega) _)) hb24
        clear hb24
        try clear gX lX nX mX
        obtain ⟨gX, lX, nX, mX⟩ := kX
        try clear gP lP nP mP
        obtain ⟨gP, lP, nP, mP⟩ := kP
        try clear gQ lQ nQ mQ
        obtain ⟨gQ, lQ, nQ, mQ⟩ := kQ
        try clear gT lT nT mT
        obtain ⟨gT, lT, nT, mT⟩ := kT
        clear b23
        go_upto_region 9 with (fail)
        obtain ⟨w25, hw25⟩ : ∃ w25, blk w24 (P) (.cells (rmp c d) 111 (0, 0)) = w25 := ⟨_, rfl⟩
        have kX := kept (show hget w25 (X) = some (.cells (nine u) 35 (0, 0)) by rw [← hw25]; clear hw25; go_simp)
        have kP := kept (show hget w25 (P) = some (.cells (rmp c d) 111 (0, 0)) by rw [← hw25]; clear hw25; go_simp)
        have kQ := kept (show hget w25 (Q) = some (.cells (rmp a b) 111 (0, 0)) by rw [← hw25]; clear hw25; go_simp)
        have kT := kept (show hget w25 (T) = some (.cells (rmp a b) 111 (0, 0)) by rw [← hw25]; clear hw25; go_simp)
        have b25 : Hid (Below W.heap.size W w25) := by rw [← hw25]; repeat (first | exact Below.refl _ _ | exact below_new _ | exact b24.out | assumption | refine Below.drew ?_ | refine Below.drewN ?_ _ | refine below_alloc ?_ _ | refine below_blk' ?_ (by omega) _)
        rw [hw25]
        clear hw25
        try clear gX lX nX mX
        try clear jX
        have jX := kX.later
        obtain ⟨gX, lX, nX, mX⟩ := kX
        try clear gP lP nP mP
        try clear jP
        have jP := kP.later
        obtain ⟨gP, lP, nP, mP⟩ := kP
        try clear gQ lQ nQ mQ
        try clear jQ
        have jQ := kQ.later
        obtain ⟨gQ, lQ, nQ, mQ⟩ := kQ
        try clear gT lT nT mT
        try clear jT
        have jT := kT.later
        obtain ⟨gT, lT, nT, mT⟩ := kT
        clear b24
        go_wp2_with fail
        exact ⟨⟨j + 1, _, by omega, congrArg (Value.int .i64) HCNT.out, HNX.out, gP, gQ, gX, b25.out⟩, by first | (simp [intOf]; done) | (simp [intOf]; omega)⟩
      · have t1 : (((1 : Nat) : Int) == 1) = true := rfl
        skip
        go_wp2_with fail
        obtain ⟨w23, hw23⟩ : ∃ w23, blk w22 (P) (.cells (rmp a b) 111 (0, 0)) = w23 := ⟨_, rfl⟩
        have kX := kept (show hget w23 (X) = some (.cells (nine u) 35 (0, 0)) by rw [← hw23]; clear hw23; go_simp)
        have kP := kept (show hget w23 (P) = some (.cells (rmp a b) 111 (0, 0)) by rw [← hw23]; clear hw23; go_simp)
        have kQ := kept (show hget w23 (Q) = some (.cells (rmp t.hx t.hz) 111 (0, 0)) by rw [← hw23]; clear hw23; go_simp)
        have kT := kept (show hget w23 (T) = some (.cells (rmp a b) 111 (0, 0)) by rw [← hw23]; clear hw23; go_simp)
        have b23 : Hid (Below W.heap.size W w23) := by rw [← hw23]; repeat (first | exact Below.refl _ _ | exact below_new _ | exact b22.out | assumption | refine Below.drew ?_ | refine Below.drewN ?_ _ | refine below_alloc ?_ _ | refine below_blk' ?_ (by omega) _)
        rw [hw23]
        clear hw23
        try clear gX lX nX mX
        try clear jX
        have jX := kX.later
        obtain ⟨gX, lX, nX, mX⟩ := kX
        try clear gP lP nP mP
        try clear jP
        have jP := kP.later
        obtain ⟨gP, lP, nP, mP⟩ := kP
        try clear gQ lQ nQ mQ
        try clear jQ
        have jQ := kQ.later
        obtain ⟨gQ, lQ, nQ, mQ⟩ := kQ
        try clear gT lT nT mT
        try clear jT
        have jT := kT.later
        obtain ⟨gT, lT, nT, mT⟩ := kT
        clear b22
        try clear jX jP jQ jT
        refine (TH.out _).mono ?_
        rintro e w24 ⟨rfl, hb24⟩
        have kX := Kept.on (kept (b := X) (o := .cells (nine u) 35 (0, 0)) (by go_simp)) hb24
        have kP := Kept.on (kept (b := P) (o := .cells (rmp a b) 111 (0, 0)) (by go_simp)) hb24
        have kQ := Kept.on (kept (b := Q) (o := .cells (rmp t.hx t.hz) 111 (0, 0)) (by go_simp)) hb24
        have kT := Kept.on (kept (b := T) (o := .cells (rmp a b) 111 (0, 0)) (by go_simp)) hb24
        have b24 : Hid (Below W.heap.size W w24) := below_to (by repeat (first | exact Below.refl _ _ | exact below_new _ | exact b23.out | assumption | refine Below.drew ?_ | refine Below.drewN ?_ _ | refine below_alloc ?_ _ | refine below_blk' ?_ (by omega) _)) hb24
        clear hb24
        try clear gX lX nX mX
        obtain ⟨gX, lX, nX, mX⟩ := kX
        try clear gP lP nP mP
        obtain ⟨gP, lP, nP, mP⟩ := kP
        try clear gQ lQ nQ mQ
        obtain ⟨gQ, lQ, nQ, mQ⟩ := kQ
        try clear gT lT nT mT
        obtain ⟨gT, lT, nT, mT⟩ := kT
        clear b23
        go_upto_region 9 with (fail)
        obtain ⟨w25, hw25⟩ : ∃ w25, blk w24 (Q) (.cells (rmp f g) 111 (0, 0)) = w25 := ⟨_, rfl⟩
        have kX := kept (show hget w25 (X) = some (.cells (nine u) 35 (0, 0)) by rw [← hw25]; clear hw25; go_simp)
        have kP := kept (show hget w25 (P) = some (.cells (rmp a b) 111 (0, 0)) by rw [← hw25]; clear hw25; go_simp)
        have kQ := kept (show hget w25 (Q) = some (.cells (rmp f g) 111 (0, 0)) by rw [← hw25]; clear hw25; go_simp)
        have kT := kept (show hget w25 (T) = some (.cells (rmp a b) 111 (0, 0)) by rw [← hw25]; clear hw25; go_simp)
        have b25 : Hid (Below W.heap.size W w25) := by rw [← hw25]; repeat (first | exact Below.refl _ _ | exact below_new _ | exact b24.out | assumption | refine Below.drew ?_ | refine Below.drewN ?_ _ | refine below_alloc ?_ _ | refine below_blk' ?_ (by omega) _)
        rw [hw25]
        clear hw25
        try clear gX lX nX mX
        try clear jX
        have jX := kX.later
        obtain ⟨gX, lX, nX, mX⟩ := kX
        try clear gP lP nP mP
        try clear jP
        have jP := kP.later
        obtain ⟨gP, lP, nP, mP⟩ := kP
        try clear gQ lQ nQ mQ
        try clear jQ
        have jQ := kQ.later
        obtain ⟨gQ, lQ, nQ, mQ⟩ := kQ
        try clear gT lT nT mT
        try clear jT
        have jT := kT.later
        obtain ⟨gT, lT, nT, mT⟩ := kT
        clear b24
        go_wp2_with fail
        exact ⟨⟨j + 1, _, by omega, congrArg (Value.int .i64) HCNT.out, HNX.out, gP, gQ, gX, b25.out⟩, by first | (simp [intOf]; done) | (simp [intOf]; omega)⟩
    · obtain rfl : j = 255 := by omega
      have bt : Rd.bd t := HQ.out ▸ RB.out 255
      obtain ⟨v, hv⟩ : ∃ v, rInv t.lz = v := ⟨_, rfl⟩
      have bv : v < pP := hv ▸ rPow_lt _ _
      have I1 := hid (fun w => hv ▸ ref_Inv t.lz w bt.lz)
      have M1 := hid (fun w => rmul_v t.lx v w bt.lx bv)
      have E1 := hid (fun w => ref_Bytes (rm t.lx v) w (Nat.lt_trans (rm_lt _ _) (by decide)))
      have HV := hid hv
      clear hv
      go_upto_region 16 with (fail)
      have jP := Kept.later (kept fP)
      refine wp_region_later (by kernel_rfl) (by kernel_rfl) ?_
      repeat ((go_big_quiet_step ((first | (go_at_call 55; with_reducible exact calls_later (M1.out _)) | (go_at_call 59; with_reducible exact calls_later (I1.out _)) | (go_at_call 17; with_reducible exact calls_later (E1.out _))))))
      refine wpQuiet_nil ?_
      intro wL hwL
      obtain ⟨⟨w8, hL⟩, e8⟩ := hwL
      change wL = w8 at e8
      subst e8
      go_wp2_with fail
      go_ret
      refine ⟨?_, below_to b3.out hL⟩
      rw [show Rd.out u k = rm t.lx v by unfold Rd.out; rw [HQ.out, HV.out]]
      rfl

set_option maxRecDepth 100000 in
theorem rtimes8_any (sec s : ByteArray) (W : World) (h1 : sec.size = 32) (h32 : s.size = 32) :
    Calls Try.prog 41 #[.string sec, .string s] W fun r w' => r = .returned (.string (mul32 sec (dY s))) ∧ Below W.heap.size W w' := by
  have h := rtimes8_core sec s _ _ _ W h1 h32 rfl rfl rfl
  have e : Rd.out (dY s % pP) (bytesNat (clampL sec.data.toList)) = Ld.out (dY s) (bytesNat (clampL sec.data.toList)) % pP := by
    rw [rout_val (Nat.mod_lt _ (by decide)), out_val (dY_lt s), show pP = NT.P from rfl, fp_mod]
  rw [show bytesNat (⟨(clampL sec.data.toList).toArray⟩ : ByteArray).data.toList = bytesNat (clampL sec.data.toList) from rfl, e] at h
  exact h

end Go.Proofs.Ytceljjnohjnepaa

namespace Go.Proofs.Ytceljjnohjnepaa
open Go Go.RowKit DG

set_option maxRecDepth 100000 in
theorem zconv (n : Nat) (w : World) (b : Nat) (h : w.heap[b]? = some (.cells (ints .u8 (List.replicate n 0)) 5 (0, 0))) : (convert 32 9 (.slice (some ⟨b, 0, none⟩) n n)).run Try.prog w = .ok (.string ⟨(List.replicate n 0).toArray⟩) w := by
  have := oconv_string w b 0 n n (List.replicate n 0) (by simp) (fun j hj => by
    rw [Nat.zero_add, ints_cell h (by simpa using hj)]; simp [hj])
  exact this
set_option maxRecDepth 100000 in
theorem zc32 (w : World) : (convert 32 9 (.slice (some ⟨w.heap.size, 0, none⟩) 32 32)).run Try.prog (w.alloc (.cells (ints .u8 [0, 0, 0, 0, 0, 0, 0, 0, 0, 0, 0, 0, 0, 0, 0, 0, 0, 0, 0, 0, 0, 0, 0, 0, 0, 0, 0, 0, 0, 0, 0, 0]) 5)) = .ok (.string z32) (w.alloc (.cells (ints .u8 [0, 0, 0, 0, 0, 0, 0, 0, 0, 0, 0, 0, 0, 0, 0, 0, 0, 0, 0, 0, 0, 0, 0, 0, 0, 0, 0, 0, 0, 0, 0, 0]) 5)) := zconv 32 _ _ (alloc_at _ _)
def zs31 : ByteArray := ⟨(List.replicate 31 0).toArray⟩
set_option maxRecDepth 100000 in
theorem zc31 (w : World) : (convert 32 9 (.slice (some ⟨w.heap.size, 0, none⟩) 31 31)).run Try.prog (w.alloc (.cells (ints .u8 [0, 0, 0, 0, 0, 0, 0, 0, 0, 0, 0, 0, 0, 0, 0, 0, 0, 0, 0, 0, 0, 0, 0, 0, 0, 0, 0, 0, 0, 0, 0]) 5)) = .ok (.string zs31) (w.alloc (.cells (ints .u8 [0, 0, 0, 0, 0, 0, 0, 0, 0, 0, 0, 0, 0, 0, 0, 0, 0, 0, 0, 0, 0, 0, 0, 0, 0, 0, 0, 0, 0, 0, 0]) 5)) := zconv 31 _ _ (alloc_at _ _)
attribute [local go_sem] zc32 zc31
set_option maxRecDepth 100000 in
theorem rshared_no (sec s : ByteArray) (W : World) (h : ¬ (sec.size = 32 ∧ s.size = 32)) : Calls Try.prog 13 #[.string sec, .string s] W fun r w' => r = .returned (.tuple #[.string ⟨#[]⟩, .int .i64 2]) ∧ Below W.heap.size W w' := by
  go_enter Try.func13, Try.ntmps13
  by_cases h1 : sec.size = 32
  · have hn : ((sec.size : Int) != 32) = false := by rw [bne_eq_false_iff_eq]; omega
    have hm : ((s.size : Int) != 32) = true := by rw [bne_iff_ne]; omega
    clear h h1
    go_wp2_with fail
    go_ret2
    exact ⟨rfl, Below.refl _ _⟩
  · have hn : ((sec.size : Int) != 32) = true := by rw [bne_iff_ne]; omega
    clear h h1
    go_wp2_with fail
    go_ret2
    exact ⟨rfl, Below.refl _ _⟩
set_option maxRecDepth 100000 in
theorem rshared_core (sec s : ByteArray) (S : ByteArray) (V : Value) (W : World) (h1 : sec.size = 32) (h32 : s.size = 32) (hS : mul32 sec (dY s) = S) (hV : (if S = z32 then .tuple #[.string ⟨#[]⟩, .int .i64 80] else .tuple #[.string S, .int .i64 0]) = V) :
    Calls Try.prog 13 #[.string sec, .string s] W fun r w' => r = .returned V ∧ Below W.heap.size W w' := by
  have HV := hid hV
  have hn : ((sec.size : Int) != 32) = false := by rw [bne_eq_false_iff_eq]; omega
  have hm : ((s.size : Int) != 32) = false := by rw [bne_eq_false_iff_eq]; omega
  have T1 := hid (fun w => hS ▸ rtimes8_any sec s w h1 h32)
  clear hV hS h1 h32
  go_enter Try.func13, Try.ntmps13
  go_wp2_with fail
  refine (T1.out _).mono ?_
  rintro e w1 ⟨rfl, b1⟩
  simp only []
  clear hn hm
  by_cases hz : S = z32
  · have e1 : (S.toList == z32.toList) = true := by rw [hz, beq_self_eq_true]
    have HZ := hid hz
    clear hz
    go_wp2_with fail
    go_ret2
    exact ⟨by rw [← HV.out, if_pos HZ.out]; rfl, by repeat (first | exact Below.refl _ _ | exact below_new _ | assumption | refine Below.drew ?_ | refine Below.drewN ?_ _ | refine below_alloc ?_ _)⟩
  · have e1 : (S.toList == z32.toList) = false := by
      rw [beq_eq_false_iff_ne]
      intro h
      rw [toList_data, toList_data] at h
      exact hz (ba_ext h)
    have HZ := hid hz
    clear hz
    go_wp2_with fail
    go_ret2
    exact ⟨by rw [← HV.out, if_neg HZ.out]; rfl, by repeat (first | exact Below.refl _ _ | exact below_new _ | assumption | refine Below.drew ?_ | refine Below.drewN ?_ _ | refine below_alloc ?_ _)⟩
def secB (c : Nat) : ByteArray := zs31 ++ ⟨#[UInt8.ofNat c]⟩
set_option maxRecDepth 100000 in
set_option maxHeartbeats 1000000 in
theorem secret_any (c : Nat) (hc : c < 256) (W : World) : Calls Try.prog 38 #[.int .u8 (c : Int)] W fun r w' => r = .returned (.string (secB c)) ∧ Below W.heap.size W w' := by
  go_enter Try.func38, Try.ntmps38
  go_upto_region 1 with (fail)
  refine wp_region_gho [0, 3] (fun p u w => ∃ b, u = .slice (some ⟨b, 0, none⟩) (if p = 0 then 31 else 1) (if p = 0 then 31 else 1) ∧ w.heap[b]? = some (.cells (if p = 0 then ints .u8 [0, 0, 0, 0, 0, 0, 0, 0, 0, 0, 0, 0, 0, 0, 0, 0, 0, 0, 0, 0, 0, 0, 0, 0, 0, 0, 0, 0, 0, 0, 0] else #[.int .u8 (c : Int)]) 5 (0, 0))) (by kernel_rfl) (by kernel_rfl) (by kernel_rfl) (fun _ u w w' ⟨b, h1, h2⟩ hb => ⟨b, h1, keepB hb h2⟩) ?_
  repeat (first | (refine wpGho_plain (by kernel_rfl) (by decide) (by rfl) (by rfl) (fun K hK => ?_); go_simp; refine hK _ ?_; clear hK K; try go_ints))
  refine wpGho_make (by kernel_rfl) (by decide) (by rfl) (by rfl) (by rfl) (fun K hK => ?_)
  go_simp
  refine ⟨fun x => ⟨below_new _, _, rfl, (Array.getElem?_push_size ..).trans (congrArg some (by kernel_rfl))⟩, hK _ ?_⟩
  clear hK K
  refine wpGho_read (by decide) (by rfl) (fun K hK => ?_)
  refine ⟨.string zs31, fun g x hR => ?_, hK _ ?_⟩
  · obtain ⟨b8, hb8, hc8⟩ := hR 0 (by decide) (by kernel_rfl)
    rw [show ∀ a, over _ [0, 3] g a = Act.put (Act.put a (some 3) (g 0)) (some 6) (g 3) from fun _ => rfl, hb8]
    have cv := zconv 31 x.w' b8 hc8
    rw [show (⟨(List.replicate 31 0).toArray⟩ : ByteArray) = zs31 from rfl] at cv
    clear hR
    go_simp
    done
  clear hK K
  simp only [Act.put, List.setIfInBounds_toArray, List.set_cons_zero, List.set_cons_succ]
  repeat (first | (refine wpGho_plain (by kernel_rfl) (by decide) (by rfl) (by rfl) (fun K hK => ?_); go_simp; refine hK _ ?_; clear hK K; try go_ints))
  refine wpGho_make (by kernel_rfl) (by decide) (by rfl) (by rfl) (by rfl) (fun K hK => ?_)
  go_simp
  refine ⟨fun x => ⟨below_new _, _, rfl, alloc_at _ _⟩, hK _ ?_⟩
  clear hK K
  refine wpGho_read (by decide) (by rfl) (fun K hK => ?_)
  refine ⟨.string ⟨#[UInt8.ofNat c]⟩, fun g x hR => ?_, hK _ ?_⟩
  · obtain ⟨b8, hb8, hc8⟩ := hR 3 (by decide) (by kernel_rfl)
    rw [show ∀ a, over _ [0, 3] g a = Act.put (Act.put a (some 3) (g 0)) (some 6) (g 3) from fun _ => rfl, hb8]
    have cv := conv_byte c hc x.w' b8 (cell_at hc8 0)
    clear hR
    go_simp
    done
  clear hK K
  simp only [Act.put, List.setIfInBounds_toArray, List.set_cons_zero, List.set_cons_succ]
  have q1 : zs31.size = 31 := rfl
  have q2 : (⟨#[UInt8.ofNat c]⟩ : ByteArray).size = 1 := rfl
  repeat (first | (refine wpGho_plain (by kernel_rfl) (by decide) (by rfl) (by rfl) (fun K hK => ?_); go_simp; refine hK _ ?_; clear hK K; try go_ints))
  refine wpGho_nil ?_
  intro g wM hwM hR
  obtain ⟨⟨w9, hM⟩, e9⟩ := hwM
  change wM = w9 at e9
  subst e9
  obtain ⟨b8, hb8, _⟩ := hR 0 (by decide)
  obtain ⟨b9, hb9, _⟩ := hR 3 (by decide)
  rw [show ∀ a, over _ [0, 3] g a = Act.put (Act.put a (some 3) (g 0)) (some 6) (g 3) from fun _ => rfl, hb8, hb9]
  simp only [Act.put, List.setIfInBounds_toArray, List.set_cons_zero, List.set_cons_succ]
  clear hb8 hb9 hR
  go_wp2_with fail
  go_ret
  exact ⟨rfl, hM⟩
set_option maxRecDepth 100000 in
theorem rshared_any (sec s : ByteArray) (W : World) : Calls Try.prog 13 #[.string sec, .string s] W fun r w' => r = .returned (.tuple #[.string (sharedS sec s), .int .i64 (sharedE sec s)]) ∧ Below W.heap.size W w' := by
  unfold sharedS sharedE
  by_cases h : sec.size = 32 ∧ s.size = 32
  · rw [if_pos h, if_pos h]
    refine (rshared_core sec s _ _ W h.1 h.2 rfl rfl).mono ?_
    rintro r w' ⟨rfl, hb⟩
    refine ⟨?_, hb⟩
    by_cases hz : mul32 sec (dY s) = z32
    · rw [if_pos hz, if_pos hz, if_pos hz]
    · rw [if_neg hz, if_neg hz, if_neg hz]
  · rw [if_neg h, if_neg h]
    exact rshared_no sec s W h
/-- A secret's public key: the text, and the error. -/
def publicS (sec : ByteArray) : ByteArray := if sec.size = 32 then mul32 sec 9 else ⟨#[]⟩
def publicE (sec : ByteArray) : Int := if sec.size = 32 then 0 else 2
set_option maxRecDepth 100000 in
theorem public_any (sec : ByteArray) (W : World) : Calls Try.prog 14 #[.string sec] W fun r w' => r = .returned (.tuple #[.string (publicS sec), .int .i64 (publicE sec)]) ∧ Below W.heap.size W w' := by
  unfold publicS publicE
  by_cases h : sec.size = 32
  · rw [if_pos h, if_pos h]; exact public_yes sec W h
  · rw [if_neg h, if_neg h]; exact public_no sec W h
set_option maxRecDepth 100000 in
theorem mmake31 (w : World) : (Instr.makeSlice 32 (.int .i64 31) (.int .i64 31)).run Try.prog w = .ok (.slice (some ⟨w.heap.size, 0, none⟩) 31 31) (w.alloc (.cells (ints .u8 (List.replicate 31 0)) 5)) := by kernel_rfl
attribute [local go_sem] mmake31
def nineB : ByteArray := ⟨#[9]⟩ ++ zs31
set_option maxRecDepth 100000 in
theorem nineB_dY : dY nineB = 9 := by decide +kernel
set_option maxRecDepth 100000 in
theorem rpublic_any (sec : ByteArray) (W : World) : Calls Try.prog 15 #[.string sec] W fun r w' => r = .returned (.tuple #[.string (publicS sec), .int .i64 (publicE sec)]) ∧ Below W.heap.size W w' := by
  unfold publicS publicE
  by_cases h : sec.size = 32
  · rw [if_pos h, if_pos h]
    have hn : ((sec.size : Int) != 32) = false := by rw [bne_eq_false_iff_eq]; omega
    have T1 : Hid (∀ w, Calls Try.prog 41 #[.string sec, .string (⟨#[9]⟩ ++ zs31)] w fun r w' => r = .returned (.string (mul32 sec 9)) ∧ Below w.heap.size w w') := hid (fun w => nineB_dY ▸ rtimes8_any sec nineB w h (by rfl))
    generalize mul32 sec 9 = S at *
    have q1 : zs31.size = 31 := rfl
    clear h
    go_enter Try.func15, Try.ntmps15
    go_wp2_with fail
    refine (T1.out _).mono ?_
    rintro e w2 ⟨rfl, b2⟩
    have b3 : Below W.heap.size W w2 := below_to (below_new _) b2
    clear b2 T1
    simp only []
    go_wp2_with fail
    go_ret2
    exact ⟨rfl, b3⟩
  · rw [if_neg h, if_neg h]
    have hn : ((sec.size : Int) != 32) = true := by rw [bne_iff_ne]; omega
    clear h
    go_enter Try.func15, Try.ntmps15
    go_wp2_with fail
    go_ret2
    exact ⟨rfl, Below.refl _ _⟩

end Go.Proofs.Ytceljjnohjnepaa

namespace Go.Proofs.Ytceljjnohjnepaa.NT

set_option maxRecDepth 100000 in
theorem p11 : Prime 11 := prime_small (by decide +kernel)
set_option maxRecDepth 100000 in
theorem p34123 : Prime 34123 := prime_of (g := 2) (fs := [2, 3, 11, 11, 47]) (by decide +kernel) (by
  intro q hq
  simp only [List.mem_cons, List.not_mem_nil, or_false] at hq
  rcases hq with rfl | rfl | rfl | rfl | rfl
  · exact p2
  · exact p3
  · exact p11
  · exact p11
  · exact p47)
set_option maxRecDepth 100000 in
theorem p409477 : Prime 409477 := prime_of (g := 2) (fs := [2, 2, 3, 34123]) (by decide +kernel) (by
  intro q hq
  simp only [List.mem_cons, List.not_mem_nil, or_false] at hq
  rcases hq with rfl | rfl | rfl | rfl
  · exact p2
  · exact p2
  · exact p3
  · exact p34123)
set_option maxRecDepth 100000 in
theorem p14741173 : Prime 14741173 := prime_of (g := 2) (fs := [2, 2, 3, 3, 409477]) (by decide +kernel) (by
  intro q hq
  simp only [List.mem_cons, List.not_mem_nil, or_false] at hq
  rcases hq with rfl | rfl | rfl | rfl | rfl
  · exact p2
  · exact p2
  · exact p3
  · exact p3
  · exact p409477)
set_option maxRecDepth 100000 in
theorem p58964693 : Prime 58964693 := prime_of (g := 2) (fs := [2, 2, 14741173]) (by decide +kernel) (by
  intro q hq
  simp only [List.mem_cons, List.not_mem_nil, or_false] at hq
  rcases hq with rfl | rfl | rfl
  · exact p2
  · exact p2
  · exact p14741173)
set_option maxRecDepth 100000 in
theorem p30703 : Prime 30703 := prime_of (g := 3) (fs := [2, 3, 7, 17, 43]) (by decide +kernel) (by
  intro q hq
  simp only [List.mem_cons, List.not_mem_nil, or_false] at hq
  rcases hq with rfl | rfl | rfl | rfl | rfl
  · exact p2
  · exact p3
  · exact p7
  · exact p17
  · exact p43)
set_option maxRecDepth 100000 in
theorem p79 : Prime 79 := prime_small (by decide +kernel)
set_option maxRecDepth 100000 in
theorem p41081 : Prime 41081 := prime_of (g := 3) (fs := [2, 2, 2, 5, 13, 79]) (by decide +kernel) (by
  intro q hq
  simp only [List.mem_cons, List.not_mem_nil, or_false] at hq
  rcases hq with rfl | rfl | rfl | rfl | rfl | rfl
  · exact p2
  · exact p2
  · exact p2
  · exact p5
  · exact p13
  · exact p79)
set_option maxRecDepth 100000 in
theorem p82163 : Prime 82163 := prime_of (g := 2) (fs := [2, 41081]) (by decide +kernel) (by
  intro q hq
  simp only [List.mem_cons, List.not_mem_nil, or_false] at hq
  rcases hq with rfl | rfl
  · exact p2
  · exact p41081)
set_option maxRecDepth 100000 in
theorem p67 : Prime 67 := prime_small (by decide +kernel)
set_option maxRecDepth 100000 in
theorem p22111 : Prime 22111 := prime_of (g := 6) (fs := [2, 3, 5, 11, 67]) (by decide +kernel) (by
  intro q hq
  simp only [List.mem_cons, List.not_mem_nil, or_false] at hq
  rcases hq with rfl | rfl | rfl | rfl | rfl
  · exact p2
  · exact p3
  · exact p5
  · exact p11
  · exact p67)
set_option maxRecDepth 100000 in
theorem p132667 : Prime 132667 := prime_of (g := 5) (fs := [2, 3, 22111]) (by decide +kernel) (by
  intro q hq
  simp only [List.mem_cons, List.not_mem_nil, or_false] at hq
  rcases hq with rfl | rfl | rfl
  · exact p2
  · exact p3
  · exact p22111)
set_option maxRecDepth 100000 in
theorem p17231 : Prime 17231 := prime_of (g := 13) (fs := [2, 5, 1723]) (by decide +kernel) (by
  intro q hq
  simp only [List.mem_cons, List.not_mem_nil, or_false] at hq
  rcases hq with rfl | rfl | rfl
  · exact p2
  · exact p5
  · exact p1723)
set_option maxRecDepth 100000 in
theorem p137849 : Prime 137849 := prime_of (g := 3) (fs := [2, 2, 2, 17231]) (by decide +kernel) (by
  intro q hq
  simp only [List.mem_cons, List.not_mem_nil, or_false] at hq
  rcases hq with rfl | rfl | rfl | rfl
  · exact p2
  · exact p2
  · exact p2
  · exact p17231)
set_option maxRecDepth 100000 in
theorem p3044861653679985063343 : Prime 3044861653679985063343 := prime_of (g := 5) (fs := [2, 3, 11, 30703, 82163, 132667, 137849]) (by decide +kernel) (by
  intro q hq
  simp only [List.mem_cons, List.not_mem_nil, or_false] at hq
  rcases hq with rfl | rfl | rfl | rfl | rfl | rfl | rfl
  · exact p2
  · exact p3
  · exact p11
  · exact p30703
  · exact p82163
  · exact p132667
  · exact p137849)
set_option maxRecDepth 100000 in
theorem p198211423230930754013084525763697 : Prime 198211423230930754013084525763697 := prime_of (g := 5) (fs := [2, 2, 2, 2, 3, 23, 58964693, 3044861653679985063343]) (by decide +kernel) (by
  intro q hq
  simp only [List.mem_cons, List.not_mem_nil, or_false] at hq
  rcases hq with rfl | rfl | rfl | rfl | rfl | rfl | rfl | rfl
  · exact p2
  · exact p2
  · exact p2
  · exact p2
  · exact p3
  · exact p23
  · exact p58964693
  · exact p3044861653679985063343)
set_option maxRecDepth 100000 in
theorem p269 : Prime 269 := prime_small (by decide +kernel)
set_option maxRecDepth 100000 in
theorem p73 : Prime 73 := prime_small (by decide +kernel)
set_option maxRecDepth 100000 in
theorem p307 : Prime 307 := prime_small (by decide +kernel)
set_option maxRecDepth 100000 in
theorem p5879 : Prime 5879 := prime_small (by decide +kernel)
set_option maxRecDepth 100000 in
theorem p292386187 : Prime 292386187 := prime_of (g := 2) (fs := [2, 3, 3, 3, 3, 307, 5879]) (by decide +kernel) (by
  intro q hq
  simp only [List.mem_cons, List.not_mem_nil, or_false] at hq
  rcases hq with rfl | rfl | rfl | rfl | rfl | rfl | rfl
  · exact p2
  · exact p3
  · exact p3
  · exact p3
  · exact p3
  · exact p307
  · exact p5879)
set_option maxRecDepth 100000 in
theorem p213441916511 : Prime 213441916511 := prime_of (g := 13) (fs := [2, 5, 73, 292386187]) (by decide +kernel) (by
  intro q hq
  simp only [List.mem_cons, List.not_mem_nil, or_false] at hq
  rcases hq with rfl | rfl | rfl | rfl
  · exact p2
  · exact p5
  · exact p73
  · exact p292386187)
set_option maxRecDepth 100000 in
theorem p1361 : Prime 1361 := prime_small (by decide +kernel)
set_option maxRecDepth 100000 in
theorem p2851 : Prime 2851 := prime_small (by decide +kernel)
set_option maxRecDepth 100000 in
theorem p3797 : Prime 3797 := prime_small (by decide +kernel)
set_option maxRecDepth 100000 in
theorem p531581 : Prime 531581 := prime_of (g := 2) (fs := [2, 2, 5, 7, 3797]) (by decide +kernel) (by
  intro q hq
  simp only [List.mem_cons, List.not_mem_nil, or_false] at hq
  rcases hq with rfl | rfl | rfl | rfl | rfl
  · exact p2
  · exact p2
  · exact p5
  · exact p7
  · exact p3797)
set_option maxRecDepth 100000 in
theorem p2551 : Prime 2551 := prime_small (by decide +kernel)
set_option maxRecDepth 100000 in
theorem p1224481 : Prime 1224481 := prime_of (g := 13) (fs := [2, 2, 2, 2, 2, 3, 5, 2551]) (by decide +kernel) (by
  intro q hq
  simp only [List.mem_cons, List.not_mem_nil, or_false] at hq
  rcases hq with rfl | rfl | rfl | rfl | rfl | rfl | rfl | rfl
  · exact p2
  · exact p2
  · exact p2
  · exact p2
  · exact p2
  · exact p3
  · exact p5
  · exact p2551)
set_option maxRecDepth 100000 in
theorem p1257559732178653 : Prime 1257559732178653 := prime_of (g := 2) (fs := [2, 2, 3, 7, 23, 531581, 1224481]) (by decide +kernel) (by
  intro q hq
  simp only [List.mem_cons, List.not_mem_nil, or_false] at hq
  rcases hq with rfl | rfl | rfl | rfl | rfl | rfl | rfl
  · exact p2
  · exact p2
  · exact p3
  · exact p7
  · exact p23
  · exact p531581
  · exact p1224481)
set_option maxRecDepth 100000 in
theorem p4434155615661930479 : Prime 4434155615661930479 := prime_of (g := 17) (fs := [2, 41, 43, 1257559732178653]) (by decide +kernel) (by
  intro q hq
  simp only [List.mem_cons, List.not_mem_nil, or_false] at hq
  rcases hq with rfl | rfl | rfl | rfl
  · exact p2
  · exact p41
  · exact p43
  · exact p1257559732178653)
set_option maxRecDepth 100000 in
theorem p172054593956031949258510691 : Prime 172054593956031949258510691 := prime_of (g := 2) (fs := [2, 5, 1361, 2851, 4434155615661930479]) (by decide +kernel) (by
  intro q hq
  simp only [List.mem_cons, List.not_mem_nil, or_false] at hq
  rcases hq with rfl | rfl | rfl | rfl | rfl
  · exact p2
  · exact p5
  · exact p1361
  · exact p2851
  · exact p4434155615661930479)
set_option maxRecDepth 100000 in
theorem p19757330305831588566944191468367130476339 : Prime 19757330305831588566944191468367130476339 := prime_of (g := 2) (fs := [2, 269, 213441916511, 172054593956031949258510691]) (by decide +kernel) (by
  intro q hq
  simp only [List.mem_cons, List.not_mem_nil, or_false] at hq
  rcases hq with rfl | rfl | rfl | rfl
  · exact p2
  · exact p269
  · exact p213441916511
  · exact p172054593956031949258510691)
set_option maxRecDepth 100000 in
theorem p276602624281642239937218680557139826668747 : Prime 276602624281642239937218680557139826668747 := prime_of (g := 2) (fs := [2, 7, 19757330305831588566944191468367130476339]) (by decide +kernel) (by
  intro q hq
  simp only [List.mem_cons, List.not_mem_nil, or_false] at hq
  rcases hq with rfl | rfl | rfl
  · exact p2
  · exact p7
  · exact p19757330305831588566944191468367130476339)
set_option maxRecDepth 100000 in
theorem p7237005577332262213973186563042994240857116359379907606001950938285454250989 : Prime 7237005577332262213973186563042994240857116359379907606001950938285454250989 := prime_of (g := 2) (fs := [2, 2, 3, 11, 198211423230930754013084525763697, 276602624281642239937218680557139826668747]) (by decide +kernel) (by
  intro q hq
  simp only [List.mem_cons, List.not_mem_nil, or_false] at hq
  rcases hq with rfl | rfl | rfl | rfl | rfl | rfl
  · exact p2
  · exact p2
  · exact p3
  · exact p11
  · exact p198211423230930754013084525763697
  · exact p276602624281642239937218680557139826668747)
def ordP : Nat := 7237005577332262213973186563042994240857116359379907606001950938285454250989
set_option maxRecDepth 100000 in
theorem ord_prime : Prime ordP := p7237005577332262213973186563042994240857116359379907606001950938285454250989

end Go.Proofs.Ytceljjnohjnepaa.NT

namespace Go.Proofs.Ytceljjnohjnepaa
open EG DG NT

/-- What a clamped secret is. -/
def ck (sec : ByteArray) : Nat := bytesNat (clampL sec.data.toList)
set_option maxRecDepth 100000 in
theorem mod8 (x : Nat) : x &&& 248 = x % 256 / 8 * 8 := by
  have : ∀ x : Nat, x < 256 → x &&& 248 = x / 8 * 8 := by decide
  have h1 : x &&& 248 = (x % 256) &&& 248 := by
    refine Nat.eq_of_testBit_eq fun i => ?_
    rw [Nat.testBit_and, Nat.testBit_and, show 256 = 2 ^ 8 from rfl, Nat.testBit_mod_two_pow]
    by_cases hi : i < 8
    · simp [hi]
    · have h2 : Nat.testBit 248 i = false := Nat.testBit_lt_two_pow (Nat.lt_of_lt_of_le (by decide : 248 < 2 ^ 8) (Nat.pow_le_pow_right (by decide) (by omega)))
      simp [h2]
  rw [h1]
  exact this _ (Nat.mod_lt _ (by decide))
set_option maxRecDepth 100000 in
theorem bytesNat_cons (x : UInt8) (l : List UInt8) : bytesNat (x :: l) = x.toNat + 256 * bytesNat l := by
  unfold bytesNat
  rw [List.map_cons]
  rfl
set_option maxRecDepth 100000 in
theorem ck_facts {sec : ByteArray} (h : sec.size = 32) : ck sec < 2 ^ 255 ∧ 2 ^ 254 ≤ ck sec ∧ 8 ∣ ck sec := by
  have hl : sec.data.toList.length = 32 := by simpa using h
  unfold ck clampL
  generalize sec.data.toList = l at *
  have h1 : ((l.set 0 (l.getD 0 0 &&& 248)).set 31 ((l.getD 31 0 &&& 127) ||| 64)).length = 32 := by simp [hl]
  have h2 := split_nat _ h1
  have h3 := low_lt ((l.set 0 (l.getD 0 0 &&& 248)).set 31 ((l.getD 31 0 &&& 127) ||| 64))
  have hg : ((l.set 0 (l.getD 0 0 &&& 248)).set 31 ((l.getD 31 0 &&& 127) ||| 64))[31]'(by omega) = (l.getD 31 0 &&& 127) ||| 64 := by
    rw [List.getElem_set_self]
  rw [hg] at h2
  have hor : ∀ n : Nat, n < 256 → ((n &&& 127) ||| 64) < 128 ∧ 64 ≤ ((n &&& 127) ||| 64) := by decide
  have h4 := hor (l.getD 31 0).toNat (UInt8.toNat_lt _)
  have h5 : ((l.getD 31 0 &&& 127) ||| 64).toNat = ((l.getD 31 0).toNat &&& 127) ||| 64 := by rw [UInt8.toNat_or, UInt8.toNat_and]; rfl
  rw [h5] at h2
  refine ⟨?_, ?_, ?_⟩
  · rw [h2]
    generalize bytesNat (List.take 31 _) = lo at *
    generalize ((l.getD 31 0).toNat &&& 127) ||| 64 = x at *
    clear h2 h5 hor
    rw [show (2 : Nat) ^ 255 = 128 * t248 by decide]
    unfold t248 at *
    omega
  · rw [h2]
    generalize bytesNat (List.take 31 _) = lo at *
    generalize ((l.getD 31 0).toNat &&& 127) ||| 64 = x at *
    clear h2 h5 hor
    rw [show (2 : Nat) ^ 254 = 64 * t248 by decide]
    unfold t248 at *
    omega
  · match l, hl with
    | a :: r, hr =>
      rw [List.getD_cons_zero, List.set_cons_zero, show (31 : Nat) = 30 + 1 from rfl, List.set_cons_succ, bytesNat_cons]
      refine Nat.dvd_add ?_ (Nat.dvd_trans (by decide : 8 ∣ 256) (Nat.dvd_mul_right _ _))
      have : (a &&& 248).toNat = a.toNat % 256 / 8 * 8 := by rw [UInt8.toNat_and, ← mod8]; rfl
      rw [this]
      exact Nat.dvd_mul_left _ _
set_option maxRecDepth 100000 in
theorem oL_prime : Prime oL := ord_prime
set_option maxRecDepth 100000 in
theorem ck_cop {sec : ByteArray} (h : sec.size = 32) : ¬ oL ∣ ck sec := by
  obtain ⟨h1, h2, h3⟩ := ck_facts h
  generalize ck sec = k at *
  intro hd
  have hc : Nat.Coprime 8 oL := by decide +kernel
  have h4 : 8 * oL ∣ k := Nat.Coprime.mul_dvd_of_dvd_of_dvd hc h3 hd
  obtain ⟨m, hm⟩ := h4
  have h6 : 2 ^ 255 < 8 * oL := by decide +kernel
  have h7 : (2 : Nat) ^ 254 ≠ 0 := by decide +kernel
  rcases Nat.eq_zero_or_pos m with h0 | h0
  · subst h0; omega
  · have : 8 * oL ≤ 8 * oL * m := Nat.le_mul_of_pos_right _ h0
    omega
set_option maxRecDepth 100000 in
/-- A multiple of the base point that is the zero point, is one by the order. -/
theorem mul_zero_dvd {n : Nat} (h : Pt.mul n bP = Pt.zero) : oL ∣ n := by
  apply Decidable.byContradiction
  intro hn
  have hg : Nat.gcd oL n = 1 := oL_prime.coprime hn
  have key : ∀ a b : Nat, Pt.mul a bP = Pt.zero → Pt.mul b bP = Pt.zero → Pt.mul (Nat.gcd a b) bP = Pt.zero := by
    intro a b
    induction a, b using Nat.gcd.induction with
    | H0 b => intro _ h2; rw [Nat.gcd_zero_left]; exact h2
    | H1 a b ha ih =>
      intro h1 h2
      rw [Nat.gcd_rec]
      refine ih ?_ h1
      rw [Pt.mul_mod a bP h1]
      exact h2
  have h1 := key oL n base_order h
  rw [hg, Pt.mul_one] at h1
  have := congrArg (fun q : Pt cv => q.x.val) h1
  revert this
  decide +kernel
set_option maxRecDepth 100000 in
/-- A multiple that is not the zero point: its first coordinate is a number that is not nought. -/
theorem y_ne {p : Pt cv} (h : p ≠ Pt.zero) : 1 - p.y ≠ 0 := by
  intro h0
  have hy : p.y = 1 := by grind
  have on := p.on
  unfold onC at on
  rw [hy] at on
  refine h (Pt.ext' ?_ hy)
  have hd := Crv.den_ne cv (1 : FP)
  have e : p.x * p.x * (1 * 1 * cv.D + 1) = 0 := by grind
  rcases cv.mul_zero e with h1 | h1
  · rcases cv.mul_zero h1 with h2 | h2 <;> exact h2
  · exact absurd h1 hd
set_option maxRecDepth 100000 in
theorem ring0 {P : Nat} [NeZero P] (m : Fin P) : (1 + m) * 0 = 0 * -1 + -1 * 0 := by grind
set_option maxRecDepth 100000 in
theorem u_ne {n : Nat} (h : ¬ oL ∣ n) : uOf (Pt.mul n bP) ≠ 0 := by
  intro h0
  have hz : Pt.mul n bP ≠ Pt.zero := fun e => h (mul_zero_dvd e)
  have hy := y_ne hz
  unfold uOf at h0
  rcases cv.mul_zero h0 with h1 | h1
  · have hy1 : (Pt.mul n bP).y = -1 := by grind
    have h2 : (Pt.mul n bP).add (Pt.mul n bP) = Pt.zero := by
      refine Pt.add_unique _ _ _ ?_ ?_
      · show _ * (0 : FP) = _
        have on := (Pt.mul n bP).on
        unfold onC at on
        rw [hy1] at on ⊢
        have hd := Crv.den_ne cv (1 : FP)
        have e : (Pt.mul n bP).x * (Pt.mul n bP).x * (1 * 1 * cv.D + 1) = 0 := by grind
        have hx : (Pt.mul n bP).x = 0 := by
          rcases cv.mul_zero e with h1 | h1
          · rcases cv.mul_zero h1 with h2 | h2 <;> exact h2
          · exact absurd h1 hd
        rw [hx]
        exact ring0 _
      · show _ * (1 : FP) = _
        have on := (Pt.mul n bP).on
        unfold onC at on
        unfold Pt.m
        rw [hy1] at on ⊢
        have hd := Crv.den_ne cv (1 : FP)
        have e : (Pt.mul n bP).x * (Pt.mul n bP).x * (1 * 1 * cv.D + 1) = 0 := by grind
        have hx : (Pt.mul n bP).x = 0 := by
          rcases cv.mul_zero e with h1 | h1
          · rcases cv.mul_zero h1 with h2 | h2 <;> exact h2
          · exact absurd h1 hd
        rw [hx]; grind
    rw [← Pt.mul_add] at h2
    have h3 := mul_zero_dvd h2
    have h4 : oL ∣ 2 * n := by rw [Nat.two_mul]; exact h3
    rcases oL_prime.dvd_mul h4 with h5 | h5
    · revert h5; decide +kernel
    · exact h h5
  · have := cv.hinv _ hy
    rw [h1] at this
    exact cv.one (by grind)
set_option maxRecDepth 100000 in
theorem lad_u {n : Nat} (h : ¬ oL ∣ n) : Lad (uOf (Pt.mul n bP)) 1 (Pt.mul n bP) := Lad.of_u (y_ne fun e => h (mul_zero_dvd e))
set_option maxRecDepth 100000 in
theorem u_base : uOf bP = fp 9 := by
  unfold uOf
  rw [cvinv]
  have h : (1 - bP.y) * fp 9 = 1 + bP.y := by
    apply Fin.ext
    decide +kernel
  have hy : 1 - bP.y ≠ 0 := by
    intro h0
    have := congrArg Fin.val h0
    revert this
    decide +kernel
  have hv := finv_mul _ hy
  rw [← h]
  generalize finv (1 - bP.y) = v at *
  generalize fp 9 = n at *
  generalize 1 - bP.y = a at *
  clear h hy
  grind
set_option maxRecDepth 100000 in
theorem oL_one : ¬ oL ∣ 1 := by decide +kernel
set_option maxRecDepth 100000 in
/-- What a clamped secret makes of a multiple. -/
theorem fout_mul {n k : Nat} (hn : ¬ oL ∣ n) (hk : k < 2 ^ 255) : fout (uOf (Pt.mul n bP)) k = uOf (Pt.mul (k * n) bP) := by
  rw [fout_u (lad_u hn) (u_ne hn) hk, Pt.mul_mul]
set_option maxRecDepth 100000 in
theorem fout_base {k : Nat} (hk : k < 2 ^ 255) : fout (fp 9) k = uOf (Pt.mul k bP) := by
  have := fout_mul oL_one hk
  rw [Pt.mul_one, u_base, Nat.mul_one] at this
  exact this
/-- A number's bytes. -/
def fB32 (x : FP) : ByteArray := encB x.val false
set_option maxRecDepth 100000 in
theorem dY_fB (x : FP) : dY (fB32 x) = x.val := by
  unfold dY fB32
  have hx : x.val < t255 := Nat.lt_trans x.isLt pP_255
  rw [enc_nat hx]
  show (x.val + 0) % t255 = x.val
  rw [Nat.add_zero, Nat.mod_eq_of_lt hx]
set_option maxRecDepth 100000 in
theorem mul32_f (sec : ByteArray) {u : Nat} (hu : u < p2) : mul32 sec u = fB32 (fout (fp u) (ck sec)) := by
  unfold mul32 fB32
  rw [out_val hu]
  rfl
set_option maxRecDepth 100000 in
theorem fB_z32 (x : FP) : fB32 x = z32 ↔ x = 0 := by
  constructor
  · intro h
    have h1 := dY_fB x
    rw [h] at h1
    apply Fin.ext
    rw [← h1]
    decide +kernel
  · rintro rfl
    decide +kernel
set_option maxRecDepth 100000 in
/-- A public key, and what is made of one. -/
theorem public_u {sec : ByteArray} (h : sec.size = 32) : mul32 sec 9 = fB32 (uOf (Pt.mul (ck sec) bP)) := by
  rw [mul32_f sec (by decide), fout_base (ck_facts h).1]
set_option maxRecDepth 100000 in
theorem shared_u {sec : ByteArray} {n : Nat} (h : sec.size = 32) (hn : ¬ oL ∣ n) : mul32 sec (dY (fB32 (uOf (Pt.mul n bP)))) = fB32 (uOf (Pt.mul (ck sec * n) bP)) := by
  rw [mul32_f sec (dY_lt _), dY_fB, fp_of, fout_mul hn (ck_facts h).1]
set_option maxRecDepth 100000 in
theorem dvd_no {a b : Nat} (ha : ¬ oL ∣ a) (hb : ¬ oL ∣ b) : ¬ oL ∣ a * b := fun h => (oL_prime.dvd_mul h).elim ha hb
set_option maxRecDepth 100000 in
theorem sharedS_u {sec : ByteArray} {n : Nat} (h : sec.size = 32) (hn : ¬ oL ∣ n) : sharedS sec (fB32 (uOf (Pt.mul n bP))) = fB32 (uOf (Pt.mul (ck sec * n) bP)) ∧ sharedE sec (fB32 (uOf (Pt.mul n bP))) = 0 := by
  have h2 : (fB32 (uOf (Pt.mul n bP))).size = 32 := enc_size _ _
  have hh : sec.size = 32 ∧ (fB32 (uOf (Pt.mul n bP))).size = 32 := ⟨h, h2⟩
  have hz : ¬ fB32 (uOf (Pt.mul (ck sec * n) bP)) = z32 := by rw [fB_z32]; exact u_ne (dvd_no (ck_cop h) hn)
  unfold sharedS sharedE
  rw [if_pos hh, if_pos hh, shared_u h hn, if_neg hz, if_neg hz]
  exact ⟨rfl, rfl⟩
set_option maxRecDepth 100000 in
/-- Nought is weak. -/
theorem fX0 {x z : FP} (h : x * z = 0) : fZ x z = 0 := by
  unfold fZ
  have : fE x z = 0 := by unfold fE; grind
  rw [this]; grind
set_option maxRecDepth 100000 in
theorem frounds0 (k : Nat) : ∀ j, ((frounds 0 k j).lx * (frounds 0 k j).lz = 0 ∧ (frounds 0 k j).hx * (frounds 0 k j).hz = 0) ∧ (0 < j → (frounds 0 k j).lz = 0 ∧ (frounds 0 k j).hz = 0)
  | 0 => ⟨⟨by show (1 : FP) * 0 = 0; grind, by show (0 : FP) * 1 = 0; grind⟩, fun h => absurd h (by decide)⟩
  | j + 1 => by
    have ih := (frounds0 k j).1
    have h0 : (frounds 0 k (j + 1)).lz = 0 ∧ (frounds 0 k (j + 1)).hz = 0 := by
      show (fstep 0 _ (frounds 0 k j)).lz = 0 ∧ (fstep 0 _ (frounds 0 k j)).hz = 0
      unfold fstep
      split
      · exact ⟨by show (0 : FP) * _ = 0; grind, fX0 ih.2⟩
      · exact ⟨fX0 ih.1, by show (0 : FP) * _ = 0; grind⟩
    exact ⟨⟨by rw [h0.1]; grind, by rw [h0.2]; grind⟩, fun _ => h0⟩
set_option maxRecDepth 100000 in
theorem fout0 (k : Nat) : fout 0 k = 0 := by
  have f0 := finv0
  rw [cvinv] at f0
  unfold fout
  rw [((frounds0 k 255).2 (by decide)).1, f0]
  generalize (frounds 0 k 255).lx = x
  clear f0
  grind
set_option maxRecDepth 100000 in
theorem shared_weak {sec pub : ByteArray} (h : sec.size = 32) (hp : pub.size = 32) (h0 : dY pub = 0) : sharedE sec pub = 80 := by
  have hh : sec.size = 32 ∧ pub.size = 32 := ⟨h, hp⟩
  have hz : mul32 sec (dY pub) = z32 := by
    rw [mul32_f sec (dY_lt _), h0, fB_z32]
    exact fout0 _
  unfold sharedE
  rw [if_pos hh, if_pos hz]

end Go.Proofs.Ytceljjnohjnepaa
