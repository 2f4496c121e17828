/- Which point bytes are: the plain law. The library's strings.Repeat: the kit's contract, laid at this seat. The curve: which point bytes are; the base point. Multiples of two points by two numbers, bit by bit: the plain law. The plain law of a step of the order's numbers: doubling, a bit, the order taken off. The walks of bits and of the order's numbers. The walks of the order's numbers: of, Of. The walks of the order's numbers: reading bytes. -/
import Derived.Test.YtceljjnohjnepaaDoorM09
import Derived.Shelf.Strings.Repeat
import Derived.Test.YtceljjnohjnepaaDoorProg
import Derived.Test.YtceljjnohjnepaaDoorM01
import Derived.Deep.RegionHeld3
import Derived.Test.YtceljjnohjnepaaDoorM02
namespace Go.Proofs.YtceljjnohjnepaaDoor
open EG DG

def dU (y : Nat) : Nat := mulN (subN (mulN y y) 1) (invN (addN (mulN (mulN y y) dN) 1))
def dY (s : ByteArray) : Nat := bytesNat s.data.toList % t255
def dOd (s : ByteArray) : Bool := decide (t255 ≤ bytesNat s.data.toList)
def dOk (s : ByteArray) : Bool := decide (s.size = 32) && (rootOk (dU (dY s)) (dOd s) && decide (dY s < pP))
def dX (s : ByteArray) : Nat := rootV (dU (dY s)) (dOd s)
def dP (s : ByteArray) : P4 := ⟨dX s, dY s, 1, mulN (dX s) (dY s)⟩
set_option maxRecDepth 100000 in
theorem dY_lt (s : ByteArray) : dY s < p2 := Nat.lt_trans (Nat.mod_lt _ (by decide)) (by decide)
set_option maxRecDepth 100000 in
theorem dU_lt {y : Nat} (h : y < p2) : dU y < p2 := mul_lt (sub_lt (mul_lt h h) (by decide)) (raised_lt (add_lt (mul_lt (mul_lt h h) dN_lt) (by decide)))
set_option maxRecDepth 100000 in
theorem dX_lt (s : ByteArray) : dX s < p2 := rootV_lt (dU_lt (dY_lt s)) _
set_option maxRecDepth 100000 in
theorem one_lt2 : 1 < p2 := by decide
set_option maxRecDepth 100000 in
theorem dP_bd (s : ByteArray) : (dP s).bd := ⟨dX_lt s, dY_lt s, one_lt2, mul_lt (dX_lt s) (dY_lt s)⟩
set_option maxRecDepth 100000 in
theorem Crv.den_ne {P : Nat} [NeZero P] (C : Crv P) (y : Fin P) : y * y * C.D + 1 ≠ 0 := by
  intro h
  by_cases hy : y = 0
  · rw [hy] at h
    exact C.one (by grind)
  · have h1 := C.hinv y hy
    have h2 := C.hi
    refine C.nsq (C.i * C.inv y) ?_
    generalize C.inv y = v at *
    generalize C.i = i at *
    generalize C.D = d at *
    have e : d = (y * v) * (y * v) * d := by rw [h1]; grind
    have e2 : (y * v) * (y * v) * d = v * v * (y * y * d) := by clear h e h1 h2; grind
    have e3 : y * y * d = -1 := by clear e e2 h1 h2; grind
    rw [e, e2, e3, ← h2]
    clear h e e2 e3 h1 h2
    grind
set_option maxRecDepth 100000 in
/-- What is a root, is one. -/
theorem rootV_sq {a : Nat} {od : Bool} (h : rootOk a od = true) : mulN (rootV a od) (rootV a od) % pP = a % pP ∧ decide (rootV a od % pP % 2 = 1) = od := by
  have hv : rootV a od = root2 a od := by unfold rootV; rw [if_pos h]
  unfold rootOk at h
  rw [Bool.and_eq_true, decide_eq_true_eq] at h
  rw [hv]
  exact ⟨h.1, by simpa using h.2⟩
set_option maxRecDepth 100000 in
theorem fpU {y : Nat} (h : y < p2) : fp (dU y) = (fp y * fp y - 1) * cv.inv (fp y * fp y * cv.D + 1) := by
  unfold dU
  rw [fpm, fps (mul_lt h h) (by decide), fpm, fpi, fpa, fpm, fpm]
  rfl
set_option maxRecDepth 100000 in
theorem d_on {s : ByteArray} (h : dOk s = true) : onC cv.D (fp (dX s)) (fp (dY s)) := by
  unfold dOk at h
  rw [Bool.and_eq_true, Bool.and_eq_true] at h
  have h1 := (rootV_sq h.2.1).1
  rw [← fp_same, fpm, fpU (dY_lt s)] at h1
  change fp (dX s) * fp (dX s) = _ at h1
  have h2 := cv.hinv _ (Crv.den_ne cv (fp (dY s)))
  unfold onC
  generalize fp (dX s) = x at *
  generalize fp (dY s) = y at *
  generalize cv.D = d at *
  generalize cv.inv (y * y * d + 1) = v at *
  have e : x * x * (y * y * d + 1) = (y * y - 1) * ((y * y * d + 1) * v) := by rw [h1]; clear h1 h2 h; grind
  rw [h2] at e
  clear h1 h2 h
  grind
def dPt (s : ByteArray) (h : dOk s = true) : Pt cv := ⟨fp (dX s), fp (dY s), d_on h⟩
set_option maxRecDepth 100000 in
theorem dP_ok {s : ByteArray} (h : dOk s = true) : (dP s).ok (dPt s h) := by
  refine ⟨dP_bd s, ⟨cv.one, ?_, ?_, ?_⟩⟩
  · show fp (dX s) = fp (dX s) * fp 1
    rw [← fp_mul, Nat.mul_one]
  · show fp (dY s) = fp (dY s) * fp 1
    rw [← fp_mul, Nat.mul_one]
  · show fp (mulN (dX s) (dY s)) = fp (dX s) * fp (dY s) * fp 1
    rw [fpm, ← fp_mul, ← fp_mul, Nat.mul_one]
/-- A point's bytes. -/
def ptB (p : Pt cv) : ByteArray := encB p.y.val (decide (p.x.val % 2 = 1))
set_option maxRecDepth 100000 in
theorem dPt_bytes {s : ByteArray} (h : dOk s = true) : ptB (dPt s h) = s := by
  have h0 := h
  unfold dOk at h0
  rw [Bool.and_eq_true, Bool.and_eq_true, decide_eq_true_eq, decide_eq_true_eq] at h0
  unfold ptB
  show encB (dY s % pP) (decide (dX s % pP % 2 = 1)) = s
  rw [Nat.mod_eq_of_lt h0.2.2, show decide (dX s % pP % 2 = 1) = dOd s from (rootV_sq h0.2.1).2]
  exact enc_dec h0.1
set_option maxRecDepth 100000 in
theorem P4.ok_bytes {u : P4} {p : Pt cv} (h : u.ok p) : encB (mulN u.y (invN u.z) % pP) (decide (mulN u.x (invN u.z) % pP % 2 = 1)) = ptB p := by
  have := Prj.coords h.ext.prj
  rw [show cv.inv (fp u.z) = fp (invN u.z) from (fpi u.z).symm, ← fpm, ← fpm] at this
  unfold ptB
  rw [← this.1, ← this.2]
  rfl
set_option maxRecDepth 100000 in
theorem par_key {a b m : Nat} (ha : a < m) (hb : b < m) (hq : b ≠ 0) (hs : (a + b) % m = 0) (hodd : m % 2 = 1) (h3 : a % 2 = 1 ↔ b % 2 = 1) : False := by
  have hd := Nat.div_add_mod (a + b) m
  have h4 : (a + b) / m < 2 := Nat.div_lt_of_lt_mul (by omega)
  have h5 : (a + b) / m ≠ 0 := fun e => by rw [e, hs] at hd; omega
  generalize (a + b) / m = k at *
  have h6 : k = 1 := by omega
  rw [h6, hs] at hd
  omega
set_option maxRecDepth 100000 in
theorem ptB_inj {p q : Pt cv} (h : ptB p = ptB q) : p = q := by
  have h1 := enc_inj (Nat.lt_trans p.y.isLt pP_255) (Nat.lt_trans q.y.isLt pP_255) h
  have hy : p.y = q.y := Fin.ext h1.1
  have on1 := p.on
  have on2 := q.on
  unfold onC at on1 on2
  rw [hy] at on1
  have hd := Crv.den_ne cv q.y
  have e : (q.y * q.y * cv.D + 1) * (p.x * p.x) = (q.y * q.y * cv.D + 1) * (q.x * q.x) := by grind
  have e2 := cv.cancel hd e
  have e3 : (p.x - q.x) * (p.x + q.x) = 0 := by grind
  refine Pt.ext' ?_ hy
  rcases cv.mul_zero e3 with h2 | h2
  · grind
  · by_cases h0 : q.x = 0
    · rw [h0] at h2 ⊢
      grind
    · exfalso
      have hs : (p.x.val + q.x.val) % NT.P = 0 := by
        have := congrArg Fin.val h2
        rwa [Fin.val_add] at this
      have hq : q.x.val ≠ 0 := fun e => h0 (Fin.ext e)
      have hp1 := p.x.isLt
      have hq1 := q.x.isLt
      have h3 := h1.2
      rw [decide_eq_decide] at h3
      exact par_key hp1 hq1 hq hs (by decide) h3
/-- The base point's bytes. -/
def bsB : ByteArray := ⟨#[88, 102, 102, 102, 102, 102, 102, 102, 102, 102, 102, 102, 102, 102, 102, 102, 102, 102, 102, 102, 102, 102, 102, 102, 102, 102, 102, 102, 102, 102, 102, 102]⟩
set_option maxRecDepth 100000 in
theorem bsB_ok : dOk bsB = true := by decide +kernel
set_option maxRecDepth 100000 in
theorem bsB_pt : dPt bsB bsB_ok = bP := by
  refine Pt.ext' ?_ ?_
  · show fp (dX bsB) = fp bxN
    rw [fp_eq]
    decide +kernel
  · show fp (dY bsB) = fp byN
    rw [fp_eq]
    decide +kernel
set_option maxRecDepth 100000 in
theorem base_ok : (dP bsB).ok bP := bsB_pt ▸ dP_ok bsB_ok

end Go.Proofs.YtceljjnohjnepaaDoor

namespace Go.Proofs
open Go.Shelf
def Tryd.lays105_ren : Go.Shelf.Ren := ⟨fun | 105 => 53 | 212 => 59 | 99 => 60 | 165 => 61 | 166 => 62 | 170 => 63 | 169 => 64 | 263 => 65 | 264 => 30 | 206 => 66 | 240 => 67 | 241 => 68 | 276 => 69 | 277 => 70 | n => n, fun | 9 => 9 | 3 => 3 | 4 => 4 | 20 => 20 | 0 => 0 | 46 => 31 | 109 => 99 | 5 => 5 | 72 => 103 | 76 => 107 | 51 => 71 | 146 => 110 | 53 => 34 | 148 => 64 | 70 => 101 | 37 => 27 | 75 => 106 | 127 => 112 | 164 => 113 | 80 => 42 | n => n, fun | n => n⟩
set_option maxRecDepth 100000 in
theorem Tryd.lays105 : Go.Proofs.Lays.n105 Tryd.prog Tryd.lays105_ren := {
  mixed := by kernel_rfl
  f99 := Tryd.func60.trans (congrArg some (by kernel_rfl))
  f105 := Tryd.func53.trans (congrArg some (by kernel_rfl))
  f165 := Tryd.func61.trans (congrArg some (by kernel_rfl))
  f166 := Tryd.func62.trans (congrArg some (by kernel_rfl))
  f169 := Tryd.func64.trans (congrArg some (by kernel_rfl))
  f170 := Tryd.func63.trans (congrArg some (by kernel_rfl))
  f206 := Tryd.func66.trans (congrArg some (by kernel_rfl))
  f212 := Tryd.func59.trans (congrArg some (by kernel_rfl))
  f240 := Tryd.func67.trans (congrArg some (by kernel_rfl))
  f241 := Tryd.func68.trans (congrArg some (by kernel_rfl))
  f263 := Tryd.func65.trans (congrArg some (by kernel_rfl))
  f264 := Tryd.func30.trans (congrArg some (by kernel_rfl))
  f276 := Tryd.func69.trans (congrArg some (by kernel_rfl))
  f277 := Tryd.func70.trans (congrArg some (by kernel_rfl))
  t0 := Tryd.underlying0
  a0 := Tryd.isAgg0
  z0 := Tryd.sizeOf0
  v0 := Tryd.zeroValue0
  t3 := Tryd.underlying3
  a3 := Tryd.isAgg3
  z3 := Tryd.sizeOf3
  v3 := Tryd.zeroValue3
  t4 := Tryd.underlying4
  a4 := Tryd.isAgg4
  z4 := Tryd.sizeOf4
  v4 := Tryd.zeroValue4
  t5 := Tryd.underlying5
  a5 := Tryd.isAgg5
  z5 := Tryd.sizeOf5
  v5 := Tryd.zeroValue5
  t9 := Tryd.underlying9
  a9 := Tryd.isAgg9
  z9 := Tryd.sizeOf9
  v9 := Tryd.zeroValue9
  t20 := Tryd.underlying20
  a20 := Tryd.isAgg20
  z20 := Tryd.sizeOf20
  v20 := Tryd.zeroValue20
  t37 := Tryd.underlying27
  a37 := Tryd.isAgg27
  z37 := Tryd.sizeOf27
  v37 := Tryd.zeroValue27
  t46 := Tryd.underlying31
  a46 := Tryd.isAgg31
  z46 := Tryd.sizeOf31
  v46 := Tryd.zeroValue31
  t51 := Tryd.underlying71
  a51 := Tryd.isAgg71
  z51 := Tryd.sizeOf71
  v51 := Tryd.zeroValue71
  t53 := Tryd.underlying34
  a53 := Tryd.isAgg34
  z53 := Tryd.sizeOf34
  v53 := Tryd.zeroValue34
  t70 := Tryd.underlying101
  a70 := Tryd.isAgg101
  z70 := Tryd.sizeOf101
  v70 := Tryd.zeroValue101
  t72 := Tryd.underlying103
  a72 := Tryd.isAgg103
  z72 := Tryd.sizeOf103
  v72 := Tryd.zeroValue103
  t75 := Tryd.underlying106
  a75 := Tryd.isAgg106
  z75 := Tryd.sizeOf106
  v75 := Tryd.zeroValue106
  t76 := Tryd.underlying107
  a76 := Tryd.isAgg107
  z76 := Tryd.sizeOf107
  v76 := Tryd.zeroValue107
  t109 := Tryd.underlying99
  a109 := Tryd.isAgg99
  z109 := Tryd.sizeOf99
  v109 := Tryd.zeroValue99
  t127 := Tryd.underlying112
  a127 := Tryd.isAgg112
  z127 := Tryd.sizeOf112
  v127 := Tryd.zeroValue112
  t146 := Tryd.underlying110
  a146 := Tryd.isAgg110
  z146 := Tryd.sizeOf110
  v146 := Tryd.zeroValue110
  t148 := Tryd.underlying64
  a148 := Tryd.isAgg64
  z148 := Tryd.sizeOf64
  v148 := Tryd.zeroValue64
  t164 := Tryd.underlying113
  a164 := Tryd.isAgg113
  z164 := Tryd.sizeOf113
  v164 := Tryd.zeroValue113 }
set_option maxRecDepth 100000 in
theorem Tryd.Builder_Extra_105 : Builder.Extra Tryd.prog Tryd.lays105_ren := {
  sizeBuilder := by kernel_rfl
  liesBuilder := by kernel_rfl
  t5 := Tryd.underlying5
  a5 := Tryd.isAgg5
  z5 := Tryd.sizeOf5
  v5 := Tryd.zeroValue5
  infoByte := by kernel_rfl
  cellsByte := by kernel_rfl
  sizeByte := by kernel_rfl
  neB5 := by decide }
open Go.RowKit Go.Lib in
set_option maxRecDepth 100000 in
theorem Tryd.strings_Repeat (s : ByteArray) (c : Nat) (w : World) (hc : c ≤ 9223372036854775807) (hlen : s.size * c ≤ 140737488355328) :
    Calls Tryd.prog 53 #[.string s, .int .i64 c] w fun e w' => e = .returned (.string ⟨(Lib.repeatL s.data.toList c).toArray⟩) ∧ Below w.heap.size w w' := Any.strings_Repeat Tryd.lays105 Tryd.Builder_Extra_105 s c w hc hlen
end Go.Proofs

namespace Go.Proofs.YtceljjnohjnepaaDoor
open Go Go.RowKit DG
attribute [local go_sem ↓] exl_Elem exs_Elem exl_Pt exs_Pt exb_Pt
                    attribute [local go_sem] ldm_Elem str_Elem ldr_Pt str_Pt to_quad0 pt_zero bld_pt bld_pt0

set_option maxRecDepth 100000 in
theorem and127_u8 (x : UInt8) : bits .and .u8 (x.toNat : Int) 127 = ((x &&& 127).toNat : Int) := by
  rw [show (127 : Int) = ((127 : Nat) : Int) from rfl, u8_and_nat _ _ x.toNat_lt (by decide), UInt8.toNat_and]; rfl
set_option maxRecDepth 100000 in
theorem and128_u8 (x : UInt8) : bits .and .u8 (x.toNat : Int) 128 = ((x.toNat &&& 128 : Nat) : Int) := by
  rw [show (128 : Int) = ((128 : Nat) : Int) from rfl, u8_and_nat _ _ x.toNat_lt (by decide)]
set_option maxRecDepth 100000 in
theorem odd_dOd {s : ByteArray} (h : s.size = 32) (hs : 31 < s.size) : (bits .and .u8 ((s[31]).toNat : Int) 128 != 0) = dOd s := by
  rw [and128_u8]
  unfold dOd
  have := dec_odd h hs
  generalize s[31].toNat &&& 128 = x at *
  by_cases h0 : x = 0
  · rw [decide_eq_false (fun hh => this.2 hh h0), h0]; rfl
  · rw [decide_eq_true (this.1 h0), bne_iff_ne]; omega
/-- Bytes read as a point: what comes of them. -/
def decV (s : ByteArray) : Value := if dOk s then .tuple #[pv (dP s), .int .i64 0] else .tuple #[noPt, .int .i64 (if s.size = 32 then 90 else 2)]
set_option maxRecDepth 100000 in
theorem pdecode_v (s : ByteArray) (W : World) (hmax : s.size ≤ 9223372036854775807) : Calls Tryd.prog 16 #[.string s] W fun r w' => r = .returned (decV s) ∧ Below W.heap.size W w' := by
  unfold decV
  by_cases h : s.size = 32
  · rw [if_pos h]
    have hs : 31 < s.size := by omega
    have hn := dec_nat h hs
    have h32 : (topB s (s[31] &&& 127)).size = 32 := topB_size h _
    have hu : s.extract 0 31 ++ ⟨#[UInt8.ofNat ((s[31] &&& 127).toNat)]⟩ = topB s (s[31] &&& 127) := by rw [UInt8.ofNat_toNat]; rfl
    have hc : canB (topB s (s[31] &&& 127)) = decide (dY s < pP) := by
      unfold canB dY
      rw [hn, h32]
      simp
    have := pdecode_core s (topB s (s[31] &&& 127)) _ (dY s) _ _ _ _ _ (dU (dY s)) 0 (dX s) _ (dOd s) (rootOk (dU (dY s)) (dOd s)) (decide (dY s < pP)) W h (and127_u8 _) (UInt8.toNat_lt _) (odd_dOd h hs) hu h32 hn rfl rfl rfl rfl rfl rfl rfl rfl hc rfl
    rw [show dOk s = (rootOk (dU (dY s)) (dOd s) && decide (dY s < pP)) by unfold dOk; rw [decide_eq_true h, Bool.true_and]]
    exact this
  · rw [if_neg h, if_neg (show ¬ dOk s = true by unfold dOk; rw [decide_eq_false h]; simp)]
    exact pdecode_short s W h hmax

def fB : ByteArray := ⟨#[102]⟩
def fB31 : ByteArray := ⟨(Go.Lib.repeatL fB.data.toList 31).toArray⟩
set_option maxRecDepth 100000 in
theorem fB31_size : fB31.size = 31 := by decide +kernel
set_option maxRecDepth 100000 in
theorem xB_eq : (⟨#[88]⟩ : ByteArray) ++ fB31 = bsB := by decide +kernel
set_option maxRecDepth 100000 in
theorem decB : decV bsB = .tuple #[pv (dP bsB), .int .i64 0] := by unfold decV; rw [if_pos bsB_ok]
set_option maxRecDepth 100000 in
set_option maxHeartbeats 1000000 in
theorem pbase_any (W : World) : Calls Tryd.prog 42 #[] W fun r w' => r = .returned (pv (dP bsB)) ∧ Below W.heap.size W w' := by
  have R1 : Hid (∀ w, Calls Tryd.prog 53 #[.string ⟨#[102]⟩, .int .i64 31] w fun e w' => e = .returned (.string fB31) ∧ Below w.heap.size w w') := hid (fun w => Tryd.strings_Repeat fB 31 w (by decide) (by decide))
  have D1 := fun w => pdecode_v bsB w (by decide)
  rw [decB] at D1
  have HD := hid D1
  clear D1
  have hs := fB31_size
  have hx := hid xB_eq
  generalize fB31 = f at *
  generalize dP bsB = b at *
  generalize bsB = B at *
  go_enter Tryd.func42, Tryd.ntmps42
  go_upto_region 1 with (fail)
  obtain ⟨w1, hw1⟩ : ∃ w1, W.alloc (.cells (pt 0 0 0 0 false) 46) = w1 := ⟨_, rfl⟩
  have kR := kept (show hget w1 (W.heap.size) = some (.cells (pt 0 0 0 0 false) 46 (0, 0)) by rw [← hw1]; clear hw1; go_simp)
  have b1 : Hid (Below W.heap.size W w1) := by rw [← hw1]; repeat (first | exact Below.refl _ _ | exact below_new _ | assumption | refine Below.drew ?_ | refine Below.drewN ?_ _ | refine below_alloc ?_ _ | refine below_blk' ?_ (by omega) _)
  rw [hw1]
  clear hw1
  try clear gR lR nR mR
  try clear jR
  have jR := kR.later
  obtain ⟨gR, lR, nR, mR⟩ := kR
  go_wp2_with fail
  try clear jR
  refine (R1.out _).mono ?_
  rintro e w2 ⟨rfl, hb2⟩
  have kR := Kept.on (kept (b := W.heap.size) (o := .cells (pt 0 0 0 0 false) 46 (0, 0)) (by go_simp)) hb2
  have b2 : Hid (Below W.heap.size W w2) := below_to (by repeat (first | exact Below.refl _ _ | exact below_new _ | exact b1.out | assumption | refine Below.drew ?_ | refine Below.drewN ?_ _ | refine below_alloc ?_ _ | refine below_blk' ?_ (by omega) _)) hb2
  clear hb2
  try clear gR lR nR mR
  obtain ⟨gR, lR, nR, mR⟩ := kR
  clear b1
  go_wp2_with fail
  rw [hx.out]
  try clear jR
  refine (HD.out _).mono ?_
  rintro e w3 ⟨rfl, hb3⟩
  have kR := Kept.on (kept (b := W.heap.size) (o := .cells (pt 0 0 0 0 false) 46 (0, 0)) (by go_simp)) hb3
  have b3 : Hid (Below W.heap.size W w3) := below_to (by repeat (first | exact Below.refl _ _ | exact below_new _ | exact b2.out | assumption | refine Below.drew ?_ | refine Below.drewN ?_ _ | refine below_alloc ?_ _ | refine below_blk' ?_ (by omega) _)) hb3
  clear hb3
  try clear gR lR nR mR
  obtain ⟨gR, lR, nR, mR⟩ := kR
  clear b2
  go_upto_region 2 with (fail)
  obtain ⟨B, hB⟩ : ∃ b, w3.heap.size = b := ⟨_, rfl⟩
  have wB : W.heap.size ≤ B := by rw [← hB]; exact b3.out.size
  have eRB : (W.heap.size = B) = False := by rw [← hB]; exact nR
  have eBR : (B = W.heap.size) = False := by rw [← hB]; exact mR
  obtain ⟨w4, hw4⟩ : ∃ w4, w3.alloc (.cells (pt b.x b.y b.z b.t true) 46) = w4 := ⟨_, rfl⟩
  have kR := kept (show hget w4 (W.heap.size) = some (.cells (pt 0 0 0 0 false) 46 (0, 0)) by rw [← hw4]; clear hw4; go_simp)
  have kB := kept (show hget w4 (w3.heap.size) = some (.cells (pt b.x b.y b.z b.t true) 46) by rw [← hw4]; clear hw4; go_simp)
  have b4 : Hid (Below W.heap.size W w4) := by rw [← hw4]; repeat (first | exact Below.refl _ _ | exact below_new _ | exact b3.out | assumption | refine Below.drew ?_ | refine Below.drewN ?_ _ | refine below_alloc ?_ _ | refine below_blk' ?_ (by omega) _)
  rw [hw4]
  clear hw4
  try clear gR lR nR mR
  try clear jR
  have jR := kR.later
  obtain ⟨gR, lR, nR, mR⟩ := kR
  try clear gB lB nB mB
  try clear jB
  have jB := kB.later
  obtain ⟨gB, lB, nB, mB⟩ := kB
  clear b3
  rw [hB] at *
  clear hB
  go_wp2_with fail
  refine bodyPost_ret (v := .agg (pt b.x b.y b.z b.t true)) (results_cell_row Tryd.results42 _ _ (W.heap.size) 46 (pt b.x b.y b.z b.t true) (0, 0) _ (by rfl) (by rw [← hget_eq]; go_simp) Tryd.underlying46 rfl (by rw [info_Pt]; go_simp)) rfl ?_
  exact ⟨rfl, below_blk' b4.out (by omega) _⟩

end Go.Proofs.YtceljjnohjnepaaDoor

namespace Go.Proofs.YtceljjnohjnepaaDoor
open EG DG

def bitN (n i : Nat) : Nat := n / 2 ^ i % 2
set_option maxRecDepth 100000 in
theorem bitN_lt (n i : Nat) : bitN n i < 2 := Nat.mod_lt _ (by decide)
namespace P4
def tab (b p : P4) (x y : Nat) : P4 := if y = 0 then (if x = 0 then zero else p) else (if x = 0 then b else p.add b)
def bothN (b p : P4) (m n : Nat) : Nat → P4
  | 0 => zero
  | k + 1 => (bothN b p m n k).twice.add (tab b p (bitN m (255 - k)) (bitN n (255 - k)))
def both (b p : P4) (m n : Nat) : P4 := bothN b p m n 256
variable {b p : P4} {P : Pt cv}
set_option maxRecDepth 100000 in
theorem base_bd : (dP bsB).bd := base_ok.bd
set_option maxRecDepth 100000 in
theorem tab_bd (hb : b.bd) (h : p.bd) (x y : Nat) : (tab b p x y).bd := by
  unfold tab
  split
  · split
    · exact zero_ok.bd
    · exact h
  · split
    · exact hb
    · exact add_bd h hb
set_option maxRecDepth 100000 in
theorem bothN_bd (hb : b.bd) (h : p.bd) (m n : Nat) : ∀ k, (bothN b p m n k).bd
  | 0 => zero_ok.bd
  | k + 1 => add_bd (twice_bd (bothN_bd hb h m n k)) (tab_bd hb h _ _)
set_option maxRecDepth 100000 in
theorem both_bd (hb : b.bd) (h : p.bd) (m n : Nat) : (both b p m n).bd := bothN_bd hb h m n 256
set_option maxRecDepth 100000 in
theorem tab_ok (hb : b.ok bP) (h : p.ok P) {x y : Nat} (hx : x < 2) (hy : y < 2) : (tab b p x y).ok ((Pt.mul x P).add (Pt.mul y bP)) := by
  unfold tab
  have e1 : ∀ q : Pt cv, Pt.mul 1 q = q := fun q => by rw [show (1 : Nat) = 0 + 1 from rfl, Pt.mul_succ]; exact Pt.zero_add q
  have e0 : ∀ q : Pt cv, Pt.mul 0 q = Pt.zero := fun q => rfl
  obtain rfl | rfl : x = 0 ∨ x = 1 := by omega
  · obtain rfl | rfl : y = 0 ∨ y = 1 := by omega
    · rw [e0, e0, Pt.zero_add]; exact zero_ok
    · rw [e0, e1, Pt.zero_add]; exact hb
  · obtain rfl | rfl : y = 0 ∨ y = 1 := by omega
    · rw [e0, e1, Pt.add_comm, Pt.zero_add]; exact h
    · rw [e1, e1]; exact add_ok h hb
set_option maxRecDepth 100000 in
theorem bit_split (n : Nat) {k : Nat} (hk : k < 256) : n / 2 ^ (255 - k) = 2 * (n / 2 ^ (256 - k)) + bitN n (255 - k) := by
  unfold bitN
  rw [show 256 - k = (255 - k) + 1 by omega, Nat.pow_succ, ← Nat.div_div_eq_div_mul]
  omega
set_option maxRecDepth 100000 in
theorem mul_bit (a b : Nat) (p : Pt cv) : Pt.mul (2 * a + b) p = ((Pt.mul a p).add (Pt.mul a p)).add (Pt.mul b p) := by
  rw [Pt.mul_add, Nat.two_mul, Pt.mul_add]
set_option maxRecDepth 100000 in
theorem add4 (a b c d : Pt cv) : (a.add b).add (c.add d) = (a.add c).add (b.add d) := by
  rw [Pt.add_assoc, Pt.add_assoc, ← Pt.add_assoc b, Pt.add_comm b c, Pt.add_assoc]
set_option maxRecDepth 100000 in
theorem bothN_ok (hb : b.ok bP) (h : p.ok P) {m n : Nat} (hm : m < 2 ^ 256) (hn : n < 2 ^ 256) : ∀ k, k ≤ 256 → (bothN b p m n k).ok ((Pt.mul (m / 2 ^ (256 - k)) P).add (Pt.mul (n / 2 ^ (256 - k)) bP))
  | 0, _ => by
    rw [Nat.div_eq_of_lt hm, Nat.div_eq_of_lt hn]
    exact (show (Pt.mul 0 P).add (Pt.mul 0 bP) = Pt.zero from Pt.zero_add _) ▸ zero_ok
  | k + 1, hk => by
    have ih := bothN_ok hb h hm hn k (by omega)
    have h2 := add_ok (twice_ok ih) (tab_ok hb h (bitN_lt m (255 - k)) (bitN_lt n (255 - k)))
    rw [show 256 - (k + 1) = 255 - k by omega, bit_split m (by omega), bit_split n (by omega), mul_bit, mul_bit]
    rw [add4 (Pt.mul (m / 2 ^ (256 - k)) P), add4 _ _ (Pt.mul (bitN m (255 - k)) P)] at h2
    exact h2
set_option maxRecDepth 100000 in
theorem both_ok (hb : b.ok bP) (h : p.ok P) {m n : Nat} (hm : m < 2 ^ 256) (hn : n < 2 ^ 256) : (both b p m n).ok ((Pt.mul m P).add (Pt.mul n bP)) := by
  have := bothN_ok hb h hm hn 256 (by omega)
  rw [Nat.sub_self, Nat.pow_zero, Nat.div_one, Nat.div_one] at this
  exact this
end P4

end Go.Proofs.YtceljjnohjnepaaDoor

namespace Go.Proofs.YtceljjnohjnepaaDoor
open Go.RowKit

def ordL : Nat := 7237005577332262213973186563042994240857116359379907606001950938285454250989

set_option maxRecDepth 100000 in
theorem dbl_word {a x c : Int} (_h0 : 0 ≤ a) (_h : a < 18446744073709551616) (_hc : 0 ≤ c ∧ c ≤ 1) (x1 : x ≤ a * 2 % 18446744073709551616 + c) (x2 : a * 2 % 18446744073709551616 + c ≤ x) :
    2 * a + c = x + 18446744073709551616 * (a / 9223372036854775808) := by omega
set_option maxRecDepth 100000 in
theorem dbl_sum {a0 a1 a2 a3 x0 x1 x2 x3 c1 c2 c3 c4 b : Int} (h0 : 2 * a0 + b = x0 + 18446744073709551616 * c1) (h1 : 2 * a1 + c1 = x1 + 18446744073709551616 * c2)
    (h2 : 2 * a2 + c2 = x2 + 18446744073709551616 * c3) (h3 : 2 * a3 + c3 = x3 + 18446744073709551616 * c4) :
    x0 + 18446744073709551616 * x1 + 340282366920938463463374607431768211456 * x2 + 6277101735386680763835789423207666416102355444464034512896 * x3 + 115792089237316195423570985008687907853269984665640564039457584007913129639936 * c4 =
      2 * (a0 + 18446744073709551616 * a1 + 340282366920938463463374607431768211456 * a2 + 6277101735386680763835789423207666416102355444464034512896 * a3) + b := by omega
set_option maxRecDepth 100000 in
theorem sub_sum {x0 x1 x2 x3 l0 l1 l2 l3 d0 d1 d2 d3 e0 e1 e2 e3 : Int} (h0 : d0 + l0 + 0 = x0 + 18446744073709551616 * e0) (h1 : d1 + l1 + e0 = x1 + 18446744073709551616 * e1)
    (h2 : d2 + l2 + e1 = x2 + 18446744073709551616 * e2) (h3 : d3 + l3 + e2 = x3 + 18446744073709551616 * e3) :
    (d0 + 18446744073709551616 * d1 + 340282366920938463463374607431768211456 * d2 + 6277101735386680763835789423207666416102355444464034512896 * d3) + (l0 + 18446744073709551616 * l1 + 340282366920938463463374607431768211456 * l2 + 6277101735386680763835789423207666416102355444464034512896 * l3) =
      (x0 + 18446744073709551616 * x1 + 340282366920938463463374607431768211456 * x2 + 6277101735386680763835789423207666416102355444464034512896 * x3) + 115792089237316195423570985008687907853269984665640564039457584007913129639936 * e3 := by omega
set_option maxRecDepth 100000 in
/-- Four words are below 2^256. -/
theorem ofour_lt {a0 a1 a2 a3 : Int} (l0 : 0 ≤ a0) (l1 : 0 ≤ a1) (l2 : 0 ≤ a2) (l3 : 0 ≤ a3) (u0 : a0 < 18446744073709551616) (u1 : a1 < 18446744073709551616) (u2 : a2 < 18446744073709551616) (u3 : a3 < 18446744073709551616) :
    0 ≤ a0 + 18446744073709551616 * a1 + 340282366920938463463374607431768211456 * a2 + 6277101735386680763835789423207666416102355444464034512896 * a3 ∧
    a0 + 18446744073709551616 * a1 + 340282366920938463463374607431768211456 * a2 + 6277101735386680763835789423207666416102355444464034512896 * a3 < 115792089237316195423570985008687907853269984665640564039457584007913129639936 := by omega

set_option maxRecDepth 100000 in
theorem push_mod_lt {n b : Nat} (h : 2 * n + b < ordL) : (2 * n + b) % ordL = 2 * n + b := Nat.mod_eq_of_lt h
set_option maxRecDepth 100000 in
theorem push_mod_ge {n b : Nat} (h : ordL ≤ 2 * n + b) (hn : n < ordL) (hb : b ≤ 1) : (2 * n + b) % ordL = 2 * n + b - ordL := by
  rw [Nat.mod_eq_sub_mod h, Nat.mod_eq_of_lt (by omega)]

set_option maxRecDepth 100000 in
theorem push_law {n bn : Nat} {bit a0 a1 a2 a3 x0 x1 x2 x3 d0 d1 d2 d3 e0 e1 e2 e3 : Int} (hn : n < ordL) (hbn : (bn : Int) = bit) (hb1 : bn ≤ 1) (ha : W4 n a0 a1 a2 a3)
    (x0a : 0 ≤ x0) (x0b : x0 < 18446744073709551616) (x0c : x0 ≤ a0 * 2 % 18446744073709551616 + bit) (x0d : a0 * 2 % 18446744073709551616 + bit ≤ x0)
    (x1a : 0 ≤ x1) (x1b : x1 < 18446744073709551616) (x1c : x1 ≤ a1 * 2 % 18446744073709551616 + a0 / 9223372036854775808) (x1d : a1 * 2 % 18446744073709551616 + a0 / 9223372036854775808 ≤ x1)
    (x2a : 0 ≤ x2) (x2b : x2 < 18446744073709551616) (x2c : x2 ≤ a2 * 2 % 18446744073709551616 + a1 / 9223372036854775808) (x2d : a2 * 2 % 18446744073709551616 + a1 / 9223372036854775808 ≤ x2)
    (x3a : 0 ≤ x3) (x3b : x3 < 18446744073709551616) (x3c : x3 ≤ a3 * 2 % 18446744073709551616 + a2 / 9223372036854775808) (x3d : a3 * 2 % 18446744073709551616 + a2 / 9223372036854775808 ≤ x3)
    (da0 : 0 ≤ d0) (db0 : d0 < 18446744073709551616) (da1 : 0 ≤ d1) (db1 : d1 < 18446744073709551616) (da2 : 0 ≤ d2) (db2 : d2 < 18446744073709551616) (da3 : 0 ≤ d3) (db3 : d3 < 18446744073709551616)
    (pa0 : d0 + 6346243789798364141 + 0 ≤ x0 + 18446744073709551616 * e0) (pb0 : x0 + 18446744073709551616 * e0 ≤ d0 + 6346243789798364141 + 0)
    (pa1 : d1 + 1503914060200516822 + e0 ≤ x1 + 18446744073709551616 * e1) (pb1 : x1 + 18446744073709551616 * e1 ≤ d1 + 1503914060200516822 + e0)
    (pa2 : d2 + 0 + e1 ≤ x2 + 18446744073709551616 * e2) (pb2 : x2 + 18446744073709551616 * e2 ≤ d2 + 0 + e1)
    (pa3 : d3 + 1152921504606846976 + e2 ≤ x3 + 18446744073709551616 * e3) (pb3 : x3 + 18446744073709551616 * e3 ≤ d3 + 1152921504606846976 + e2) :
    (e3 = 0 → W4 ((2 * n + bn) % ordL) d0 d1 d2 d3) ∧ (e3 = 1 → W4 ((2 * n + bn) % ordL) x0 x1 x2 x3) := by
  obtain ⟨l0, l1, l2, l3, u0, u1, u2, u3, hv⟩ := ha
  have s1 := dbl_sum (dbl_word l0 u0 (by omega) x0c x0d) (dbl_word l1 u1 (by omega) x1c x1d) (dbl_word l2 u2 (by omega) x2c x2d) (dbl_word l3 u3 (by omega) x3c x3d)
  have s2 := sub_sum (Int.le_antisymm pa0 pb0) (Int.le_antisymm pa1 pb1) (Int.le_antisymm pa2 pb2) (Int.le_antisymm pa3 pb3)
  have bx := ofour_lt x0a x1a x2a x3a x0b x1b x2b x3b
  have bd := ofour_lt da0 da1 da2 da3 db0 db1 db2 db3
  rw [hv] at s1
  have hc : a3 / 9223372036854775808 = 0 := by
    clear s2 pa0 pb0 pa1 pb1 pa2 pb2 pa3 pb3 x0c x0d x1c x1d x2c x2d x3c x3d bd s1 bx
    unfold ordL at hn; omega
  rw [hc] at s1
  clear pa0 pb0 pa1 pb1 pa2 pb2 pa3 pb3 x0c x0d x1c x1d x2c x2d x3c x3d hc hv
  have hL : (6346243789798364141 + 18446744073709551616 * 1503914060200516822 + 340282366920938463463374607431768211456 * 0 + 6277101735386680763835789423207666416102355444464034512896 * 1152921504606846976 : Int) = (ordL : Nat) := by decide
  rw [hL] at s2
  generalize hX : x0 + 18446744073709551616 * x1 + 340282366920938463463374607431768211456 * x2 + 6277101735386680763835789423207666416102355444464034512896 * x3 = X at *
  generalize hD : d0 + 18446744073709551616 * d1 + 340282366920938463463374607431768211456 * d2 + 6277101735386680763835789423207666416102355444464034512896 * d3 = D at *
  refine ⟨fun h => ?_, fun h => ?_⟩
  · subst h
    refine ⟨da0, da1, da2, da3, db0, db1, db2, db3, ?_⟩
    rw [hD, push_mod_ge (by omega) hn hb1]
    omega
  · subst h
    refine ⟨x0a, x1a, x2a, x3a, x0b, x1b, x2b, x3b, ?_⟩
    rw [hX, push_mod_lt (by omega)]
    omega

open DG
set_option maxRecDepth 100000 in
theorem of_step (N k : Nat) (hk : 0 < k) : (2 * (N / 2 ^ k % ordL) + N / 2 ^ (k - 1) % 2) % ordL = N / 2 ^ (k - 1) % ordL := by
  have e : 2 ^ k = 2 ^ (k - 1) * 2 := by rw [← Nat.pow_succ]; congr 1; omega
  rw [e, ← Nat.div_div_eq_div_mul]
  generalize N / 2 ^ (k - 1) = m
  rw [Nat.add_mod, Nat.mul_mod, Nat.mod_mod, ← Nat.mul_mod, ← Nat.add_mod]
  congr 1; omega
set_option maxRecDepth 100000 in
theorem oquad_ints (n : Nat) : quad n = #[.int .u64 (((digs (2 ^ 64) n 4).getD 0 0 : Nat) : Int), .int .u64 (((digs (2 ^ 64) n 4).getD 1 0 : Nat) : Int), .int .u64 (((digs (2 ^ 64) n 4).getD 2 0 : Nat) : Int), .int .u64 (((digs (2 ^ 64) n 4).getD 3 0 : Nat) : Int)] := by
  rw [digs_getD n (by decide), digs_getD n (by decide), digs_getD n (by decide), digs_getD n (by decide), show ((2 : Nat) ^ 64) ^ 0 = 1 from rfl, Nat.div_one, show ((2 : Nat) ^ 64) ^ 1 = 18446744073709551616 from rfl,
    show ((2 : Nat) ^ 64) ^ 2 = 340282366920938463463374607431768211456 from rfl, show ((2 : Nat) ^ 64) ^ 3 = 6277101735386680763835789423207666416102355444464034512896 from rfl]
  rfl
set_option maxRecDepth 100000 in
theorem val_take_succ {B : Nat} (l : List Nat) (k : Nat) (h : k < l.length) : val B (l.take (k + 1)) = val B (l.take k) + l.getD k 0 * B ^ k := by
  rw [List.take_succ_eq_append_getElem h, val_append]
  simp [val, Nat.min_eq_left (Nat.le_of_lt h), h]
  rw [Nat.mul_comm]
set_option maxRecDepth 100000 in
/-- One word of a product: the row of words behind it. -/
theorem mul_step {B : Nat} {wl : List Nat} {j v y x c c' V0 t i k : Nat} (hj : j < wl.length) (hjk : j = i + k) (h : val B wl + c * B ^ j = V0 + x * t * B ^ i)
    (he : v + B * c' = x * y + wl.getD j 0 + c) :
    val B (wl.set j v) + c' * B ^ (j + 1) = V0 + x * (t + y * B ^ k) * B ^ i := by
  have hs := val_set (B := B) hj v
  have e1 : (v + B * c') * B ^ j = (x * y + wl.getD j 0 + c) * B ^ j := by rw [he]
  have e2 : x * (t + y * B ^ k) * B ^ i = x * t * B ^ i + x * y * B ^ j := by
    rw [Nat.mul_add, Nat.add_mul, hjk, Nat.pow_add, Nat.mul_comm (B ^ i), ← Nat.mul_assoc x y, Nat.mul_assoc (x * y)]
  rw [Nat.add_mul, Nat.add_mul, Nat.add_mul] at e1
  rw [e2, Nat.pow_succ B j]
  have e3 : c' * (B ^ j * B) = B * c' * B ^ j := by rw [Nat.mul_comm (B ^ j), ← Nat.mul_assoc, Nat.mul_comm c']
  rw [e3]
  omega
set_option maxRecDepth 100000 in
theorem carry_step {B : Nat} {wl : List Nat} {j v c c' V : Nat} (hj : j < wl.length) (h : val B wl + c * B ^ j = V) (he : v + B * c' = wl.getD j 0 + c) :
    val B (wl.set j v) + c' * B ^ (j + 1) = V := by
  have hs := val_set (B := B) hj v
  have e1 : (v + B * c') * B ^ j = (wl.getD j 0 + c) * B ^ j := by rw [he]
  rw [Nat.add_mul, Nat.add_mul] at e1
  rw [Nat.pow_succ B j, show c' * (B ^ j * B) = B * c' * B ^ j by rw [Nat.mul_comm (B ^ j), ← Nat.mul_assoc, Nat.mul_comm c']]
  omega
set_option maxRecDepth 100000 in
theorem All.set {B : Nat} {l : List Nat} (h : All B l) (j : Nat) {v : Nat} (hv : v < B) : All B (l.set j v) := fun x hx => by
  rcases List.mem_or_eq_of_mem_set hx with h1 | h1
  · exact h x h1
  · rw [h1]; exact hv
set_option maxRecDepth 100000 in
theorem row_bound {B : Nat} {a b c : Nat} (ha : a < B ^ 4) (hb : b < B ^ 4) (hc : c < B ^ 4) : c + a * b < B ^ 8 := by
  have h1 : a * b ≤ a * B ^ 4 := Nat.mul_le_mul_left _ (Nat.le_of_lt hb)
  have h2 : (a + 1) * B ^ 4 ≤ B ^ 4 * B ^ 4 := Nat.mul_le_mul_right _ ha
  rw [← Nat.pow_add, Nat.add_mul] at h2
  simp only [Nat.reduceAdd, Nat.one_mul] at h2
  omega
set_option maxRecDepth 100000 in
theorem no_carry {B v c V j : Nat} (hB : V < B ^ j) (h : v + c * B ^ j = V) : c = 0 ∧ v = V := by
  rcases Nat.eq_zero_or_pos c with h0 | h0
  · subst h0; simp at h; exact ⟨rfl, h⟩
  · have : 1 * B ^ j ≤ c * B ^ j := Nat.mul_le_mul_right _ h0
    omega
set_option maxRecDepth 100000 in
theorem quad_zero : quad 0 = #[.int .u64 0, .int .u64 0, .int .u64 0, .int .u64 0] := rfl

end Go.Proofs.YtceljjnohjnepaaDoor

namespace Go.Proofs.YtceljjnohjnepaaDoor
open Go.RowKit

set_option maxRecDepth 100000 in
@[go_sem] theorem idx4_0 (a b c d : Value) (w : World) : (Instr.index 35 (.agg #[a, b, c, d]) (.int .i64 0)).run Tryd.prog w = .ok a w := by kernel_rfl
set_option maxRecDepth 100000 in
@[go_sem] theorem idx4_1 (a b c d : Value) (w : World) : (Instr.index 35 (.agg #[a, b, c, d]) (.int .i64 1)).run Tryd.prog w = .ok b w := by kernel_rfl
set_option maxRecDepth 100000 in
@[go_sem] theorem idx4_2 (a b c d : Value) (w : World) : (Instr.index 35 (.agg #[a, b, c, d]) (.int .i64 2)).run Tryd.prog w = .ok c w := by kernel_rfl
set_option maxRecDepth 100000 in
@[go_sem] theorem idx4_3 (a b c d : Value) (w : World) : (Instr.index 35 (.agg #[a, b, c, d]) (.int .i64 3)).run Tryd.prog w = .ok d w := by kernel_rfl

set_option maxRecDepth 100000 in
set_option maxHeartbeats 400000 in
theorem order_any (w : World) : Calls Tryd.prog 57 #[] w fun e w' => e = .returned (.agg #[.int .u64 6346243789798364141, .int .u64 1503914060200516822, .int .u64 0, .int .u64 1152921504606846976]) ∧ ∃ o, w.alloc o = w' := by
  go_enter Tryd.func57, Tryd.ntmps57
  go_wp2
  exact bodyPost_ret (v := .agg #[.int .u64 6346243789798364141, .int .u64 1503914060200516822, .int .u64 0, .int .u64 1152921504606846976]) (by simp [results, Tryd.results57, go_sem]) rfl ⟨rfl, _, rfl⟩

set_option maxRecDepth 100000 in
set_option maxHeartbeats 1000000 in
theorem push_any (b : Nat) (n bn : Nat) (bit : Int) (w : World) (hb0 : w.heap[b]? = some (.cells (quad n) 37 (0, 0))) (hn : n < ordL) (hbn : (bn : Int) = bit) (hb1 : bn ≤ 1) :
    Calls Tryd.prog 50 #[.pointer (some ⟨b, 0, none⟩), .int .u64 bit] w fun e w' => e = .returned (.tuple #[]) ∧ Only b w w' ∧ w'.heap[b]? = some (.cells (quad ((2 * n + bn) % ordL)) 37 (0, 0)) := by
  obtain ⟨a0, a1, a2, a3, hq, hw4⟩ := quad_w4 n (by unfold ordL at hn; omega)
  have HW4 := hid hw4
  obtain ⟨h0, h1, h2, h3, h0', h1', h2', h3', _⟩ := hw4
  have hb := hb0
  rw [hq] at hb
  have h0 := And.intro h0 h0'
  have h1 := And.intro h1 h1'
  have h2 := And.intro h2 h2'
  have h3 := And.intro h3 h3'
  have hbit : 0 ≤ bit ∧ bit ≤ 1 := by omega
  have HBN := hid hbn
  have HN := hid hn
  clear hb0 hq hbn hn h0' h1' h2' h3'
  have hlt := lt_blk hb
  have c0 : w.cell? ⟨b, 0, none⟩ = some (.int .u64 a0) := cell_at hb 0
  have c1 : w.cell? ⟨b, 1, none⟩ = some (.int .u64 a1) := cell_at hb 1
  have c2 : w.cell? ⟨b, 2, none⟩ = some (.int .u64 a2) := cell_at hb 2
  have c3 : w.cell? ⟨b, 3, none⟩ = some (.int .u64 a3) := cell_at hb 3
  have hf := free_at hb
  have HB := hid hb
  clear hb
  go_enter Tryd.func50, Tryd.ntmps50
  go_wp2_with fail
  refine wp_loop_rounds 5 ?_
  rw [rounds_succ]
  go_wp2_with fail
  rw [rounds_succ]
  go_wp2_with fail
  rw [rounds_succ]
  go_wp2_with fail
  rw [rounds_succ]
  go_wp2_with fail
  rw [rounds_succ]
  go_wp2_with fail
  obtain ⟨x0, E0, x0a, x0b, x0c, x0d⟩ := or1_facts a0 bit h0.1 hbit
  obtain ⟨x1, E1, x1a, x1b, x1c, x1d⟩ := or1_facts a1 (a0 / 9223372036854775808) h1.1 (by omega)
  obtain ⟨x2, E2, x2a, x2b, x2c, x2d⟩ := or1_facts a2 (a1 / 9223372036854775808) h2.1 (by omega)
  obtain ⟨x3, E3, x3a, x3b, x3c, x3d⟩ := or1_facts a3 (a2 / 9223372036854775808) h3.1 (by omega)
  rw [E0, E1, E2, E3]
  clear E0 E1 E2 E3 c0 c1 c2 c3 hf
  simp only [setCell_blk HB.out, blk_setCell hlt, List.setIfInBounds_toArray, List.set_cons_zero, List.set_cons_succ]
  obtain ⟨D, hD⟩ : ∃ D, D = w.heap.size := ⟨_, rfl⟩
  obtain ⟨w1, hw1⟩ : ∃ w1, w1 = (blk w b (.cells #[.int .u64 x0, .int .u64 x1, .int .u64 x2, .int .u64 x3] 37 (0, 0))).alloc (.cells #[.int .u64 0, .int .u64 0, .int .u64 0, .int .u64 0] 35) := ⟨_, rfl⟩
  have ob : Only b w w1 := by rw [hw1]; exact ((Only.refl b w).blk (.inl rfl) _).alloc _
  have hb1 : w1.heap[b]? = some (.cells #[.int .u64 x0, .int .u64 x1, .int .u64 x2, .int .u64 x3] 37 (0, 0)) := by rw [hw1]; exact alloc_old (blk_heap hlt)
  have hd1 : w1.heap[D]? = some (.cells #[.int .u64 0, .int .u64 0, .int .u64 0, .int .u64 0] 35 (0, 0)) := by
    rw [hw1, hD, ← blk_size (w := w) (b := b) (o := .cells #[.int .u64 x0, .int .u64 x1, .int .u64 x2, .int .u64 x3] 37 (0, 0))]; exact alloc_at _ _
  have hbD : b ≠ D := by omega
  have zD : w.heap.size ≤ D := by omega
  rw [← hw1]
  rw [← hD]
  clear hw1 hD HB
  refine (order_any _).mono ?_
  rintro e w2 ⟨rfl, o, rfl⟩
  have ob2 := ob.alloc o
  have hb2 := alloc_old (o' := o) hb1
  have hd2 := alloc_old (o' := o) hd1
  generalize w1.alloc o = w2 at *
  clear hb1 hd1 ob
  have c0 : w2.cell? ⟨b, 0, none⟩ = some (.int .u64 x0) := cell_at hb2 0
  have c1 : w2.cell? ⟨b, 1, none⟩ = some (.int .u64 x1) := cell_at hb2 1
  have c2 : w2.cell? ⟨b, 2, none⟩ = some (.int .u64 x2) := cell_at hb2 2
  have c3 : w2.cell? ⟨b, 3, none⟩ = some (.int .u64 x3) := cell_at hb2 3
  have d0 : w2.cell? ⟨D, 0, none⟩ = some (.int .u64 0) := cell_at hd2 0
  have d1 : w2.cell? ⟨D, 1, none⟩ = some (.int .u64 0) := cell_at hd2 1
  have d2 : w2.cell? ⟨D, 2, none⟩ = some (.int .u64 0) := cell_at hd2 2
  have d3 : w2.cell? ⟨D, 3, none⟩ = some (.int .u64 0) := cell_at hd2 3
  have hf := free_at hb2
  have hg := free_at hd2
  have HB := hid hb2
  have HD := hid hd2
  clear hb2 hd2
  go_wp2_with fail
  refine wp_loop_rounds 5 ?_
  rw [rounds_succ]
  go_wp2_with (refine wpList_sub64 rfl rfl _ _ _ rfl rfl rfl (by omega) (by omega) (by omega) (by omega) (by omega) ?_; intro d0 e0 da0 db0 ea0 eb0 pa0 pb0)
  rw [rounds_succ]
  go_wp2_with (refine wpList_sub64 rfl rfl _ _ _ rfl rfl rfl (by omega) (by omega) (by omega) (by omega) (by omega) ?_; intro d1 e1 da1 db1 ea1 eb1 pa1 pb1)
  rw [rounds_succ]
  go_wp2_with (refine wpList_sub64 rfl rfl _ _ _ rfl rfl rfl (by omega) (by omega) (by omega) (by omega) (by omega) ?_; intro d2 e2 da2 db2 ea2 eb2 pa2 pb2)
  rw [rounds_succ]
  go_wp2_with (refine wpList_sub64 rfl rfl _ _ _ rfl rfl rfl (by omega) (by omega) (by omega) (by omega) (by omega) ?_; intro d3 e3 da3 db3 ea3 eb3 pa3 pb3)
  rw [rounds_succ]
  obtain ⟨W0, W1⟩ := push_law HN.out HBN.out hb1 HW4.out x0a x0b x0c x0d x1a x1b x1c x1d x2a x2b x2c x2d x3a x3b x3c x3d da0 db0 da1 db1 da2 db2 da3 db3 pa0 pb0 pa1 pb1 pa2 pb2 pa3 pb3
  have W0' := hid W0
  have W1' := hid W1
  clear W0 W1 x0c x0d x1c x1d x2c x2d x3c x3d pa0 pb0 pa1 pb1 pa2 pb2 pa3 pb3
  obtain he | he : e3 = 0 ∨ e3 = 1 := by omega
  · have W := W0'.out he
    subst he
    have WH := hid W
    clear W W0' W1'
    go_wp2_with fail
    go_end0
    have W := WH.out
    refine ⟨rfl, (((((((ob2.setCell (.inr zD) _).setCell (.inr zD) _).setCell (.inr zD) _).setCell (.inr zD) _).setCell (.inl rfl) _).setCell (.inl rfl) _).setCell (.inl rfl) _).setCell (.inl rfl) _, ?_⟩
    rw [W.quad]
    have := at_setCell (at_setCell (at_setCell (at_setCell (at_setCell_other (at_setCell_other (at_setCell_other (at_setCell_other HB.out (p := ⟨D, 0, none⟩) hbD (.int .u64 d0)) (p := ⟨D, 1, none⟩) hbD (.int .u64 d1)) (p := ⟨D, 2, none⟩) hbD (.int .u64 d2)) (p := ⟨D, 3, none⟩) hbD (.int .u64 d3)) 0 (.int .u64 d0)) 1 (.int .u64 d1)) 2 (.int .u64 d2)) 3 (.int .u64 d3)
    simpa using this
  · have W := W1'.out he
    subst he
    have WH := hid W
    clear W W0' W1'
    go_wp2_with fail
    go_end0
    have W := WH.out
    refine ⟨rfl, ((((ob2.setCell (.inr zD) _).setCell (.inr zD) _).setCell (.inr zD) _).setCell (.inr zD) _), ?_⟩
    rw [W.quad]
    exact at_setCell_other (at_setCell_other (at_setCell_other (at_setCell_other HB.out (p := ⟨D, 0, none⟩) hbD (.int .u64 d0)) (p := ⟨D, 1, none⟩) hbD (.int .u64 d1)) (p := ⟨D, 2, none⟩) hbD (.int .u64 d2)) (p := ⟨D, 3, none⟩) hbD (.int .u64 d3)

end Go.Proofs.YtceljjnohjnepaaDoor

namespace Go.Proofs.YtceljjnohjnepaaDoor
open Go.RowKit DG

set_option maxRecDepth 100000 in
set_option maxHeartbeats 1000000 in
theorem of_any (bw off cap : Nat) (ws : List Nat) (W : World) (hall : All (2 ^ 64) ws) (hlen : ws.length ≤ 8) (_hcap : ws.length ≤ cap) (hpos : 0 < ws.length)
    (hc : ∀ j, j < ws.length → W.cell? ⟨bw, off + j, none⟩ = some (.int .u64 ((ws.getD j 0 : Nat) : Int))) :
    Calls Tryd.prog 32 #[.slice (some ⟨bw, off, none⟩) ws.length cap] W fun e w' => e = .returned (.agg (quad (val (2 ^ 64) ws % ordL))) ∧ Below W.heap.size W w' := by
  have hbw : bw < W.heap.size := World.block_lt_of_cell? W _ (hc 0 hpos)
  have HC := hid hc
  clear hc
  generalize hl : ws.length = len at *
  have HL := hid hl
  clear hl
  go_enter Tryd.func32, Tryd.ntmps32
  go_wp2_with fail
  have hl64 : (len : Int) ≤ 8 := by omega
  go_loopw [3] (fun i wr => ∃ k : Nat, k ≤ 64 * len ∧ i = .int .i64 ((k : Int) - 1) ∧ wr.heap[W.heap.size]? = some (.cells (quad (val (2 ^ 64) ws / 2 ^ k % ordL)) 37 (0, 0)) ∧ Below W.heap.size W wr)
    (fun i _ => (intOf i + 1).toNat)
  case atStart =>
    refine ⟨64 * len, Nat.le_refl _, by simp, ?_, below_new _⟩
    have hv := val_lt hall
    rw [HL.out, ← Nat.pow_mul] at hv
    rw [Nat.div_eq_of_lt hv, Nat.zero_mod, quad_zero]
    exact alloc_at _ _
  case round =>
    obtain ⟨k, hk, rfl, hq, hb⟩ := hrel
    have HQ := hid hq
    clear hq
    by_cases hk0 : 0 < k
    · obtain ⟨j, rfl⟩ : ∃ j, k = j + 1 := ⟨k - 1, by omega⟩
      rw [show (((j + 1 : Nat) : Int) - 1) = (j : Int) by omega]
      have cj := (hb.cell (p := ⟨bw, off + j / 64, none⟩) hbw).trans (HC.out (j / 64) (by omega))
      have hj : (j : Int) < 64 * len := by omega
      have hj1 : j / 64 < len := by omega
      go_wp2_with fail
      have hx := hall.getD (j := j / 64) (by rw [HL.out]; exact hj1)
      have hbd := bit_digit (w := 64) hall j (by decide) (by rw [HL.out]; omega)
      refine (push_any W.heap.size (val (2 ^ 64) ws / 2 ^ (j + 1) % ordL) (val (2 ^ 64) ws / 2 ^ j % 2) _ _ HQ.out (Nat.mod_lt _ (by decide)) ?_ (by omega)).mono ?_
      · rw [hbd, ← List.getD_eq_getElem?_getD, and1_shr _ _ hx]
      rintro e w' ⟨rfl, ho, hq⟩
      have hs := of_step (val (2 ^ 64) ws) (j + 1) (by omega)
      rw [show j + 1 - 1 = j by omega] at hs
      rw [hs] at hq
      have HQ' := hid hq
      have hb' := hb.trans (ho.below (Nat.le_refl _) hb.size)
      clear hq hs hbd hx cj ho
      go_wp2_with fail
      exact ⟨⟨j, by omega, rfl, HQ'.out, hb'⟩, by simp [intOf]⟩
    · have hk1 : k = 0 := by omega
      subst hk1
      rw [show (((0 : Nat) : Int) - 1) = -1 by omega]
      have hq := HQ.out
      rw [Nat.pow_zero, Nat.div_one] at hq
      generalize hn : val (2 ^ 64) ws % ordL = n at *
      have HN := hid hn
      have hltn : n < ordL := by rw [← hn]; exact Nat.mod_lt _ (by decide)
      clear hn HQ
      obtain ⟨a0, a1, a2, a3, hqq, _⟩ := quad_w4 n (by unfold ordL at hltn; omega)
      rw [hqq] at hq
      have c0 : wr.cell? ⟨W.heap.size, 0, none⟩ = some (.int .u64 a0) := cell_at hq 0
      have c1 : wr.cell? ⟨W.heap.size, 1, none⟩ = some (.int .u64 a1) := cell_at hq 1
      have c2 : wr.cell? ⟨W.heap.size, 2, none⟩ = some (.int .u64 a2) := cell_at hq 2
      have c3 : wr.cell? ⟨W.heap.size, 3, none⟩ = some (.int .u64 a3) := cell_at hq 3
      have hf := free_at hq
      have HQ2 := hid hq
      have HQQ := hid hqq
      clear hq hqq
      go_wp2_with fail
      have hq2 := at_setCell (at_setCell (at_setCell (at_setCell HQ2.out 0 (.int .u64 a0)) 1 (.int .u64 a1)) 2 (.int .u64 a2)) 3 (.int .u64 a3)
      refine bodyPost_ret (v := .agg #[.int .u64 a0, .int .u64 a1, .int .u64 a2, .int .u64 a3]) (by simp [results, Tryd.results32, go_sem, c0, c1, c2, c3]) rfl ⟨by rw [HN.out, HQQ.out], ?_⟩
      exact (((hb.setCell (Nat.le_refl _) _).setCell (Nat.le_refl _) _).setCell (Nat.le_refl _) _).setCell (Nat.le_refl _) _

end Go.Proofs.YtceljjnohjnepaaDoor

namespace Go.Proofs.YtceljjnohjnepaaDoor
open Go.RowKit DG

set_option maxRecDepth 100000 in
@[go_sem] theorem make4 (w : World) : (Instr.makeSlice 63 (.int .i64 4) (.int .i64 4)).run Tryd.prog w = .ok (.slice (some ⟨w.heap.size, 0, none⟩) 4 4) (w.alloc (.cells (ints .u64 [0, 0, 0, 0]) 34)) := by kernel_rfl
set_option maxRecDepth 100000 in
@[go_sem] theorem make8 (w : World) : (Instr.makeSlice 63 (.int .i64 8) (.int .i64 8)).run Tryd.prog w = .ok (.slice (some ⟨w.heap.size, 0, none⟩) 8 8) (w.alloc (.cells (ints .u64 [0, 0, 0, 0, 0, 0, 0, 0]) 34)) := by kernel_rfl

set_option maxRecDepth 100000 in
set_option maxHeartbeats 1000000 in
theorem oOf_32 (s : ByteArray) (W : World) (hs' : s.size = 32) :
    Calls Tryd.prog 19 #[.string s] W fun e w' => e = .returned (.tuple #[.agg (quad (bytesNat s.data.toList % ordL)), .int .i64 0]) ∧ Below W.heap.size W w' := by
  have hs2 : (s.size : Int) = 32 := by omega
  have HS := hid hs'
  have hsl : s.data.toList.length = 32 := by simpa using HS.out
  have HSL := hid hsl
  clear hsl
  go_enter Tryd.func19, Tryd.ntmps19
  go_wp2_with fail
  go_loopw [21] (fun i wr => ∃ k : Nat, k ≤ 32 ∧ i = .int .i64 (k : Int) ∧ wr.heap[W.heap.size]? = some (.cells #[.int .u64 0, .int .u64 0, .int .u64 0, .int .u64 0] 37 (0, 0)) ∧
      wr.heap[W.heap.size + 1]? = some (.cells (ints .u64 (digs (2 ^ 64) (bytesNat (s.data.toList.take k)) 4)) 34 (0, 0)) ∧ Below W.heap.size W wr) (fun i _ => (32 - intOf i).toNat)
  case atStart =>
    have e0 : digs (2 ^ 64) (bytesNat (s.data.toList.take 0)) 4 = [0, 0, 0, 0] := by rw [List.take_zero]; rfl
    refine ⟨0, by omega, rfl, alloc_old (alloc_at _ _), ?_, below_alloc (below_new _) _⟩
    rw [e0]
    have := alloc_at (W.alloc (.cells #[.int .u64 0, .int .u64 0, .int .u64 0, .int .u64 0] 37)) (.cells (ints .u64 [0, 0, 0, 0]) 34)
    simpa using this
  case round =>
    obtain ⟨k, hk, rfl, ha, hq, hb⟩ := hrel
    have HA := hid ha
    clear ha
    by_cases hlt : k < 32
    · have cj := ints_cell hq (j := k / 8) (by rw [digs_length]; omega)
      have hf := free_at hq
      have hkz : k < s.size := by omega
      have hi1 : 0 ≤ (k : Int) / 8 := by omega
      have hi2 : (k : Int) / 8 < 4 := by omega
      have hi3 : ((k : Int) / 8).toNat = k / 8 := by omega
      obtain ⟨hst, hlt2⟩ := word_step (n := bytesNat (s.data.toList.take k)) (b := s[k].toNat) (k := k) (m := 4) (by
        have := bytesNat_lt (s.data.toList.take k); rwa [List.length_take, HSL.out, Nat.min_eq_left hk] at this) s[k].toNat_lt (by omega)
      have htk := bytesNat_take_succ s.data.toList k (by rw [HSL.out]; exact hlt)
      rw [show s.data.toList[k]'(by rw [HSL.out]; exact hlt) = s[k] from rfl] at htk
      rw [← htk] at hst
      have hst2 := ints_store hq (k / 8) ((digs (2 ^ 64) (bytesNat (s.data.toList.take k)) 4).getD (k / 8) 0 + s[k].toNat * 2 ^ (8 * (k % 8)))
      rw [← hst, ← or_byte _ _ _ hlt2 s[k].toNat_lt (Nat.mod_lt _ (by decide))] at hst2
      generalize hx : (digs (2 ^ 64) (bytesNat (s.data.toList.take k)) 4).getD (k / 8) 0 = x at *
      have HN := hid hst2
      clear hx hq htk hst hlt2 hst2
      go_wp2_with fail
      refine still_tail 16 (by kernel_rfl) (by kernel_rfl) ?_
      simp only [List.take_succ_cons, List.take_zero, List.drop_succ_cons, List.drop_zero]
      repeat (first | (refine wpStill_step (fun K hK => ?_); go_simp; refine hK _ ?_; clear hK K; try go_ints))
      refine wpStill_nil ?_
      go_wp2_with fail
      exact ⟨⟨k + 1, by omega, by go_num, at_setCell_other HA.out (by simp) _, HN.out, (hb.setCell (by simp) _).drew⟩, by simp [intOf]; omega⟩
    · have hkn : k = 32 := by omega
      subst hkn
      have hwc : ∀ j, j < 4 → wr.cell? ⟨W.heap.size + 1, 0 + j, none⟩ = some (.int .u64 (((digs (2 ^ 64) (bytesNat s.data.toList) 4).getD j 0 : Nat) : Int)) := fun j hj => by
        rw [List.take_of_length_le (by rw [HSL.out]; omega)] at hq
        rw [Nat.zero_add]; exact ints_cell hq (by rw [digs_length]; exact hj)
      have HW := hid hwc
      clear hwc hq
      go_wp2_with fail
      have hcall := of_any (W.heap.size + 1) 0 4 (digs (2 ^ 64) (bytesNat s.data.toList) 4) wr (digs_all (by decide) _ _) (by rw [digs_length]; omega) (by rw [digs_length]; omega) (by rw [digs_length]; omega) (by rw [digs_length]; exact HW.out)
      rw [digs_length, val_digs, Nat.mod_eq_of_lt (a := bytesNat s.data.toList) (b := (2 ^ 64) ^ 4) (by have := bytesNat_lt s.data.toList; rw [HSL.out] at this; exact Nat.lt_of_lt_of_eq this (by decide))] at hcall
      refine hcall.mono ?_
      clear hcall
      rintro e w' ⟨rfl, hb2⟩
      have ha2 := (hb2.block W.heap.size (lt_blk HA.out)).trans HA.out
      have hb3 := hb.trans (hb2.mono hb.size)
      clear HA HW hb2 hb
      generalize hn : bytesNat s.data.toList % ordL = n at *
      have hltn : n < ordL := by rw [← hn]; exact Nat.mod_lt _ (by decide)
      have HN := hid hn
      clear hn
      obtain ⟨a0, a1, a2, a3, hqq, _⟩ := quad_w4 n (by unfold ordL at hltn; omega)
      rw [hqq]
      have HQQ := hid hqq
      clear hqq
      have c0 : w'.cell? ⟨W.heap.size, 0, none⟩ = some (.int .u64 0) := cell_at ha2 0
      have c1 : w'.cell? ⟨W.heap.size, 1, none⟩ = some (.int .u64 0) := cell_at ha2 1
      have c2 : w'.cell? ⟨W.heap.size, 2, none⟩ = some (.int .u64 0) := cell_at ha2 2
      have c3 : w'.cell? ⟨W.heap.size, 3, none⟩ = some (.int .u64 0) := cell_at ha2 3
      have hf := free_at ha2
      clear ha2
      go_wp2_with fail
      refine bodyPost_ret (v := .tuple #[.agg #[.int .u64 a0, .int .u64 a1, .int .u64 a2, .int .u64 a3], .int .i64 0]) (by simp [results, Tryd.results19, go_sem, c0, c1, c2, c3]) rfl ⟨by rw [HN.out, HQQ.out], ?_⟩
      exact (((hb3.setCell (Nat.le_refl _) _).setCell (Nat.le_refl _) _).setCell (Nat.le_refl _) _).setCell (Nat.le_refl _) _

set_option maxRecDepth 100000 in
set_option maxHeartbeats 1000000 in
theorem Of_64 (s : ByteArray) (W : World) (hs' : s.size = 64) :
    Calls Tryd.prog 19 #[.string s] W fun e w' => e = .returned (.tuple #[.agg (quad (bytesNat s.data.toList % ordL)), .int .i64 0]) ∧ Below W.heap.size W w' := by
  have hs2 : (s.size : Int) = 64 := by omega
  have HS := hid hs'
  have hsl : s.data.toList.length = 64 := by simpa using HS.out
  have HSL := hid hsl
  clear hsl
  go_enter Tryd.func19, Tryd.ntmps19
  go_wp2_with fail
  go_loopw [21] (fun i wr => ∃ k : Nat, k ≤ 64 ∧ i = .int .i64 (k : Int) ∧ wr.heap[W.heap.size]? = some (.cells #[.int .u64 0, .int .u64 0, .int .u64 0, .int .u64 0] 37 (0, 0)) ∧
      wr.heap[W.heap.size + 1]? = some (.cells (ints .u64 (digs (2 ^ 64) (bytesNat (s.data.toList.take k)) 8)) 34 (0, 0)) ∧ Below W.heap.size W wr) (fun i _ => (64 - intOf i).toNat)
  case atStart =>
    have e0 : digs (2 ^ 64) (bytesNat (s.data.toList.take 0)) 8 = [0, 0, 0, 0, 0, 0, 0, 0] := by rw [List.take_zero]; rfl
    refine ⟨0, by omega, rfl, alloc_old (alloc_at _ _), ?_, below_alloc (below_new _) _⟩
    rw [e0]
    have := alloc_at (W.alloc (.cells #[.int .u64 0, .int .u64 0, .int .u64 0, .int .u64 0] 37)) (.cells (ints .u64 [0, 0, 0, 0, 0, 0, 0, 0]) 34)
    simpa using this
  case round =>
    obtain ⟨k, hk, rfl, ha, hq, hb⟩ := hrel
    have HA := hid ha
    clear ha
    by_cases hlt : k < 64
    · have cj := ints_cell hq (j := k / 8) (by rw [digs_length]; omega)
      have hf := free_at hq
      have hkz : k < s.size := by omega
      have hi1 : 0 ≤ (k : Int) / 8 := by omega
      have hi2 : (k : Int) / 8 < 8 := by omega
      have hi3 : ((k : Int) / 8).toNat = k / 8 := by omega
      obtain ⟨hst, hlt2⟩ := word_step (n := bytesNat (s.data.toList.take k)) (b := s[k].toNat) (k := k) (m := 8) (by
        have := bytesNat_lt (s.data.toList.take k); rwa [List.length_take, HSL.out, Nat.min_eq_left hk] at this) s[k].toNat_lt (by omega)
      have htk := bytesNat_take_succ s.data.toList k (by rw [HSL.out]; exact hlt)
      rw [show s.data.toList[k]'(by rw [HSL.out]; exact hlt) = s[k] from rfl] at htk
      rw [← htk] at hst
      have hst2 := ints_store hq (k / 8) ((digs (2 ^ 64) (bytesNat (s.data.toList.take k)) 8).getD (k / 8) 0 + s[k].toNat * 2 ^ (8 * (k % 8)))
      rw [← hst, ← or_byte _ _ _ hlt2 s[k].toNat_lt (Nat.mod_lt _ (by decide))] at hst2
      generalize hx : (digs (2 ^ 64) (bytesNat (s.data.toList.take k)) 8).getD (k / 8) 0 = x at *
      have HN := hid hst2
      clear hx hq htk hst hlt2 hst2
      go_wp2_with fail
      refine still_tail 16 (by kernel_rfl) (by kernel_rfl) ?_
      simp only [List.take_succ_cons, List.take_zero, List.drop_succ_cons, List.drop_zero]
      repeat (first | (refine wpStill_step (fun K hK => ?_); go_simp; refine hK _ ?_; clear hK K; try go_ints))
      refine wpStill_nil ?_
      go_wp2_with fail
      exact ⟨⟨k + 1, by omega, by go_num, at_setCell_other HA.out (by simp) _, HN.out, (hb.setCell (by simp) _).drew⟩, by simp [intOf]; omega⟩
    · have hkn : k = 64 := by omega
      subst hkn
      have hwc : ∀ j, j < 8 → wr.cell? ⟨W.heap.size + 1, 0 + j, none⟩ = some (.int .u64 (((digs (2 ^ 64) (bytesNat s.data.toList) 8).getD j 0 : Nat) : Int)) := fun j hj => by
        rw [List.take_of_length_le (by rw [HSL.out]; omega)] at hq
        rw [Nat.zero_add]; exact ints_cell hq (by rw [digs_length]; exact hj)
      have HW := hid hwc
      clear hwc hq
      go_wp2_with fail
      have hcall := of_any (W.heap.size + 1) 0 8 (digs (2 ^ 64) (bytesNat s.data.toList) 8) wr (digs_all (by decide) _ _) (by rw [digs_length]; omega) (by rw [digs_length]; omega) (by rw [digs_length]; omega) (by rw [digs_length]; exact HW.out)
      rw [digs_length, val_digs, Nat.mod_eq_of_lt (a := bytesNat s.data.toList) (b := (2 ^ 64) ^ 8) (by have := bytesNat_lt s.data.toList; rw [HSL.out] at this; exact Nat.lt_of_lt_of_eq this (by decide))] at hcall
      refine hcall.mono ?_
      clear hcall
      rintro e w' ⟨rfl, hb2⟩
      have ha2 := (hb2.block W.heap.size (lt_blk HA.out)).trans HA.out
      have hb3 := hb.trans (hb2.mono hb.size)
      clear HA HW hb2 hb
      generalize hn : bytesNat s.data.toList % ordL = n at *
      have hltn : n < ordL := by rw [← hn]; exact Nat.mod_lt _ (by decide)
      have HN := hid hn
      clear hn
      obtain ⟨a0, a1, a2, a3, hqq, _⟩ := quad_w4 n (by unfold ordL at hltn; omega)
      rw [hqq]
      have HQQ := hid hqq
      clear hqq
      have c0 : w'.cell? ⟨W.heap.size, 0, none⟩ = some (.int .u64 0) := cell_at ha2 0
      have c1 : w'.cell? ⟨W.heap.size, 1, none⟩ = some (.int .u64 0) := cell_at ha2 1
      have c2 : w'.cell? ⟨W.heap.size, 2, none⟩ = some (.int .u64 0) := cell_at ha2 2
      have c3 : w'.cell? ⟨W.heap.size, 3, none⟩ = some (.int .u64 0) := cell_at ha2 3
      have hf := free_at ha2
      clear ha2
      go_wp2_with fail
      refine bodyPost_ret (v := .tuple #[.agg #[.int .u64 a0, .int .u64 a1, .int .u64 a2, .int .u64 a3], .int .i64 0]) (by simp [results, Tryd.results19, go_sem, c0, c1, c2, c3]) rfl ⟨by rw [HN.out, HQQ.out], ?_⟩
      exact (((hb3.setCell (Nat.le_refl _) _).setCell (Nat.le_refl _) _).setCell (Nat.le_refl _) _).setCell (Nat.le_refl _) _

set_option maxRecDepth 100000 in
set_option maxHeartbeats 400000 in
theorem oOf_no (s : ByteArray) (W : World) (h1 : s.size ≠ 32) (h2 : s.size ≠ 64) (_hmax : s.size ≤ 9223372036854775807) :
    Calls Tryd.prog 19 #[.string s] W fun e w' => e = .returned (.tuple #[.agg (quad 0), .int .i64 2]) ∧ Below W.heap.size W w' := by
  have g1 : ((s.size : Int) != 32) = true := by rw [bne_iff_ne]; omega
  have g2 : ((s.size : Int) != 64) = true := by rw [bne_iff_ne]; omega
  clear h1 h2
  go_enter Tryd.func19, Tryd.ntmps19
  go_wp2_with fail
  exact bodyPost_ret (v := .tuple #[.agg (quad 0), .int .i64 2]) (by simp [results, Tryd.results19, go_sem, quad_zero]) rfl ⟨rfl, below_new _⟩

end Go.Proofs.YtceljjnohjnepaaDoor
