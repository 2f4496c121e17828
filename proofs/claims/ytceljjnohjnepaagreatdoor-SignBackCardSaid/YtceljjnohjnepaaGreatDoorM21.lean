/- The document's curve: a point's bytes. The document's curve: which point bytes are. The document's curve: the base point, multiples of two points. A region that draws its order, with one store of a whole value into an old block, which need not wait for all that stands ahead. -/
import Derived.Test.YtceljjnohjnepaaGreatDoorM20
import Derived.Test.YtceljjnohjnepaaGreatDoorM16
import Derived.Deep.LoopGhost
import Derived.Lib.SlBytesConst
import Derived.Test.YtceljjnohjnepaaGreatDoorM10
namespace Go.Proofs.YtceljjnohjnepaaGreatDoor
open Go Go.RowKit DG
attribute [local go_sem ↓] exl_Num exs_Num exl_RPt exs_RPt exb_RPt
                    attribute [local go_sem] ldm_Num str_Num ldr_RPt str_RPt to_nine0 rpt_zero bld_rpt bld_rpt0

set_option maxRecDepth 100000 in
theorem odd_nine (x : Nat) : (Instr.index 48 (.agg (nine x)) (.int .i64 0)).run Tryz.prog = fun w => .ok (.int .u64 ((x % 1073741824 : Nat) : Int)) w := by
  funext w
  have h := run_index_ints (P := Tryz.prog) (w := w) (n := 9) (k := .u64) Tryz.underlying48 (by rfl) (by kernel_rfl) (digs B30 x 9) (digs_length _ _) 0 (by decide)
  rw [show (digs B30 x 9).getD 0 0 = x % 1073741824 from rfl] at h
  exact h
set_option maxRecDepth 100000 in
theorem Laid.on {w w' : World} {b : Nat} {l : List UInt8} (h : Laid w b l) (hb : Below w.heap.size w w') : Laid w' b l := by
  obtain ⟨C, T, n, h1, h2, h3⟩ := h.ex
  exact ⟨⟨C, T, n, (hb.block b (lt_blk h1)).trans h1, h2, h3⟩⟩
set_option maxRecDepth 100000 in
theorem nbytes_enc (n : Nat) (W : World) (h : n < pP) : Calls Tryz.prog 45 #[.agg (nine n)] W fun e w' => e = .returned (.string (encB n false)) ∧ Below W.heap.size W w' := ref_Bytes n W (Nat.lt_trans h (by decide))

set_option maxRecDepth 100000 in
set_option maxHeartbeats 4000000 in
theorem rbytes_core (x y z v a b : Nat) (od : Bool) (s : ByteArray) (W : World) (hx : x < pP) (hy : y < pP) (hz : z < pP)
    (hv : rInv z = v) (ha : rm y v = a) (hb : rm x v = b) (hs : encB a false = s) (ho : decide (b % 2 = 1) = od) (hvl : v < pP) (h32 : s.size = 32)
    (o : ByteArray) (hof : od = false → s = o) (hot : od = true → (⟨(s.data.toList.set 31 (s.data.toList.getD 31 0 ||| 128)).toArray⟩ : ByteArray) = o) :
    Calls Tryz.prog 18 #[.agg (rpt x y z)] W fun r w' => r = .returned (.string o) ∧ Below W.heap.size W w' := by
  have I1 := hid (fun w => hv ▸ ref_Inv z w hz)
  have M1 := hid (fun w => ha ▸ rmul_v y v w hy hvl)
  have M2 := hid (fun w => hb ▸ rmul_v x v w hx hvl)
  have B1 := hid (fun w => hs ▸ nbytes_enc a w (ha ▸ rm_lt _ _))
  have hodd := odd9 b
  rw [ho] at hodd
  have hi := odd_nine b
  have HOF := hid hof
  have HOT := hid hot
  clear hv ha hb ho hx hy hz hvl hs hof hot
  obtain ⟨l, hl⟩ : ∃ l, s.data.toList = l := ⟨_, rfl⟩
  have hll : l.length = 32 := by rw [← hl]; simpa using h32
  go_enter Tryz.func18, Tryz.ntmps18
  go_upto_region 1 with (fail)
  obtain ⟨w1, hw1⟩ : ∃ w1, W.alloc (.cells (rpt x y z) 50) = w1 := ⟨_, rfl⟩
  have kA := kept (show hget w1 (W.heap.size) = some (.cells (rpt x y z) 50 (0, 0)) by rw [← hw1]; clear hw1; go_simp)
  have b1 : Hid (Below W.heap.size W w1) := by rw [← hw1]; repeat (first | exact Below.refl _ _ | exact below_new _ | assumption | refine Below.drew ?_ | refine Below.drewN ?_ _ | refine below_alloc ?_ _ | refine below_blk' ?_ (by omega) _)
  rw [hw1]
  clear hw1
  try clear gA lA nA mA
  try clear jA
  have jA := kA.later
  obtain ⟨gA, lA, nA, mA⟩ := kA
  go_wp2_with fail
  try clear jA
  refine (I1.out _).mono ?_
  rintro e w2 ⟨rfl, hb2⟩
  have kA := Kept.on (kept (b := W.heap.size) (o := .cells (rpt x y z) 50 (0, 0)) (by go_simp)) hb2
  have b2 : Hid (Below W.heap.size W w2) := below_to (by repeat (first | exact Below.refl _ _ | exact below_new _ | exact b1.out | assumption | refine Below.drew ?_ | refine Below.drewN ?_ _ | refine below_alloc ?_ _ | refine below_blk' ?_ (by omega) _)) hb2
  clear hb2
  try clear gA lA nA mA
  obtain ⟨gA, lA, nA, mA⟩ := kA
  clear b1
  go_upto_region 2 with (fail)
  obtain ⟨Z, hZ⟩ : ∃ b, w2.heap.size = b := ⟨_, rfl⟩
  have wZ : W.heap.size ≤ Z := by rw [← hZ]; exact b2.out.size
  have eAZ : (W.heap.size = Z) = False := by rw [← hZ]; exact nA
  have eZA : (Z = W.heap.size) = False := by rw [← hZ]; exact mA
  obtain ⟨w3, hw3⟩ : ∃ w3, w2.alloc (.cells (nine v) 48) = w3 := ⟨_, rfl⟩
  have kA := kept (show hget w3 (W.heap.size) = some (.cells (rpt x y z) 50 (0, 0)) by rw [← hw3]; clear hw3; go_simp)
  have kZ := kept (show hget w3 (w2.heap.size) = some (.cells (nine v) 48) by rw [← hw3]; clear hw3; go_simp)
  have b3 : Hid (Below W.heap.size W w3) := by rw [← hw3]; repeat (first | exact Below.refl _ _ | exact below_new _ | exact b2.out | assumption | refine Below.drew ?_ | refine Below.drewN ?_ _ | refine below_alloc ?_ _ | refine below_blk' ?_ (by omega) _)
  rw [hw3]
  clear hw3
  try clear gA lA nA mA
  try clear jA
  have jA := kA.later
  obtain ⟨gA, lA, nA, mA⟩ := kA
  try clear gZ lZ nZ mZ
  try clear jZ
  have jZ := kZ.later
  obtain ⟨gZ, lZ, nZ, mZ⟩ := kZ
  clear b2
  rw [hZ] at *
  clear hZ
  go_wp2_with fail
  try clear jA jZ
  refine (M1.out _).mono ?_
  rintro e w4 ⟨rfl, hb4⟩
  have kA := Kept.on (kept (b := W.heap.size) (o := .cells (rpt x y z) 50 (0, 0)) (by go_simp)) hb4
  have kZ := Kept.on (kept (b := Z) (o := .cells (nine v) 48 (0, 0)) (by go_simp)) hb4
  have b4 : Hid (Below W.heap.size W w4) := below_to (by repeat (first | exact Below.refl _ _ | exact below_new _ | exact b3.out | assumption | refine Below.drew ?_ | refine Below.drewN ?_ _ | refine below_alloc ?_ _ | refine below_blk' ?_ (by omega) _)) hb4
  clear hb4
  try clear gA lA nA mA
  obtain ⟨gA, lA, nA, mA⟩ := kA
  try clear gZ lZ nZ mZ
  obtain ⟨gZ, lZ, nZ, mZ⟩ := kZ
  clear b3
  go_wp2_with fail
  try clear jA jZ
  refine (B1.out _).mono ?_
  rintro e w5 ⟨rfl, hb5⟩
  have kA := Kept.on (kept (b := W.heap.size) (o := .cells (rpt x y z) 50 (0, 0)) (by go_simp)) hb5
  have kZ := Kept.on (kept (b := Z) (o := .cells (nine v) 48 (0, 0)) (by go_simp)) hb5
  have b5 : Hid (Below W.heap.size W w5) := below_to (by repeat (first | exact Below.refl _ _ | exact below_new _ | exact b4.out | assumption | refine Below.drew ?_ | refine Below.drewN ?_ _ | refine below_alloc ?_ _ | refine below_blk' ?_ (by omega) _)) hb5
  clear hb5
  try clear gA lA nA mA
  obtain ⟨gA, lA, nA, mA⟩ := kA
  try clear gZ lZ nZ mZ
  obtain ⟨gZ, lZ, nZ, mZ⟩ := kZ
  clear b4
  go_upto_region 3 with (fail)
  have hL := laid_bytes w5 s
  have hB := bytesWorld_below w5 5 s
  rw [hl] at hL
  have fA := (Kept.on (kept gA) hB).get
  have fZ := (Kept.on (kept gZ) hB).get
  have b6 := hid (below_to b5.out hB)
  have hN := b5.out.size
  clear b5 gA lA nA mA gZ lZ nZ mZ hB
  generalize Lib.bytesWorld w5 5 s = w6 at *
  generalize grownCap w5 32 0 5 = cap at *
  generalize w5.heap.size = N at *
  obtain ⟨gA, lA, nA, mA⟩ := kept (show hget w6 (W.heap.size) = some (.cells (rpt x y z) 50 (0, 0)) by first | assumption | go_simp)
  obtain ⟨gZ, lZ, nZ, mZ⟩ := kept (show hget w6 (Z) = some (.cells (nine v) 48 (0, 0)) by first | assumption | go_simp)
  clear fA fZ
  have HL := hid hL
  clear hL
  go_wp2_with fail
  refine (M2.out _).mono ?_
  rintro e w7 ⟨rfl, hb7⟩
  have L7 := HL.out.on hb7
  have b7 := hid (below_to b6.out hb7)
  clear HL b6 hb7 gA lA nA mA gZ lZ nZ mZ
  have HLL := hid hll
  cases od
  · have hconv := fun (cap : Nat) => oconv_string w7 N 0 32 cap l hll (fun j hj => by rw [Nat.zero_add]; exact L7.cell (by omega))
    clear L7 hll
    go_wp2_with fail
    go_ret
    exact ⟨(congrArg (fun x => Ending.returned (Value.string x)) (show (⟨l.toArray⟩ : ByteArray) = s from ba_ext (by rw [hl]))).trans (congrArg (fun x => Ending.returned (Value.string x)) (HOF.out (by first | rfl | trivial))), b7.out⟩
  · have c1 := L7.cell (j := 31) (by omega)
    have f1 := L7.free (j := 31) (by omega)
    have L8 : Laid (w7.setCell ⟨N, 31, none⟩ (.int .u8 (bits .or .u8 ((l.getD 31 0).toNat : Int) 128))) N (l.set 31 (l.getD 31 0 ||| 128)) := by
      rw [or128_u8]
      exact L7.set 31 (l.getD 31 0 ||| 128)
    have HO : Hid ((⟨(l.set 31 (l.getD 31 0 ||| 128)).toArray⟩ : ByteArray) = o) := by
      have h9 := HOT.out (by first | rfl | trivial)
      rw [hl] at h9
      exact h9
    have hl8 : (l.set 31 (l.getD 31 0 ||| 128)).length = 32 := by rw [List.length_set]; exact hll
    generalize hl2 : l.set 31 (l.getD 31 0 ||| 128) = l2 at *
    generalize l.getD 31 0 = x1 at *
    have H8 := hid L8
    clear L7 hll hl2 L8
    go_upto_region 5 with (fail)
    have hconv := fun (cap : Nat) => oconv_string (w7.setCell ⟨N, 31, none⟩ (.int .u8 (bits .or .u8 (x1.toNat : Int) 128))) N 0 32 cap l2 hl8 (fun j hj => by rw [Nat.zero_add]; exact H8.out.cell (by omega))
    have b8 := hid (b7.out.setCell (p := ⟨N, 31, none⟩) hN (.int .u8 (bits .or .u8 (x1.toNat : Int) 128)))
    clear H8 b7 c1 f1
    go_wp2_with fail
    go_ret
    exact ⟨congrArg (fun x => Ending.returned (Value.string x)) HO.out, b8.out⟩
set_option maxRecDepth 100000 in
theorem set_top {s : ByteArray} (h : s.size = 32) (hs : 31 < s.size) : (⟨(s.data.toList.set 31 (s.data.toList.getD 31 0 ||| 128)).toArray⟩ : ByteArray) = topB s (s[31] ||| 128) := by
  have hl : s.data.toList.length = 32 := by simpa using h
  have hg : s.data.toList.getD 31 0 = s[31] := by
    rw [List.getD_eq_getElem?_getD, List.getElem?_eq_getElem (by omega), Option.getD_some]
    rfl
  rw [hg]
  refine ba_ext ?_
  rw [topB_list]
  show s.data.toList.set 31 (s[31] ||| 128) = _
  generalize s[31] ||| 128 = x
  apply List.ext_getElem
  · simp [hl]
  · intro i h1 h2
    rw [List.length_set] at h1
    rw [List.getElem_set]
    split
    · rename_i he
      subst he
      rw [List.getElem_append_right (by simp [hl])]
      simp [hl]
    · rw [List.getElem_append_left (by simp; omega), List.getElem_take]
set_option maxRecDepth 100000 in
theorem rbytes_v (s : R3) (W : World) (h : s.bd) : Calls Tryz.prog 18 #[rv s] W fun r w' => r = .returned (.string s.bytes) ∧ Below W.heap.size W w' := by
  obtain ⟨S, hS⟩ : ∃ S, encB (rm s.y (rInv s.z)) false = S := ⟨_, rfl⟩
  have h32 : S.size = 32 := hS ▸ enc_size _ _
  have hlt : rm s.y (rInv s.z) < t255 := Nat.lt_trans (rm_lt _ _) pP_255
  refine rbytes_core s.x s.y s.z _ _ _ _ S W h.x h.y h.z rfl rfl rfl hS rfl (rPow_lt _ _) h32 s.bytes (fun ho => ?_) (fun ho => ?_)
  · unfold R3.bytes; rw [ho, hS]
  · unfold R3.bytes; rw [ho, set_top h32 (by omega)]; exact enc_top hlt hS (by omega)

end Go.Proofs.YtceljjnohjnepaaGreatDoor

namespace Go.Proofs.YtceljjnohjnepaaGreatDoor
open Go Go.RowKit DG
attribute [local go_sem ↓] exl_Num exs_Num exl_RPt exs_RPt exb_RPt
                    attribute [local go_sem] ldm_Num str_Num ldr_RPt str_RPt to_nine0 rpt_zero bld_rpt bld_rpt0

def rU (y : Nat) : Nat := rm (rs (rm y y) 1) (rInv (ra (rm dN (rm y y)) 1))
def rX (s : ByteArray) : Nat := if rIs (rU (dY s)) = true then rRoot2 (rU (dY s)) (dOd s) else 0
def rP (s : ByteArray) : R3 := ⟨rX s, dY s, 1⟩
set_option maxRecDepth 100000 in
theorem dU_mod {y : Nat} (h : y < p2) : dU y % pP = rU y := by
  have e := fpU h
  have hy := dU_lt h
  have hlt : rU y < pP := rm_lt _ _
  rw [← Nat.mod_eq_of_lt hlt, ← fp_same, e]
  unfold rU
  have hd : cv.D = fp dN := rfl
  rw [fprm, fprs (by decide), fprm, fpri (ra_lt _ _), fpra, fprm, fprm, hd, show cv.inv = finv from rfl, show fp 1 = 1 from rfl]
  congr 2
  generalize fp y = v
  generalize fp dN = d
  clear e hd hy hlt
  grind
set_option maxRecDepth 100000 in
theorem rX_mod (s : ByteArray) : dX s % pP = rX s := by
  unfold dX rX
  rw [rootV_mod (dU_lt (dY_lt s)), dU_mod (dY_lt s)]
set_option maxRecDepth 100000 in
theorem rX_lt (s : ByteArray) : rX s < pP := by rw [← rX_mod]; exact Nat.mod_lt _ (by decide)
set_option maxRecDepth 100000 in
theorem rOk_eq (s : ByteArray) : rootOk (dU (dY s)) (dOd s) = (rIs (rU (dY s)) && (decide (rRoot2 (rU (dY s)) (dOd s) % 2 = 1) == dOd s)) := by
  rw [ok_mod (dU_lt (dY_lt s)), dU_mod (dY_lt s)]
set_option maxRecDepth 100000 in
theorem rP_ok {s : ByteArray} (h : dOk s = true) : (rP s).ok (dPt s h) := by
  have h0 := h
  unfold dOk at h0
  rw [Bool.and_eq_true, Bool.and_eq_true, decide_eq_true_eq, decide_eq_true_eq] at h0
  have he : fp (rX s) = fp (dX s) := by rw [← rX_mod]; exact fp_mod _
  refine ⟨⟨rX_lt s, h0.2.2, show (1 : Nat) < pP by decide⟩, ⟨cv.one, ?_, ?_⟩⟩
  · show fp (rX s) = fp (dX s) * fp 1
    rw [he, ← fp_mul, Nat.mul_one]
  · show fp (dY s) = fp (dY s) * fp 1
    rw [← fp_mul, Nat.mul_one]

set_option maxRecDepth 100000 in
theorem andNot128_u8 (x : UInt8) : bits .andNot .u8 (x.toNat : Int) 128 = ((x &&& 127).toNat : Int) := by
  rw [show (128 : Int) = ((128 : Nat) : Int) from rfl, u8_andNot_nat _ _ x.toNat_lt (by decide), UInt8.toNat_and]; rfl
set_option maxRecDepth 100000 in
theorem set_topx {s : ByteArray} (h : s.size = 32) (x : UInt8) : (⟨(s.data.toList.set 31 x).toArray⟩ : ByteArray) = topB s x := by
  have hl : s.data.toList.length = 32 := by simpa using h
  refine ba_ext ?_
  rw [topB_list]
  show s.data.toList.set 31 x = _
  apply List.ext_getElem
  · simp [hl]
  · intro i h1 h2
    rw [List.length_set] at h1
    rw [List.getElem_set]
    split
    · rename_i he
      subst he
      rw [List.getElem_append_right (by simp [hl])]
      simp [hl]
    · rw [List.getElem_append_left (by simp; omega), List.getElem_take]

set_option maxRecDepth 100000 in
theorem rdecode_short (s : ByteArray) (W : World) (h1 : s.size ≠ 32) (_hmax : s.size ≤ 9223372036854775807) : Calls Tryz.prog 36 #[.string s] W fun r w' => r = .returned (.tuple #[.agg (rpt 0 0 0), .int .i64 2]) ∧ Below W.heap.size W w' := by
  have g1 : ((s.size : Int) != 32) = true := by rw [bne_iff_ne]; omega
  clear h1
  go_enter Tryz.func36, Tryz.ntmps36
  go_wp2_with fail
  refine bodyPost_ret (v := .tuple #[.agg (rpt 0 0 0), .int .i64 2]) (results_cell_tmp Tryz.results36 _ _ (W.heap.size) 50 (rpt 0 0 0) (0, 0) _ (.int .i64 2) (by rfl) (by rfl) (by rw [← hget_eq]; go_simp) Tryz.underlying50 rfl (by rw [info_RPt]; go_simp)) rfl ?_
  exact ⟨rfl, by repeat (first | exact Below.refl _ _ | exact below_new _ | assumption | refine Below.drew ?_ | refine Below.drewN ?_ _ | refine below_alloc ?_ _)⟩

set_option maxRecDepth 100000 in
set_option maxHeartbeats 4000000 in
theorem rdecode_core (s u : ByteArray) (y yy a b c e f x : Nat) (od ok cn : Bool) (W : World) (h1 : s.size = 32) (hu : (⟨(s.data.toList.set 31 (s.data.toList.getD 31 0 &&& 127)).toArray⟩ : ByteArray) = u) (hu32 : u.size = 32)
    (ho : decide ((128 : Int) ≤ ((s.data.toList.getD 31 0).toNat : Int)) = od)
    (_hyl : y < pP ∨ cn = false) (hy : bytesNat u.data.toList % pP = y) (hyy : rm y y = yy) (ha : rs yy 1 = a) (hb : rm dN yy = b) (hc : ra b 1 = c) (he : rInv c = e) (hf : rm a e = f)
    (hok : (rIs f && (decide (rRoot2 f od % 2 = 1) == od)) = ok) (hx : (if rIs f = true then rRoot2 f od else 0) = x) (hcn : canB u = cn) :
    Calls Tryz.prog 36 #[.string s] W fun r w' => r = .returned (if cn && ok then .tuple #[.agg (rpt x y 1), .int .i64 0] else .tuple #[.agg (rpt 0 0 0), .int .i64 90]) ∧ Below W.heap.size W w' := by
  have ly : y < pP := hy ▸ Nat.mod_lt _ (by decide)
  have l1 : 1 < pP := by decide
  have lyy : yy < pP := hyy ▸ rm_lt _ _
  have la : a < pP := ha ▸ rs_lt _ _
  have lb : b < pP := hb ▸ rm_lt _ _
  have lc : c < pP := hc ▸ ra_lt _ _
  have le : e < pP := he ▸ rPow_lt _ _
  have lf : f < pP := hf ▸ rm_lt _ _
  have C1 := hid (fun w => hcn ▸ ref_Canonical u w (by omega))
  have O1 := hid (fun w => hy ▸ ref_Of u w (by omega))
  have M1 := hid (fun w => hyy ▸ rmul_v y y w ly ly)
  have K1 := hid (fun w => ref_Small 1 w (by decide))
  have S1 := hid (fun w => ha ▸ rsub_v yy 1 w lyy l1)
  have G1 := hid (fun w => given_any w)
  have M2 := hid (fun w => hb ▸ rmul_v dN yy w dN_pP lyy)
  have A1 := hid (fun w => hc ▸ radd_v b 1 w lb l1)
  have I1 := hid (fun w => he ▸ ref_Inv c w lc)
  have M3 := hid (fun w => hf ▸ rmul_v a e w la le)
  have R1 := fun w => ref_Root f od w lf
  rw [hok, hx] at R1
  have HR := hid R1
  clear R1 hy hyy ha hb hc he hf hok hx hcn ly l1 lyy la lb lc le lf _hyl
  generalize dN = dd at *
  obtain ⟨l, hl⟩ : ∃ l, s.data.toList = l := ⟨_, rfl⟩
  rw [hl] at hu ho
  have hll : l.length = 32 := by rw [← hl]; simpa using h1
  have g1 : ((s.size : Int) != 32) = false := by rw [bne_eq_false_iff_eq]; omega
  have HLL := hid hll
  have HL := hid hl
  have HU := hid hu
  have HO := hid ho
  clear hll hl hu ho
  go_enter Tryz.func36, Tryz.ntmps36
  go_upto_region 3 with (fail)
  obtain ⟨w1, hw1⟩ : ∃ w1, W.alloc (.cells (rpt 0 0 0) 50) = w1 := ⟨_, rfl⟩
  have kR := kept (show hget w1 (W.heap.size) = some (.cells (rpt 0 0 0) 50 (0, 0)) by rw [← hw1]; clear hw1; go_simp)
  have b1 : Hid (Below W.heap.size W w1) := by rw [← hw1]; repeat (first | exact Below.refl _ _ | exact below_new _ | assumption | refine Below.drew ?_ | refine Below.drewN ?_ _ | refine below_alloc ?_ _ | refine below_blk' ?_ (by omega) _)
  rw [hw1]
  clear hw1
  try clear gR lR nR mR
  try clear jR
  have jR := kR.later
  obtain ⟨gR, lR, nR, mR⟩ := kR
  go_upto_region 4 with (fail)
  have hL := laid_bytes w1 s
  have hB := bytesWorld_below w1 5 s
  rw [HL.out] at hL
  have fR := (Kept.on (kept gR) hB).get
  have b2 := hid (below_to b1.out hB)
  have hN := b1.out.size
  have kR := lR
  clear b1 gR lR nR mR hB jR
  generalize Lib.bytesWorld w1 5 s = w2 at *
  generalize grownCap w1 32 0 5 = cap at *
  generalize w1.heap.size = N at *
  have eRN : (W.heap.size = N) = False := by simp; omega
  have eNR : (N = W.heap.size) = False := by simp; omega
  have hlen := HLL.out
  have c1 := hL.cell (j := 31) (by omega)
  have f1 := hL.free (j := 31) (by omega)
  have L8 : Laid (w2.setCell ⟨N, 31, none⟩ (.int .u8 (bits .andNot .u8 ((l.getD 31 0).toNat : Int) 128))) N (l.set 31 (l.getD 31 0 &&& 127)) := by
    rw [andNot128_u8]
    exact hL.set 31 (l.getD 31 0 &&& 127)
  have hl8 : (l.set 31 (l.getD 31 0 &&& 127)).length = 32 := by rw [List.length_set]; exact hlen
  have ho := HO.out
  generalize hl2 : l.set 31 (l.getD 31 0 &&& 127) = l2 at *
  generalize l.getD 31 0 = x1 at *
  have H8 := hid L8
  clear hL hl2 L8 hlen HO
  go_upto_region 6 with (fail)
  have fR3 : hget (w2.setCell ⟨N, 31, none⟩ (.int .u8 (bits .andNot .u8 (x1.toNat : Int) 128))) W.heap.size = some (.cells (rpt 0 0 0) 50 (0, 0)) := at_setCell_other fR (by simp; omega) _
  have b3 := hid (b2.out.setCell (p := ⟨N, 31, none⟩) hN (.int .u8 (bits .andNot .u8 (x1.toNat : Int) 128)))
  have L3 := H8.out
  clear b2 fR H8 c1 f1
  generalize w2.setCell ⟨N, 31, none⟩ (.int .u8 (bits .andNot .u8 (x1.toNat : Int) 128)) = w3 at *
  obtain ⟨gR, lR, nR, mR⟩ := kept (show hget w3 (W.heap.size) = some (.cells (rpt 0 0 0) 50 (0, 0)) by first | assumption | go_simp)
  have hconv := fun (cap : Nat) => oconv_string w3 N 0 32 cap l2 hl8 (fun j hj => by rw [Nat.zero_add]; exact L3.cell (by omega))
  simp only [HU.out] at hconv
  have H3 := hid L3
  clear fR3 L3
  go_wp2_with fail
  try clear jR
  refine (C1.out _).mono ?_
  rintro e w4 ⟨rfl, hb4⟩
  have kR := Kept.on (kept (b := W.heap.size) (o := .cells (rpt 0 0 0) 50 (0, 0)) (by go_simp)) hb4
  have b4 : Hid (Below W.heap.size W w4) := below_to (by repeat (first | exact Below.refl _ _ | exact below_new _ | exact b3.out | assumption | refine Below.drew ?_ | refine Below.drewN ?_ _ | refine below_alloc ?_ _ | refine below_blk' ?_ (by omega) _)) hb4
  have L4 := H3.out.on hb4
  clear hb4
  try clear gR lR nR mR
  obtain ⟨gR, lR, nR, mR⟩ := kR
  clear b3
  clear H3 hconv
  have hconv := fun (cap : Nat) => oconv_string w4 N 0 32 cap l2 hl8 (fun j hj => by rw [Nat.zero_add]; exact L4.cell (by omega))
  simp only [HU.out] at hconv
  clear L4
  cases cn
  · go_wp2_with fail
    refine bodyPost_ret (v := .tuple #[.agg (rpt 0 0 0), .int .i64 90]) (results_cell_tmp Tryz.results36 _ _ (W.heap.size) 50 (rpt 0 0 0) (0, 0) _ (.int .i64 90) (by rfl) (by rfl) (by rw [← hget_eq]; go_simp) Tryz.underlying50 rfl (by rw [info_RPt]; go_simp)) rfl ?_
    exact ⟨by rfl, below_blk' b4.out (by omega) _⟩
  · go_wp2_with fail
    try clear jR
    refine (O1.out _).mono ?_
    rintro e w5 ⟨rfl, hb5⟩
    have kR := Kept.on (kept (b := W.heap.size) (o := .cells (rpt 0 0 0) 50 (0, 0)) (by go_simp)) hb5
    have b5 : Hid (Below W.heap.size W w5) := below_to (by repeat (first | exact Below.refl _ _ | exact below_new _ | exact b4.out | assumption | refine Below.drew ?_ | refine Below.drewN ?_ _ | refine below_alloc ?_ _ | refine below_blk' ?_ (by omega) _)) hb5
    clear hb5
    try clear gR lR nR mR
    obtain ⟨gR, lR, nR, mR⟩ := kR
    clear b4
    clear hconv
    go_upto_region 9 with (fail)
    obtain ⟨Y, hY⟩ : ∃ b, w5.heap.size = b := ⟨_, rfl⟩
    have wY : W.heap.size ≤ Y := by rw [← hY]; exact b5.out.size
    have eRY : (W.heap.size = Y) = False := by rw [← hY]; exact nR
    have eYR : (Y = W.heap.size) = False := by rw [← hY]; exact mR
    obtain ⟨w6, hw6⟩ : ∃ w6, w5.alloc (.cells (nine y) 48) = w6 := ⟨_, rfl⟩
    have kR := kept (show hget w6 (W.heap.size) = some (.cells (rpt 0 0 0) 50 (0, 0)) by rw [← hw6]; clear hw6; go_simp)
    have kY := kept (show hget w6 (w5.heap.size) = some (.cells (nine y) 48) by rw [← hw6]; clear hw6; go_simp)
    have b6 : Hid (Below W.heap.size W w6) := by rw [← hw6]; repeat (first | exact Below.refl _ _ | exact below_new _ | exact b5.out | assumption | refine Below.drew ?_ | refine Below.drewN ?_ _ | refine below_alloc ?_ _ | refine below_blk' ?_ (by omega) _)
    rw [hw6]
    clear hw6
    try clear gR lR nR mR
    try clear jR
    have jR := kR.later
    obtain ⟨gR, lR, nR, mR⟩ := kR
    try clear gY lY nY mY
    try clear jY
    have jY := kY.later
    obtain ⟨gY, lY, nY, mY⟩ := kY
    clear b5
    rw [hY] at *
    clear hY
    go_wp2_with fail
    try clear jR jY
    refine (M1.out _).mono ?_
    rintro e w7 ⟨rfl, hb7⟩
    have kR := Kept.on (kept (b := W.heap.size) (o := .cells (rpt 0 0 0) 50 (0, 0)) (by go_simp)) hb7
    have kY := Kept.on (kept (b := Y) (o := .cells (nine y) 48 (0, 0)) (by go_simp)) hb7
    have b7 : Hid (Below W.heap.size W w7) := below_to (by repeat (first | exact Below.refl _ _ | exact below_new _ | exact b6.out | assumption | refine Below.drew ?_ | refine Below.drewN ?_ _ | refine below_alloc ?_ _ | refine below_blk' ?_ (by omega) _)) hb7
    clear hb7
    try clear gR lR nR mR
    obtain ⟨gR, lR, nR, mR⟩ := kR
    try clear gY lY nY mY
    obtain ⟨gY, lY, nY, mY⟩ := kY
    clear b6
    go_upto_region 10 with (fail)
    obtain ⟨A, hA⟩ : ∃ b, w7.heap.size = b := ⟨_, rfl⟩
    have wA : W.heap.size ≤ A := by rw [← hA]; exact b7.out.size
    have eRA : (W.heap.size = A) = False := by rw [← hA]; exact nR
    have eAR : (A = W.heap.size) = False := by rw [← hA]; exact mR
    have eYA : (Y = A) = False := by rw [← hA]; exact nY
    have eAY : (A = Y) = False := by rw [← hA]; exact mY
    obtain ⟨w8, hw8⟩ : ∃ w8, w7.alloc (.cells (nine yy) 48) = w8 := ⟨_, rfl⟩
    have kR := kept (show hget w8 (W.heap.size) = some (.cells (rpt 0 0 0) 50 (0, 0)) by rw [← hw8]; clear hw8; go_simp)
    have kY := kept (show hget w8 (Y) = some (.cells (nine y) 48 (0, 0)) by rw [← hw8]; clear hw8; go_simp)
    have kA := kept (show hget w8 (w7.heap.size) = some (.cells (nine yy) 48) by rw [← hw8]; clear hw8; go_simp)
    have b8 : Hid (Below W.heap.size W w8) := by rw [← hw8]; repeat (first | exact Below.refl _ _ | exact below_new _ | exact b7.out | assumption | refine Below.drew ?_ | refine Below.drewN ?_ _ | refine below_alloc ?_ _ | refine below_blk' ?_ (by omega) _)
    rw [hw8]
    clear hw8
    try clear gR lR nR mR
    try clear jR
    have jR := kR.later
    obtain ⟨gR, lR, nR, mR⟩ := kR
    try clear gY lY nY mY
    try clear jY
    have jY := kY.later
    obtain ⟨gY, lY, nY, mY⟩ := kY
    try clear gA lA nA mA
    try clear jA
    have jA := kA.later
    obtain ⟨gA, lA, nA, mA⟩ := kA
    clear b7
    rw [hA] at *
    clear hA
    go_wp2_with fail
    try clear jR jY jA
    refine (K1.out _).mono ?_
    rintro e w9 ⟨rfl, hb9⟩
    have kR := Kept.on (kept (b := W.heap.size) (o := .cells (rpt 0 0 0) 50 (0, 0)) (by go_simp)) hb9
    have kY := Kept.on (kept (b := Y) (o := .cells (nine y) 48 (0, 0)) (by go_simp)) hb9
    have kA := Kept.on (kept (b := A) (o := .cells (nine yy) 48 (0, 0)) (by go_simp)) hb9
    have b9 : Hid (Below W.heap.size W w9) := below_to (by repeat (first | exact Below.refl _ _ | exact below_new _ | exact b8.out | assumption | refine Below.drew ?_ | refine Below.drewN ?_ _ | refine below_alloc ?_ _ | refine below_blk' ?_ (by omega) _)) hb9
    clear hb9
    try clear gR lR nR mR
    obtain ⟨gR, lR, nR, mR⟩ := kR
    try clear gY lY nY mY
    obtain ⟨gY, lY, nY, mY⟩ := kY
    try clear gA lA nA mA
    obtain ⟨gA, lA, nA, mA⟩ := kA
    clear b8
    go_upto_region 11 with (fail)
    obtain ⟨B, hB⟩ : ∃ b, w9.heap.size = b := ⟨_, rfl⟩
    have wB : W.heap.size ≤ B := by rw [← hB]; exact b9.out.size
    have eRB : (W.heap.size = B) = False := by rw [← hB]; exact nR
    have eBR : (B = W.heap.size) = False := by rw [← hB]; exact mR
    have eYB : (Y = B) = False := by rw [← hB]; exact nY
    have eBY : (B = Y) = False := by rw [← hB]; exact mY
    have eAB : (A = B) = False := by rw [← hB]; exact nA
    have eBA : (B = A) = False := by rw [← hB]; exact mA
    obtain ⟨w10, hw10⟩ : ∃ w10, w9.alloc (.cells (nine 1) 48) = w10 := ⟨_, rfl⟩
    have kR := kept (show hget w10 (W.heap.size) = some (.cells (rpt 0 0 0) 50 (0, 0)) by rw [← hw10]; clear hw10; go_simp)
    have kY := kept (show hget w10 (Y) = some (.cells (nine y) 48 (0, 0)) by rw [← hw10]; clear hw10; go_simp)
    have kA := kept (show hget w10 (A) = some (.cells (nine yy) 48 (0, 0)) by rw [← hw10]; clear hw10; go_simp)
    have kB := kept (show hget w10 (w9.heap.size) = some (.cells (nine 1) 48) by rw [← hw10]; clear hw10; go_simp)
    have b10 : Hid (Below W.heap.size W w10) := by rw [← hw10]; repeat (first | exact Below.refl _ _ | exact below_new _ | exact b9.out | assumption | refine Below.drew ?_ | refine Below.drewN ?_ _ | refine below_alloc ?_ _ | refine below_blk' ?_ (by omega) _)
    rw [hw10]
    clear hw10
    try clear gR lR nR mR
    try clear jR
    have jR := kR.later
    obtain ⟨gR, lR, nR, mR⟩ := kR
    try clear gY lY nY mY
    try clear jY
    have jY := kY.later
    obtain ⟨gY, lY, nY, mY⟩ := kY
    try clear gA lA nA mA
    try clear jA
    have jA := kA.later
    obtain ⟨gA, lA, nA, mA⟩ := kA
    try clear gB lB nB mB
    try clear jB
    have jB := kB.later
    obtain ⟨gB, lB, nB, mB⟩ := kB
    clear b9
    rw [hB] at *
    clear hB
    clear C1 O1 M1 K1
    have vR : ∀ x_ : LaterV w10, hget x_.w' (W.heap.size) = some (.cells (rpt 0 0 0) 50 (0, 0)) := laterx_get gR (by simp)
    have vY : ∀ x_ : LaterV w10, hget x_.w' (Y) = some (.cells (nine y) 48 (0, 0)) := laterx_get gY (by simp)
    have vA : ∀ x_ : LaterV w10, hget x_.w' (A) = some (.cells (nine yy) 48 (0, 0)) := laterx_get gA (by simp)
    have vB : ∀ x_ : LaterV w10, hget x_.w' (B) = some (.cells (nine 1) 48 (0, 0)) := laterx_get gB (by simp)
    try clear jR jY jA jB
    refine wp_region_var [15] (fun _ => ⟨16, nine 0, nine x, 48⟩) [] (fun _ => ⟨0, #[], #[], 0⟩) (by kernel_rfl) (by kernel_rfl) (by kernel_rfl) (vsep_new (by kernel_rfl)) (fun e he => absurd he (by simp)) (fun hsep => ?_) (fun e he => absurd he (by simp))
    have HSEP := hid hsep
    clear hsep
    repeat (first | (refine wpV_plain0 HSEP.out (by kernel_rfl) (by rfl) (by rfl) (by kernel_rfl) (by kernel_rfl) (fun K hK => ?_); go_simp; refine hK _ ?_; clear hK K; try go_ints) | (refine wpV_plain0 HSEP.out (by kernel_rfl) (by rfl) (by rfl) (by kernel_rfl) (by kernel_rfl) (fun K hK => ?_); go_simp; (with_reducible refine ⟨_, fun x => S1.out _, hK _ ?_⟩); clear hK K; try go_ints) | (refine wpV_plain0 HSEP.out (by kernel_rfl) (by rfl) (by rfl) (by kernel_rfl) (by kernel_rfl) (fun K hK => ?_); go_simp; (with_reducible refine ⟨_, fun x => G1.out _, hK _ ?_⟩); clear hK K; try go_ints) | (refine wpV_plain0 HSEP.out (by kernel_rfl) (by rfl) (by rfl) (by kernel_rfl) (by kernel_rfl) (fun K hK => ?_); go_simp; (with_reducible refine ⟨_, fun x => M2.out _, hK _ ?_⟩); clear hK K; try go_ints) | (refine wpV_plain0 HSEP.out (by kernel_rfl) (by rfl) (by rfl) (by kernel_rfl) (by kernel_rfl) (fun K hK => ?_); go_simp; (with_reducible refine ⟨_, fun x => A1.out _, hK _ ?_⟩); clear hK K; try go_ints) | (refine wpV_plain0 HSEP.out (by kernel_rfl) (by rfl) (by rfl) (by kernel_rfl) (by kernel_rfl) (fun K hK => ?_); go_simp; (with_reducible refine ⟨_, fun x => I1.out _, hK _ ?_⟩); clear hK K; try go_ints) | (refine wpV_plain0 HSEP.out (by kernel_rfl) (by rfl) (by rfl) (by kernel_rfl) (by kernel_rfl) (fun K hK => ?_); go_simp; (with_reducible refine ⟨_, fun x => M3.out _, hK _ ?_⟩); clear hK K; try go_ints) | (refine wpV_plain0 HSEP.out (by kernel_rfl) (by rfl) (by rfl) (by kernel_rfl) (by kernel_rfl) (fun K hK => ?_); go_simp; (with_reducible refine ⟨_, fun x => HR.out _, hK _ ?_⟩); clear hK K; try go_ints) | (refine wpV_make0 HSEP.out (by kernel_rfl) (by rfl) rfl (by rfl) (by kernel_rfl) (by kernel_rfl) (fun K hK => ⟨fun x => (by first | (go_simp; done) | (go_simp; rfl)), hK _ ?_⟩); clear hK K; try go_ints) | (refine wpV_store0 15 (by rfl) (by rfl) HSEP.out (by rfl) rfl (by kernel_rfl) (fun K hK => ⟨fun g bk_ x cs hg hcs hx => (by clear hK HSEP; rcases hcs with hcs | hcs <;> (rw [hcs] at hx; clear hcs; simp only [over, dstOf, List.getElem?_toArray, List.getElem?_cons_succ, List.getElem?_cons_zero, Option.bind_some, hg]; go_simp; done)), hK _ ?_⟩); clear hK K; try go_ints))
    refine wpGho_nil ?_
    intro gL xL h0L hnL haL hlL
    clear h0L hlL HSEP
    obtain ⟨v15, e15, l15, h15⟩ := hnL 15 (by simp)
    try simp at h15
    simp only [over, dstOf, List.getElem?_toArray, List.getElem?_cons_succ, List.getElem?_cons_zero, Option.bind_some, e15]
    have hxb := laterV_below xL
    have fR := laterx_get gR (by simp) xL
    have fY := laterx_get gY (by simp) xL
    have fA := laterx_get gA (by simp) xL
    have fB := laterx_get gB (by simp) xL
    clear hnL haL e15 vR vY vA vB
    generalize xL.w' = w11 at *
    have b11 := hid (below_to b10.out hxb)
    have s10 := b10.out.size
    clear hxb b10 xL gL
    obtain ⟨X, h_X⟩ : ∃ n_, n_ = v15 := ⟨_, rfl⟩
    subst h_X
    have wX : W.heap.size ≤ X := by omega
    have eRX : (W.heap.size = X) = False := by simp; omega
    have eXR : (X = W.heap.size) = False := by simp; omega
    have eYX : (Y = X) = False := by simp; omega
    have eXY : (X = Y) = False := by simp; omega
    have eAX : (A = X) = False := by simp; omega
    have eXA : (X = A) = False := by simp; omega
    have eBX : (B = X) = False := by simp; omega
    have eXB : (X = B) = False := by simp; omega
    clear l15
    clear gR lR nR mR
    clear gY lY nY mY
    clear gA lA nA mA
    clear gB lB nB mB
    obtain ⟨gR, lR, nR, mR⟩ := kept fR
    clear fR
    obtain ⟨gY, lY, nY, mY⟩ := kept fY
    clear fY
    obtain ⟨gA, lA, nA, mA⟩ := kept fA
    clear fA
    obtain ⟨gB, lB, nB, mB⟩ := kept fB
    clear fB
    obtain ⟨gX, lX, nX, mX⟩ := kept h15
    clear h15
    try simp only [Act.put, List.setIfInBounds_toArray, List.set_cons_zero, List.set_cons_succ]
    clear S1 G1 M2 A1 I1 M3 HR
    cases ok
    · go_wp2_with fail
      refine bodyPost_ret (v := .tuple #[.agg (rpt 0 0 0), .int .i64 90]) (results_cell_tmp Tryz.results36 _ _ (W.heap.size) 50 (rpt 0 0 0) (0, 0) _ (.int .i64 90) (by rfl) (by rfl) (by rw [← hget_eq]; go_simp) Tryz.underlying50 rfl (by rw [info_RPt]; go_simp)) rfl ?_
      exact ⟨by rfl, below_blk' b11.out (by omega) _⟩
    · go_wp2_with fail
      refine bodyPost_ret (v := .tuple #[.agg (rpt x y 1), .int .i64 0]) (results_cell_tmp Tryz.results36 _ _ (W.heap.size) 50 (rpt x y 1) (0, 0) _ (.int .i64 0) (by rfl) (by rfl) (by rw [← hget_eq]; go_simp) Tryz.underlying50 rfl (by rw [info_RPt]; go_simp)) rfl ?_
      exact ⟨by rfl, below_blk' b11.out (by omega) _⟩

/-- Bytes read as a point, by the document: what comes of them. -/
def rdecV (s : ByteArray) : Value := if dOk s then .tuple #[rv (rP s), .int .i64 0] else .tuple #[.agg (rpt 0 0 0), .int .i64 (if s.size = 32 then 90 else 2)]
set_option maxRecDepth 100000 in
theorem rdecode_v (s : ByteArray) (W : World) (hmax : s.size ≤ 9223372036854775807) : Calls Tryz.prog 36 #[.string s] W fun r w' => r = .returned (rdecV s) ∧ Below W.heap.size W w' := by
  unfold rdecV
  by_cases h : s.size = 32
  · rw [if_pos h]
    have hs : 31 < s.size := by omega
    have hn := dec_nat h hs
    have hl : s.data.toList.length = 32 := by simpa using h
    have hg : s.data.toList.getD 31 0 = s[31] := by
      rw [List.getD_eq_getElem?_getD, List.getElem?_eq_getElem (by omega), Option.getD_some]
      rfl
    have h32 : (topB s (s[31] &&& 127)).size = 32 := topB_size h _
    have hu := set_topx h (s.data.toList.getD 31 0 &&& 127)
    rw [hg] at hu
    have hc : canB (topB s (s[31] &&& 127)) = decide (dY s < pP) := by
      unfold canB dY
      rw [hn, h32]
      simp
    have ho : decide ((128 : Int) ≤ ((s.data.toList.getD 31 0).toNat : Int)) = dOd s := by
      rw [hg]
      unfold dOd
      have h1 := split_nat _ hl
      have h0 := low_lt s.data.toList
      have hg2 : s.data.toList[31]'(by omega) = s[31] := rfl
      rw [hg2] at h1
      rw [decide_eq_decide, h1]
      generalize bytesNat (s.data.toList.take 31) = lo at *
      generalize s[31].toNat = x at *
      clear h1
      unfold t255 t248 at *
      omega
    rw [show dOk s = (decide (dY s < pP) && rootOk (dU (dY s)) (dOd s)) by unfold dOk; rw [decide_eq_true h, Bool.true_and, Bool.and_comm]]
    rw [rOk_eq]
    by_cases hlt : dY s < pP
    · have := rdecode_core s (topB s (s[31] &&& 127)) (dY s) _ _ _ _ _ (rU (dY s)) (rX s) (dOd s) _ _ W h (by rw [hg]; exact hu) h32 ho (.inl hlt) (by rw [hn]; exact Nat.mod_eq_of_lt hlt) rfl rfl rfl rfl rfl rfl rfl rfl hc
      exact this
    · rw [decide_eq_false hlt] at hc ⊢
      have := rdecode_core s (topB s (s[31] &&& 127)) _ _ _ _ _ _ _ _ (dOd s) _ _ W h (by rw [hg]; exact hu) h32 ho (.inr rfl) rfl rfl rfl rfl rfl rfl rfl rfl rfl hc
      simp only [Bool.false_and, Bool.false_eq_true, if_false] at this ⊢
      exact this
  · rw [if_neg h, if_neg (show ¬ dOk s = true by unfold dOk; rw [decide_eq_false h]; simp)]
    exact rdecode_short s W h hmax

end Go.Proofs.YtceljjnohjnepaaGreatDoor

namespace Go.Proofs.YtceljjnohjnepaaGreatDoor
open Go Go.RowKit DG
set_option maxRecDepth 100000 in
theorem info_ONum : (Tryz.prog.info? 44).map (·.size) = some 32 := by kernel_rfl
                    theorem exl_ONum {r : Operand → Value} {dst : Option Nat} {x : Operand} {t : TypeId} {pos : String} {af : Array Edge} {g : Option (Nat × Bool)} : execOp r ⟨dst, .load 44 x, t, pos, af, g⟩ = (do let v ← loadRow 44 (r x); pure (Next.value v)) := rfl
                    theorem exs_ONum {r : Operand → Value} {dst : Option Nat} {x y : Operand} {t : TypeId} {pos : String} {af : Array Edge} {g : Option (Nat × Bool)} : execOp r ⟨dst, .store 44 x y, t, pos, af, g⟩ = (do storeRow 44 (r x) (r y); pure Next.skip) := rfl
                    theorem ldr_ONum (b : Nat) (w : World) : (loadRow 44 (.pointer (some ⟨b, 0, none⟩))).run Tryz.prog w = match hget w b with | some (.cells c _ _) => if c.size = 32 then .ok (.agg c) w else stuckL Tryz.prog 44 b w | _ => stuckL Tryz.prog 44 b w := loadRow_run Tryz.underlying44 rfl info_ONum b w
                    theorem str_ONum (b : Nat) (c' : Array Value) (w : World) : (storeRow 44 (.pointer (some ⟨b, 0, none⟩)) (.agg c')).run Tryz.prog w = match hget w b with | some (.cells c T (0, 0)) => if c.size = 32 then (if c'.size = 32 then (if ones c' = true then .ok () (blk w b (.cells c' T (0, 0))) else stuckS Tryz.prog 44 b (.agg c') w) else stuckS Tryz.prog 44 b (.agg c') w) else stuckS Tryz.prog 44 b (.agg c') w | _ => stuckS Tryz.prog 44 b (.agg c') w := storeRow_run info_ONum b c' w
attribute [local go_sem ↓] exl_Num exs_Num exl_RPt exs_RPt exb_RPt exl_ONum exs_ONum
                                                                                                                                                                                                                                                                                                                                                                                                                                                                                                                             attribute [local go_sem] ldm_Num str_Num ldr_RPt str_RPt to_nine0 rpt_zero bld_rpt bld_rpt0 ldr_ONum str_ONum
set_option maxRecDepth 100000 in
@[go_sem] theorem osz (n : Nat) : (ints .u8 (digs 256 n 32)).size = 32 := by rw [ints_size, digs_length]

def bsL : List UInt8 := 88 :: List.replicate 31 102
set_option maxRecDepth 100000 in
theorem bsL_step : ∀ k, k < 32 → 1 ≤ k → bsL.take k ++ [102] = bsL.take (k + 1) := by decide +kernel
set_option maxRecDepth 100000 in
theorem bsL_len : bsL.length = 32 := by decide
set_option maxRecDepth 100000 in
theorem bsL_str : (⟨bsL.toArray⟩ : ByteArray) = bsB := by decide +kernel
set_option maxRecDepth 100000 in
theorem froz_one (w : World) (v : Value) (T : TypeId) : (w.alloc (.cells #[v] T (1, 2))).frozen? ⟨w.heap.size, 0, none⟩ = false := by
  unfold World.frozen?
  rw [show (w.alloc (.cells #[v] T (1, 2))).heap[w.heap.size]? = _ from alloc_at _ _]
  rfl
set_option maxRecDepth 100000 in
theorem rdecB : rdecV bsB = .tuple #[rv (rP bsB), .int .i64 0] := by unfold rdecV; rw [if_pos bsB_ok]

set_option maxRecDepth 100000 in
set_option maxHeartbeats 4000000 in
theorem rbase_any (W : World) : Calls Tryz.prog 16 #[] W fun r w' => r = .returned (rv (rP bsB)) ∧ Below W.heap.size W w' := by
  obtain ⟨i0, hi, hz0, hz1, hz2⟩ := info_parts info_u8
  have D1 := fun w => rdecode_v bsB w (by decide)
  rw [rdecB] at D1
  have HD := hid D1
  clear D1
  generalize rP bsB = b at *
  have hst := bsL_str
  generalize bsB = B at *
  have HST := hid hst
  clear hst
  go_enter Tryz.func16, Tryz.ntmps16
  go_upto_region 1 with (fail)
  obtain ⟨w1, hw1⟩ : ∃ w1, W.alloc (.cells (rpt 0 0 0) 50) = w1 := ⟨_, rfl⟩
  have kR := kept (show hget w1 (W.heap.size) = some (.cells (rpt 0 0 0) 50 (0, 0)) by rw [← hw1]; clear hw1; go_simp)
  have b1 : Hid (Below W.heap.size W w1) := by rw [← hw1]; repeat (first | exact Below.refl _ _ | exact below_new _ | assumption | refine Below.drew ?_ | refine Below.drewN ?_ _ | refine below_alloc ?_ _ | refine below_blk' ?_ (by omega) _)
  rw [hw1]
  clear hw1
  try clear gR lR nR mR
  try clear jR
  have jR := kR.later
  obtain ⟨gR, lR, nR, mR⟩ := kR
  have kc := Go.Lib.run_convert_bytes_const (P := Tryz.prog) w1 32 5 #[.int .u8 88] 1 1 Tryz.underlying32 Tryz.underlying5
  clear jR lR nR mR
  go_wp2_with fail
  go_loopg [1] 32 (fun g v wr => ∃ k : Nat, k + g = 33 ∧ 1 ≤ k ∧ 0 < g ∧ OwnsB wr w1.heap.size v (bsL.take k) ∧ Below w1.heap.size w1 wr)
  case atStart =>
    exact ⟨1, by omega, by omega, by omega, .inr ⟨w1.heap.size, 1, _, (1, 2), rfl, Nat.le_refl _, alloc_at _ _, fun j hj => by
      have hj1 : j < 1 := hj
      obtain rfl : j = 0 := by omega
      exact froz_one _ _ _, by decide, by decide, rfl, rfl⟩, below_new _⟩
  case round =>
    obtain ⟨k, hkg, h1, h0, hown, hb⟩ := hrel
    have hll : (bsL.take k).length = k := by rw [List.length_take, bsL_len]; omega
    obtain ⟨G, cap, hv, hG, hGl, hcap, hcm, hcl⟩ := hown.cells (by omega)
    rw [hll] at hv hcl
    subst hv
    have HO := hid hown
    have HB := hid hb
    have HLL := hid hll
    clear hown hb hll
    by_cases hlt : k < 32
    · have hd : decide ((k : Int) < 32) = true := decide_eq_true (by omega)
      have hO2 := OwnsB.keep HO.out (below_new (w := wr) (.cells #[.int .u8 102] 5))
      have hsrc : Src Tryz.prog 1 32 (.slice (some ⟨wr.heap.size, 0, none⟩) 1 1) 1 (u8s [102]) (wr.alloc (.cells #[.int .u8 102] 5)) :=
        Src.ofSlice _ Tryz.underlying32 ⟨wr.heap.size, 0, none⟩ 1 1 (u8s [102]) rfl (cell_one_new _ _ _) (by intro u hu; simp [u8s] at hu; subst hu; rfl)
      have HO2 := hid hO2
      have HSRC := hid hsrc
      have HCL := hid hcl
      clear hO2 hsrc hcl
      go_wp2_with (at_builtin; refine wpList_append_B rfl _ _ 32 32 rfl w1.heap.size i0 Tryz.underlying32 hi hz0 hz1 hz2 _ _ rfl rfl _ [102] HO2.out HSRC.out (by decide) ?ca ?cb ?_)
      case ca => rw [HLL.out]; simp only [List.length_cons, List.length_nil]; omega
      case cb => have := HB.out.size; simp; omega
      intro v' w4 ho4 hg4
      have hB4 := (below_alloc HB.out (.cells #[.int .u8 102] 5)).grown hg4 (by have := HB.out.size; simp; omega) (fun g hg => OwnsB.block HO2.out hg)
      rw [bsL_step k hlt h1] at ho4
      have HO4 := hid ho4
      have HB4 := hid hB4
      clear ho4 hg4 hB4 HO2 HSRC HO HB
      go_wp2_with fail
      go_roundg (gk - 1)
      case measure => omega
      case rel => exact ⟨k + 1, by omega, by omega, by omega, HO4.out, HB4.out⟩
    · have hk : k = 32 := by omega
      subst hk
      have hd : decide (((32 : Nat) : Int) < 32) = false := by decide
      have hbt : bsL.take 32 = bsL := List.take_of_length_le (by decide)
      rw [hbt] at hcl
      have hconv := fun (cap : Nat) => oconv_string wr G 0 32 cap bsL bsL_len (fun j hj => by rw [Nat.zero_add]; exact hcl j hj)
      simp only [HST.out] at hconv
      have fR : hget wr W.heap.size = some (.cells (rpt 0 0 0) 50 (0, 0)) := (Kept.on (kept gR) HB.out).get
      have b2 := hid (below_to b1.out HB.out)
      clear HO HB hcl hbt b1 gR
      have lR := hget_lt fR
      go_wp2_with fail
      refine (HD.out _).mono ?_
      rintro e w3 ⟨rfl, hb3⟩
      have gR := (Kept.on (kept fR) hb3).get
      have b3 := hid (below_to b2.out hb3)
      clear hb3 fR b2 hconv kc
      go_upto_region 5 with (fail)
      obtain ⟨gR, lR, nR, mR⟩ := kept (show hget w3 (W.heap.size) = some (.cells (rpt 0 0 0) 50 (0, 0)) by first | assumption | go_simp)
      obtain ⟨B, hB⟩ : ∃ b, w3.heap.size = b := ⟨_, rfl⟩
      have wB : W.heap.size ≤ B := by rw [← hB]; exact b3.out.size
      have eRB : (W.heap.size = B) = False := by rw [← hB]; exact nR
      have eBR : (B = W.heap.size) = False := by rw [← hB]; exact mR
      obtain ⟨w4, hw4⟩ : ∃ w4, w3.alloc (.cells (rpt b.x b.y b.z) 50) = w4 := ⟨_, rfl⟩
      have kR := kept (show hget w4 (W.heap.size) = some (.cells (rpt 0 0 0) 50 (0, 0)) by rw [← hw4]; clear hw4; go_simp)
      have kB := kept (show hget w4 (w3.heap.size) = some (.cells (rpt b.x b.y b.z) 50) by rw [← hw4]; clear hw4; go_simp)
      have b4 : Hid (Below W.heap.size W w4) := by rw [← hw4]; repeat (first | exact Below.refl _ _ | exact below_new _ | exact b3.out | assumption | refine Below.drew ?_ | refine Below.drewN ?_ _ | refine below_alloc ?_ _ | refine below_blk' ?_ (by omega) _)
      rw [hw4]
      clear hw4
      try clear gR lR nR mR
      try clear jR
      have jR := kR.later
      obtain ⟨gR, lR, nR, mR⟩ := kR
      try clear gB lB nB mB
      try clear jB
      have jB := kB.later
      obtain ⟨gB, lB, nB, mB⟩ := kB
      clear b3
      rw [hB] at *
      clear hB
      go_wp2_with fail
      refine bodyPost_ret (v := .agg (rpt b.x b.y b.z)) (results_cell_row Tryz.results16 _ _ (W.heap.size) 50 (rpt b.x b.y b.z) (0, 0) _ (by rfl) (by rw [← hget_eq]; go_simp) Tryz.underlying50 rfl (by rw [info_RPt]; go_simp)) rfl ?_
      exact ⟨rfl, below_blk' b4.out (by omega) _⟩

set_option maxRecDepth 100000 in
theorem rbase_bd : (rP bsB).bd := (rP_ok bsB_ok).bd
end Go.Proofs.YtceljjnohjnepaaGreatDoor

namespace Go.Proofs.YtceljjnohjnepaaGreatDoor
open Go Go.RowKit

/-- What stands for an old block, within such a region and behind it. -/
abbrev LaterO (b : Nat) (w : World) := LaterX (fun e => e ∈ [b]) w
def oldC (s : Nat) (ini fin : Array Value) (T : TypeId) : Nat → Cel := fun _ => ⟨s, ini, fin, T⟩
section
variable {P : Program} {w : World} {l : List Oper} {Q : Act → Prop} {i : Nat} {a : Act} {o : Oper} {rest : List Oper} {b s : Nat} {ini fin : Array Value} {T : TypeId}
abbrev wpO (P : Program) (l : List Oper) (b s : Nat) (ini fin : Array Value) (T : TypeId) (w : World) (Q : Act → Prop) (i : Nat) (rest : List Oper) (a : Act) : Prop :=
  wpGho P l.toArray [] (VRel fun _ => ⟨0, #[], #[], 0⟩) (VC [b] (oldC s ini fin T) w) (VPost l [] (fun _ => ⟨0, #[], #[], 0⟩) [b] (oldC s ini fin T) w) Q i rest a
abbrev SepO (l : List Oper) (b s : Nat) (ini fin : Array Value) (T : TypeId) (w : World) : Prop := VSep l [] (fun _ => ⟨0, #[], #[], 0⟩) [b] (oldC s ini fin T) w
set_option maxRecDepth 100000 in
theorem wp_region_old {id : Nat} {Q : Exit → Act → World → Prop} (b s : Nat) (ini fin : Array Value) (T : TypeId) (hm : P.follows .mixedOrders = true) (hB : Region.lexB .any l.toArray = true) (h0 : hget w b = some (.cells ini T (0, 0)))
    (hg : (l[s]?.all fun o => o.guard.isNone) = true) (hs : s < l.length)
    (h : SepO l b s ini fin T w → wpO P l b s ini fin T w (fun a' => ∀ w', Out (fun e => e = b) w w' → hget w' b = some (.cells fin T (0, 0)) → Q .normal a' w') 0 l a) : (Code.region id l.toArray true).wp P Q a w := by
  have hsep : SepO l b s ini fin T w := ⟨fun p hp => absurd hp (by simp), fun p hp => absurd hp (by simp), fun p hp => absurd hp (by simp), fun e _ => by simp, fun e he f hf hfe => by
      rw [List.mem_singleton] at he hf
      exact absurd (hf.trans he.symm) hfe, fun e he => by
      rw [List.mem_singleton] at he
      subst he
      exact hget_lt h0, fun p hp => absurd hp (by simp), fun p hp => absurd hp (by simp), fun e he o ho => by
      rw [show l[(oldC s ini fin T e).st]? = l[s]? from rfl] at ho
      rw [ho] at hg
      simpa using hg⟩
  refine wp_region_var [] (fun _ => ⟨0, #[], #[], 0⟩) [b] (oldC s ini fin T) hm hB rfl hsep (fun e he => by
    rw [List.mem_singleton] at he
    subst he
    exact h0) (fun hs2 => ?_) (fun e _ => hs)
  refine wpGho_mono (fun a' ha' => ?_) _ _ _ (h hs2)
  intro g x hx _ _ _
  exact ha' x.w' (x.h.mono fun e _ he => by simpa using he) (hx b (by simp))
set_option maxRecDepth 100000 in
theorem wpO_plain (hsep : SepO l b s ini fin T w) (hsel : isSelect o = false) (hs : (s != i) = true)
    (h : ∀ K : Act → Prop, (∀ a, wpO P l b s ini fin T w Q (i + 1) rest a → K a) →
      if Region.wanted o (yielded l.toArray a.tmps) then ∃ v, (∀ x : LaterO b w, gOut P x.w' (fun u _ => u = v) ((execOp a.eval o).run P x.w')) ∧ K (a.put o.dst v) else K (a.put o.dst undef)) :
    wpO P l b s ini fin T w Q i (o :: rest) a :=
  wpV_plain hsep rfl rfl hsel rfl (fun _ he => absurd he (by simp)) (fun e he => by simpa [oldC] using hs) h
set_option maxRecDepth 100000 in
theorem wpO_store (hsep : SepO l b s ini fin T w) (hst : (s == i) = true) (hg : o.guard = none) (hsel : isSelect o = false)
    (h : ∀ K : Act → Prop, (∀ a, wpO P l b s ini fin T w Q (i + 1) rest a → K a) →
      (∀ (x : World) (cs : Array Value), (cs = ini ∨ cs = fin) → hget x b = some (.cells cs T (0, 0)) → (execOp a.eval o).run P x = .ok .skip (blk x b (.cells fin T (0, 0)))) ∧ K (a.put o.dst undef)) :
    wpO P l b s ini fin T w Q i (o :: rest) a :=
  wpV_storeOld b (by simp) (by simpa [oldC] using hst) hsep rfl rfl hg hsel rfl h
end

end Go.Proofs.YtceljjnohjnepaaGreatDoor
