/- The document's curve: are two points the same, does one lie on the curve. The document's curve: a point's bytes. The document's curve: which point bytes are. A row of bytes that is appended to, wherever it came from. The document's curve: the base point, multiples of two points. -/
import Derived.Test.YtceljjnohjnepaaM15
import Derived.Test.YtceljjnohjnepaaM05
import Derived.Deep.AppendSrc
import Derived.Laws.AppendOwn
import Derived.Deep.LoopGhost
import Derived.Lib.SlBytesConst
namespace Go.Proofs.Ytceljjnohjnepaa
open Go Go.RowKit DG
attribute [local go_sem ↓] exl_Num exs_Num exl_RPt exs_RPt exb_RPt
                    attribute [local go_sem] ldm_Num str_Num ldr_RPt str_RPt to_nine0 rpt_zero bld_rpt bld_rpt0

set_option maxRecDepth 100000 in
set_option maxHeartbeats 4000000 in
theorem rsame_core (x y z x' y' z' a b c d : Nat) (q1 q2 : Bool) (W : World) (hx : x < pP) (hy : y < pP) (hz : z < pP) (hx' : x' < pP) (hy' : y' < pP) (hz' : z' < pP)
    (ha : rm x z' = a) (hb : rm x' z = b) (hc : rm y z' = c) (hd : rm y' z = d) (h1 : decide (a = b) = q1) (h2 : decide (c = d) = q2) :
    Calls Try.prog 34 #[.agg (rpt x y z), .agg (rpt x' y' z')] W fun r w' => r = .returned (.bool (q1 && q2)) ∧ Below W.heap.size W w' := by
  have M1 := hid (fun w => ha ▸ rmul_v x z' w hx hz')
  have M2 := hid (fun w => hb ▸ rmul_v x' z w hx' hz)
  have M3 := hid (fun w => hc ▸ rmul_v y z' w hy hz')
  have M4 := hid (fun w => hd ▸ rmul_v y' z w hy' hz)
  have E1 := eqlN a b (ha ▸ rm_lt _ _) (hb ▸ rm_lt _ _)
  have E2 := eqlN c d (hc ▸ rm_lt _ _) (hd ▸ rm_lt _ _)
  rw [h1] at E1
  rw [h2] at E2
  clear ha hb hc hd h1 h2 hx hy hz hx' hy' hz'
  go_enter Try.func34, Try.ntmps34
  go_upto_region 1 with (fail)
  obtain ⟨w1, hw1⟩ : ∃ w1, (W.alloc (.cells (rpt x y z) 46)).alloc (.cells (rpt x' y' z') 46) = w1 := ⟨_, rfl⟩
  have kA := kept (show hget w1 (W.heap.size) = some (.cells (rpt x y z) 46 (0, 0)) by rw [← hw1]; clear hw1; go_simp)
  have kB := kept (show hget w1 (W.heap.size + 1) = some (.cells (rpt x' y' z') 46 (0, 0)) by rw [← hw1]; clear hw1; go_simp)
  have b1 : Hid (Below W.heap.size W w1) := by rw [← hw1]; repeat (first | exact Below.refl _ _ | exact below_new _ | assumption | refine Below.drew ?_ | refine Below.drewN ?_ _ | refine below_alloc ?_ _ | refine below_blk' ?_ (by omega) _)
  rw [hw1]
  clear hw1
  try clear gA lA nA mA
  try clear jA
  have jA := kA.later
  obtain ⟨gA, lA, nA, mA⟩ := kA
  try clear gB lB nB mB
  try clear jB
  have jB := kB.later
  obtain ⟨gB, lB, nB, mB⟩ := kB
  cases q1
  · refine wp_region_later (by kernel_rfl) (by kernel_rfl) ?_
    repeat ((go_big_quiet_step ((go_at_call 55; first | with_reducible exact calls_later (M1.out _) | with_reducible exact calls_later (M2.out _)))))
    refine wpQuiet_nil ?_
    intro wL hwL
    obtain ⟨⟨w8, hL⟩, e8⟩ := hwL
    change wL = w8 at e8
    subst e8
    have b2 := hid (below_to b1.out hL)
    go_wp2_with fail
    go_ret
    exact ⟨rfl, b2.out⟩
  · refine wp_region_later (by kernel_rfl) (by kernel_rfl) ?_
    repeat ((go_big_quiet_step ((go_at_call 55; first | with_reducible exact calls_later (M1.out _) | with_reducible exact calls_later (M2.out _) | with_reducible exact calls_later (M3.out _) | with_reducible exact calls_later (M4.out _)))))
    refine wpQuiet_nil ?_
    intro wL hwL
    obtain ⟨⟨w8, hL⟩, e8⟩ := hwL
    change wL = w8 at e8
    subst e8
    have b2 := hid (below_to b1.out hL)
    go_wp2_with fail
    go_ret
    exact ⟨by first | rfl | (cases q2 <;> rfl), b2.out⟩
set_option maxRecDepth 100000 in
theorem rsame_v (s u : R3) (W : World) (h : s.bd) (k : u.bd) : Calls Try.prog 34 #[rv s, rv u] W fun r w' => r = .returned (.bool (s.same u)) ∧ Below W.heap.size W w' :=
  rsame_core s.x s.y s.z u.x u.y u.z _ _ _ _ _ _ W h.x h.y h.z k.x k.y k.z rfl rfl rfl rfl rfl rfl

set_option maxRecDepth 100000 in
set_option maxHeartbeats 4000000 in
theorem ron_core (x y z a b c d e f g : Nat) (q : Bool) (W : World) (hx : x < pP) (hy : y < pP) (hz : z < pP)
    (ha : rm x x = a) (hb : rm y y = b) (hc : rm z z = c) (hd : rm (rs b a) c = d) (he : rm c c = e) (hf : rm (rm dN a) b = f) (hg : ra e f = g) (hq : decide (d = g) = q) :
    Calls Try.prog 26 #[.agg (rpt x y z)] W fun r w' => r = .returned (.bool q) ∧ Below W.heap.size W w' := by
  have la : a < pP := ha ▸ rm_lt _ _
  have lb : b < pP := hb ▸ rm_lt _ _
  have lc : c < pP := hc ▸ rm_lt _ _
  have ld : d < pP := hd ▸ rm_lt _ _
  have le : e < pP := he ▸ rm_lt _ _
  have lf : f < pP := hf ▸ rm_lt _ _
  have lg : g < pP := hg ▸ ra_lt _ _
  have M1 := hid (fun w => ha ▸ rmul_v x x w hx hx)
  have M2 := hid (fun w => hb ▸ rmul_v y y w hy hy)
  have M3 := hid (fun w => hc ▸ rmul_v z z w hz hz)
  have S1 := hid (fun w => rsub_v b a w lb la)
  have M4 := hid (fun w => hd ▸ rmul_v (rs b a) c w (rs_lt _ _) lc)
  have M5 := hid (fun w => he ▸ rmul_v c c w lc lc)
  have G1 := hid (fun w => given_any w)
  have M6 := hid (fun w => rmul_v dN a w dN_pP la)
  have M7 := hid (fun w => hf ▸ rmul_v (rm dN a) b w (rm_lt _ _) lb)
  have A1 := hid (fun w => hg ▸ radd_v e f w le lf)
  have E1 := eqlN d g ld lg
  rw [hq] at E1
  clear ha hb hc hd he hf hg hq hx hy hz la lb lc ld le lf lg
  generalize dN = dd at *
  go_enter Try.func26, Try.ntmps26
  go_upto_region 1 with (fail)
  obtain ⟨w1, hw1⟩ : ∃ w1, W.alloc (.cells (rpt x y z) 46) = w1 := ⟨_, rfl⟩
  have kP := kept (show hget w1 (W.heap.size) = some (.cells (rpt x y z) 46 (0, 0)) by rw [← hw1]; clear hw1; go_simp)
  have b1 : Hid (Below W.heap.size W w1) := by rw [← hw1]; repeat (first | exact Below.refl _ _ | exact below_new _ | assumption | refine Below.drew ?_ | refine Below.drewN ?_ _ | refine below_alloc ?_ _ | refine below_blk' ?_ (by omega) _)
  rw [hw1]
  clear hw1
  try clear gP lP nP mP
  try clear jP
  have jP := kP.later
  obtain ⟨gP, lP, nP, mP⟩ := kP
  go_wp2_with fail
  try clear jP
  refine (M1.out _).mono ?_
  rintro e w2 ⟨rfl, hb2⟩
  have kP := Kept.on (kept (b := W.heap.size) (o := .cells (rpt x y z) 46 (0, 0)) (by go_simp)) hb2
  have b2 : Hid (Below W.heap.size W w2) := below_to (by repeat (first | exact Below.refl _ _ | exact below_new _ | exact b1.out | assumption | refine Below.drew ?_ | refine Below.drewN ?_ _ | refine below_alloc ?_ _ | refine below_blk' ?_ (by omega) _)) hb2
  clear hb2
  try clear gP lP nP mP
  obtain ⟨gP, lP, nP, mP⟩ := kP
  clear b1
  go_upto_region 2 with (fail)
  obtain ⟨A, hA⟩ : ∃ b, w2.heap.size = b := ⟨_, rfl⟩
  have wA : W.heap.size ≤ A := by rw [← hA]; exact b2.out.size
  have ePA : (W.heap.size = A) = False := by rw [← hA]; exact nP
  have eAP : (A = W.heap.size) = False := by rw [← hA]; exact mP
  obtain ⟨w3, hw3⟩ : ∃ w3, w2.alloc (.cells (nine a) 35) = w3 := ⟨_, rfl⟩
  have kP := kept (show hget w3 (W.heap.size) = some (.cells (rpt x y z) 46 (0, 0)) by rw [← hw3]; clear hw3; go_simp)
  have kA := kept (show hget w3 (w2.heap.size) = some (.cells (nine a) 35) by rw [← hw3]; clear hw3; go_simp)
  have b3 : Hid (Below W.heap.size W w3) := by rw [← hw3]; repeat (first | exact Below.refl _ _ | exact below_new _ | exact b2.out | assumption | refine Below.drew ?_ | refine Below.drewN ?_ _ | refine below_alloc ?_ _ | refine below_blk' ?_ (by omega) _)
  rw [hw3]
  clear hw3
  try clear gP lP nP mP
  try clear jP
  have jP := kP.later
  obtain ⟨gP, lP, nP, mP⟩ := kP
  try clear gA lA nA mA
  try clear jA
  have jA := kA.later
  obtain ⟨gA, lA, nA, mA⟩ := kA
  clear b2
  rw [hA] at *
  clear hA
  go_wp2_with fail
  try clear jP jA
  refine (M2.out _).mono ?_
  rintro e w4 ⟨rfl, hb4⟩
  have kP := Kept.on (kept (b := W.heap.size) (o := .cells (rpt x y z) 46 (0, 0)) (by go_simp)) hb4
  have kA := Kept.on (kept (b := A) (o := .cells (nine a) 35 (0, 0)) (by go_simp)) hb4
  have b4 : Hid (Below W.heap.size W w4) := below_to (by repeat (first | exact Below.refl _ _ | exact below_new _ | exact b3.out | assumption | refine Below.drew ?_ | refine Below.drewN ?_ _ | refine below_alloc ?_ _ | refine below_blk' ?_ (by omega) _)) hb4
  clear hb4
  try clear gP lP nP mP
  obtain ⟨gP, lP, nP, mP⟩ := kP
  try clear gA lA nA mA
  obtain ⟨gA, lA, nA, mA⟩ := kA
  clear b3
  go_upto_region 3 with (fail)
  obtain ⟨B, hB⟩ : ∃ b, w4.heap.size = b := ⟨_, rfl⟩
  have wB : W.heap.size ≤ B := by rw [← hB]; exact b4.out.size
  have ePB : (W.heap.size = B) = False := by rw [← hB]; exact nP
  have eBP : (B = W.heap.size) = False := by rw [← hB]; exact mP
  have eAB : (A = B) = False := by rw [← hB]; exact nA
  have eBA : (B = A) = False := by rw [← hB]; exact mA
  obtain ⟨w5, hw5⟩ : ∃ w5, w4.alloc (.cells (nine b) 35) = w5 := ⟨_, rfl⟩
  have kP := kept (show hget w5 (W.heap.size) = some (.cells (rpt x y z) 46 (0, 0)) by rw [← hw5]; clear hw5; go_simp)
  have kA := kept (show hget w5 (A) = some (.cells (nine a) 35 (0, 0)) by rw [← hw5]; clear hw5; go_simp)
  have kB := kept (show hget w5 (w4.heap.size) = some (.cells (nine b) 35) by rw [← hw5]; clear hw5; go_simp)
  have b5 : Hid (Below W.heap.size W w5) := by rw [← hw5]; repeat (first | exact Below.refl _ _ | exact below_new _ | exact b4.out | assumption | refine Below.drew ?_ | refine Below.drewN ?_ _ | refine below_alloc ?_ _ | refine below_blk' ?_ (by omega) _)
  rw [hw5]
  clear hw5
  try clear gP lP nP mP
  try clear jP
  have jP := kP.later
  obtain ⟨gP, lP, nP, mP⟩ := kP
  try clear gA lA nA mA
  try clear jA
  have jA := kA.later
  obtain ⟨gA, lA, nA, mA⟩ := kA
  try clear gB lB nB mB
  try clear jB
  have jB := kB.later
  obtain ⟨gB, lB, nB, mB⟩ := kB
  clear b4
  rw [hB] at *
  clear hB
  go_wp2_with fail
  try clear jP jA jB
  refine (M3.out _).mono ?_
  rintro e w6 ⟨rfl, hb6⟩
  have kP := Kept.on (kept (b := W.heap.size) (o := .cells (rpt x y z) 46 (0, 0)) (by go_simp)) hb6
  have kA := Kept.on (kept (b := A) (o := .cells (nine a) 35 (0, 0)) (by go_simp)) hb6
  have kB := Kept.on (kept (b := B) (o := .cells (nine b) 35 (0, 0)) (by go_simp)) hb6
  have b6 : Hid (Below W.heap.size W w6) := below_to (by repeat (first | exact Below.refl _ _ | exact below_new _ | exact b5.out | assumption | refine Below.drew ?_ | refine Below.drewN ?_ _ | refine below_alloc ?_ _ | refine below_blk' ?_ (by omega) _)) hb6
  clear hb6
  try clear gP lP nP mP
  obtain ⟨gP, lP, nP, mP⟩ := kP
  try clear gA lA nA mA
  obtain ⟨gA, lA, nA, mA⟩ := kA
  try clear gB lB nB mB
  obtain ⟨gB, lB, nB, mB⟩ := kB
  clear b5
  go_upto_region 4 with (fail)
  obtain ⟨C, hC⟩ : ∃ b, w6.heap.size = b := ⟨_, rfl⟩
  have wC : W.heap.size ≤ C := by rw [← hC]; exact b6.out.size
  have ePC : (W.heap.size = C) = False := by rw [← hC]; exact nP
  have eCP : (C = W.heap.size) = False := by rw [← hC]; exact mP
  have eAC : (A = C) = False := by rw [← hC]; exact nA
  have eCA : (C = A) = False := by rw [← hC]; exact mA
  have eBC : (B = C) = False := by rw [← hC]; exact nB
  have eCB : (C = B) = False := by rw [← hC]; exact mB
  obtain ⟨w7, hw7⟩ : ∃ w7, w6.alloc (.cells (nine c) 35) = w7 := ⟨_, rfl⟩
  have kP := kept (show hget w7 (W.heap.size) = some (.cells (rpt x y z) 46 (0, 0)) by rw [← hw7]; clear hw7; go_simp)
  have kA := kept (show hget w7 (A) = some (.cells (nine a) 35 (0, 0)) by rw [← hw7]; clear hw7; go_simp)
  have kB := kept (show hget w7 (B) = some (.cells (nine b) 35 (0, 0)) by rw [← hw7]; clear hw7; go_simp)
  have kC := kept (show hget w7 (w6.heap.size) = some (.cells (nine c) 35) by rw [← hw7]; clear hw7; go_simp)
  have b7 : Hid (Below W.heap.size W w7) := by rw [← hw7]; repeat (first | exact Below.refl _ _ | exact below_new _ | exact b6.out | assumption | refine Below.drew ?_ | refine Below.drewN ?_ _ | refine below_alloc ?_ _ | refine below_blk' ?_ (by omega) _)
  rw [hw7]
  clear hw7
  try clear gP lP nP mP
  try clear jP
  have jP := kP.later
  obtain ⟨gP, lP, nP, mP⟩ := kP
  try clear gA lA nA mA
  try clear jA
  have jA := kA.later
  obtain ⟨gA, lA, nA, mA⟩ := kA
  try clear gB lB nB mB
  try clear jB
  have jB := kB.later
  obtain ⟨gB, lB, nB, mB⟩ := kB
  try clear gC lC nC mC
  try clear jC
  have jC := kC.later
  obtain ⟨gC, lC, nC, mC⟩ := kC
  clear b6
  rw [hC] at *
  clear hC
  refine wp_region_later (by kernel_rfl) (by kernel_rfl) ?_
  repeat ((go_big_quiet_step ((first | (go_at_call 55; first | with_reducible exact calls_later (M4.out _) | with_reducible exact calls_later (M5.out _) | with_reducible exact calls_later (M6.out _) | with_reducible exact calls_later (M7.out _)) | (go_at_call 57; with_reducible exact calls_later (S1.out _)) | (go_at_call 58; with_reducible exact calls_later (A1.out _)) | (go_at_call 21; with_reducible exact calls_later (G1.out _))))))
  refine wpQuiet_nil ?_
  intro wL hwL
  obtain ⟨⟨w8, hL⟩, e8⟩ := hwL
  change wL = w8 at e8
  subst e8
  have bZ := hid (below_to b7.out hL)
  go_wp2_with fail
  go_ret
  exact ⟨rfl, bZ.out⟩
set_option maxRecDepth 100000 in
theorem ron_v (s : R3) (W : World) (h : s.bd) : Calls Try.prog 26 #[rv s] W fun r w' => r = .returned (.bool s.on) ∧ Below W.heap.size W w' :=
  ron_core s.x s.y s.z _ _ _ _ _ _ _ _ W h.x h.y h.z rfl rfl rfl rfl rfl rfl rfl rfl

end Go.Proofs.Ytceljjnohjnepaa

namespace Go.Proofs.Ytceljjnohjnepaa
open Go Go.RowKit DG
attribute [local go_sem ↓] exl_Num exs_Num exl_RPt exs_RPt exb_RPt
                    attribute [local go_sem] ldm_Num str_Num ldr_RPt str_RPt to_nine0 rpt_zero bld_rpt bld_rpt0

set_option maxRecDepth 100000 in
theorem odd_nine (x : Nat) : (Instr.index 35 (.agg (nine x)) (.int .i64 0)).run Try.prog = fun w => .ok (.int .u64 ((x % 1073741824 : Nat) : Int)) w := by
  funext w
  have h := run_index_ints (P := Try.prog) (w := w) (n := 9) (k := .u64) Try.underlying35 (by rfl) (by kernel_rfl) (digs B30 x 9) (digs_length _ _) 0 (by decide)
  rw [show (digs B30 x 9).getD 0 0 = x % 1073741824 from rfl] at h
  exact h
set_option maxRecDepth 100000 in
theorem Laid.on {w w' : World} {b : Nat} {l : List UInt8} (h : Laid w b l) (hb : Below w.heap.size w w') : Laid w' b l := by
  obtain ⟨C, T, n, h1, h2, h3⟩ := h.ex
  exact ⟨⟨C, T, n, (hb.block b (lt_blk h1)).trans h1, h2, h3⟩⟩
set_option maxRecDepth 100000 in
theorem nbytes_enc (n : Nat) (W : World) (h : n < pP) : Calls Try.prog 17 #[.agg (nine n)] W fun e w' => e = .returned (.string (encB n false)) ∧ Below W.heap.size W w' := ref_Bytes n W (Nat.lt_trans h (by decide))

set_option maxRecDepth 100000 in
set_option maxHeartbeats 4000000 in
theorem rbytes_core (x y z v a b : Nat) (od : Bool) (s : ByteArray) (W : World) (hx : x < pP) (hy : y < pP) (hz : z < pP)
    (hv : rInv z = v) (ha : rm y v = a) (hb : rm x v = b) (hs : encB a false = s) (ho : decide (b % 2 = 1) = od) (hvl : v < pP) (h32 : s.size = 32)
    (o : ByteArray) (hof : od = false → s = o) (hot : od = true → (⟨(s.data.toList.set 31 (s.data.toList.getD 31 0 ||| 128)).toArray⟩ : ByteArray) = o) :
    Calls Try.prog 46 #[.agg (rpt x y z)] W fun r w' => r = .returned (.string o) ∧ Below W.heap.size W w' := by
  have I1 := hid (fun w => hv ▸ ref_Inv z w hz)
  have M1 := hid (fun w => ha ▸ rmul_v y v w hy hvl)
  have M2 := hid (fun w => hb ▸ rmul_v x v w hx hvl)
  have B1 := hid (fun w => hs ▸ nbytes_enc a w (ha ▸ rm_lt _ _))
  have hodd := odd9 b
  rw [ho] at hodd
  have hi := odd_nine b
  have HOF := hid hof
  have HOT := hid hot
  clear hv ha hb ho hx hy hz hvl hs hof hot
  obtain ⟨l, hl⟩ : ∃ l, s.data.toList = l := ⟨_, rfl⟩
  have hll : l.length = 32 := by rw [← hl]; simpa using h32
  go_enter Try.func46, Try.ntmps46
  go_upto_region 1 with (fail)
  obtain ⟨w1, hw1⟩ : ∃ w1, W.alloc (.cells (rpt x y z) 46) = w1 := ⟨_, rfl⟩
  have kA := kept (show hget w1 (W.heap.size) = some (.cells (rpt x y z) 46 (0, 0)) by rw [← hw1]; clear hw1; go_simp)
  have b1 : Hid (Below W.heap.size W w1) := by rw [← hw1]; repeat (first | exact Below.refl _ _ | exact below_new _ | assumption | refine Below.drew ?_ | refine Below.drewN ?_ _ | refine below_alloc ?_ _ | refine below_blk' ?_ (by omega) _)
  rw [hw1]
  clear hw1
  try clear gA lA nA mA
  try clear jA
  have jA := kA.later
  obtain ⟨gA, lA, nA, mA⟩ := kA
  go_wp2_with fail
  try clear jA
  refine (I1.out _).mono ?_
  rintro e w2 ⟨rfl, hb2⟩
  have kA := Kept.on (kept (b := W.heap.size) (o := .cells (rpt x y z) 46 (0, 0)) (by go_simp)) hb2
  have b2 : Hid (Below W.heap.size W w2) := below_to (by repeat (first | exact Below.refl _ _ | exact below_new _ | exact b1.out | assumption | refine Below.drew ?_ | refine Below.drewN ?_ _ | refine below_alloc ?_ _ | refine below_blk' ?_ (by omega) _)) hb2
  clear hb2
  try clear gA lA nA mA
  obtain ⟨gA, lA, nA, mA⟩ := kA
  clear b1
  go_upto_region 2 with (fail)
  obtain ⟨Z, hZ⟩ : ∃ b, w2.heap.size = b := ⟨_, rfl⟩
  have wZ : W.heap.size ≤ Z := by rw [← hZ]; exact b2.out.size
  have eAZ : (W.heap.size = Z) = False := by rw [← hZ]; exact nA
  have eZA : (Z = W.heap.size) = False := by rw [← hZ]; exact mA
  obtain ⟨w3, hw3⟩ : ∃ w3, w2.alloc (.cells (nine v) 35) = w3 := ⟨_, rfl⟩
  have kA := kept (show hget w3 (W.heap.size) = some (.cells (rpt x y z) 46 (0, 0)) by rw [← hw3]; clear hw3; go_simp)
  have kZ := kept (show hget w3 (w2.heap.size) = some (.cells (nine v) 35) by rw [← hw3]; clear hw3; go_simp)
  have b3 : Hid (Below W.heap.size W w3) := by rw [← hw3]; repeat (first | exact Below.refl _ _ | exact below_new _ | exact b2.out | assumption | refine Below.drew ?_ | refine Below.drewN ?_ _ | refine below_alloc ?_ _ | refine below_blk' ?_ (by omega) _)
  rw [hw3]
  clear hw3
  try clear gA lA nA mA
  try clear jA
  have jA := kA.later
  obtain ⟨gA, lA, nA, mA⟩ := kA
  try clear gZ lZ nZ mZ
  try clear jZ
  have jZ := kZ.later
  obtain ⟨gZ, lZ, nZ, mZ⟩ := kZ
  clear b2
  rw [hZ] at *
  clear hZ
  go_wp2_with fail
  try clear jA jZ
  refine (M1.out _).mono ?_
  rintro e w4 ⟨rfl, hb4⟩
  have kA := Kept.on (kept (b := W.heap.size) (o := .cells (rpt x y z) 46 (0, 0)) (by go_simp)) hb4
  have kZ := Kept.on (kept (b := Z) (o := .cells (nine v) 35 (0, 0)) (by go_simp)) hb4
  have b4 : Hid (Below W.heap.size W w4) := below_to (by repeat (first | exact Below.refl _ _ | exact below_new _ | exact b3.out | assumption | refine Below.drew ?_ | refine Below.drewN ?_ _ | refine below_alloc ?_ _ | refine below_blk' ?_ (by omega) _)) hb4
  clear hb4
  try clear gA lA nA mA
  obtain ⟨gA, lA, nA, mA⟩ := kA
  try clear gZ lZ nZ mZ
  obtain ⟨gZ, lZ, nZ, mZ⟩ := kZ
  clear b3
  go_wp2_with fail
  try clear jA jZ
  refine (B1.out _).mono ?_
  rintro e w5 ⟨rfl, hb5⟩
  have kA := Kept.on (kept (b := W.heap.size) (o := .cells (rpt x y z) 46 (0, 0)) (by go_simp)) hb5
  have kZ := Kept.on (kept (b := Z) (o := .cells (nine v) 35 (0, 0)) (by go_simp)) hb5
  have b5 : Hid (Below W.heap.size W w5) := below_to (by repeat (first | exact Below.refl _ _ | exact below_new _ | exact b4.out | assumption | refine Below.drew ?_ | refine Below.drewN ?_ _ | refine below_alloc ?_ _ | refine below_blk' ?_ (by omega) _)) hb5
  clear hb5
  try clear gA lA nA mA
  obtain ⟨gA, lA, nA, mA⟩ := kA
  try clear gZ lZ nZ mZ
  obtain ⟨gZ, lZ, nZ, mZ⟩ := kZ
  clear b4
  go_upto_region 3 with (fail)
  have hL := laid_bytes w5 s
  have hB := bytesWorld_below w5 5 s
  rw [hl] at hL
  have fA := (Kept.on (kept gA) hB).get
  have fZ := (Kept.on (kept gZ) hB).get
  have b6 := hid (below_to b5.out hB)
  have hN := b5.out.size
  clear b5 gA lA nA mA gZ lZ nZ mZ hB
  generalize Lib.bytesWorld w5 5 s = w6 at *
  generalize grownCap w5 32 0 5 = cap at *
  generalize w5.heap.size = N at *
  obtain ⟨gA, lA, nA, mA⟩ := kept (show hget w6 (W.heap.size) = some (.cells (rpt x y z) 46 (0, 0)) by first | assumption | go_simp)
  obtain ⟨gZ, lZ, nZ, mZ⟩ := kept (show hget w6 (Z) = some (.cells (nine v) 35 (0, 0)) by first | assumption | go_simp)
  clear fA fZ
  have HL := hid hL
  clear hL
  go_wp2_with fail
  refine (M2.out _).mono ?_
  rintro e w7 ⟨rfl, hb7⟩
  have L7 := HL.out.on hb7
  have b7 := hid (below_to b6.out hb7)
  clear HL b6 hb7 gA lA nA mA gZ lZ nZ mZ
  have HLL := hid hll
  cases od
  · have hconv := fun (cap : Nat) => oconv_string w7 N 0 32 cap l hll (fun j hj => by rw [Nat.zero_add]; exact L7.cell (by omega))
    clear L7 hll
    go_wp2_with fail
    go_ret
    exact ⟨(congrArg (fun x => Ending.returned (Value.string x)) (show (⟨l.toArray⟩ : ByteArray) = s from ba_ext (by rw [hl]))).trans (congrArg (fun x => Ending.returned (Value.string x)) (HOF.out (by first | rfl | trivial))), b7.out⟩
  · have c1 := L7.cell (j := 31) (by omega)
    have f1 := L7.free (j := 31) (by omega)
    have L8 : Laid (w7.setCell ⟨N, 31, none⟩ (.int .u8 (bits .or .u8 ((l.getD 31 0).toNat : Int) 128))) N (l.set 31 (l.getD 31 0 ||| 128)) := by
      rw [or128_u8]
      exact L7.set 31 (l.getD 31 0 ||| 128)
    have HO : Hid ((⟨(l.set 31 (l.getD 31 0 ||| 128)).toArray⟩ : ByteArray) = o) := by
      have h9 := HOT.out (by first | rfl | trivial)
      rw [hl] at h9
      exact h9
    have hl8 : (l.set 31 (l.getD 31 0 ||| 128)).length = 32 := by rw [List.length_set]; exact hll
    generalize hl2 : l.set 31 (l.getD 31 0 ||| 128) = l2 at *
    generalize l.getD 31 0 = x1 at *
    have H8 := hid L8
    clear L7 hll hl2 L8
    go_upto_region 5 with (fail)
    have hconv := fun (cap : Nat) => oconv_string (w7.setCell ⟨N, 31, none⟩ (.int .u8 (bits .or .u8 (x1.toNat : Int) 128))) N 0 32 cap l2 hl8 (fun j hj => by rw [Nat.zero_add]; exact H8.out.cell (by omega))
    have b8 := hid (b7.out.setCell (p := ⟨N, 31, none⟩) hN (.int .u8 (bits .or .u8 (x1.toNat : Int) 128)))
    clear H8 b7 c1 f1
    go_wp2_with fail
    go_ret
    exact ⟨congrArg (fun x => Ending.returned (Value.string x)) HO.out, b8.out⟩
set_option maxRecDepth 100000 in
theorem set_top {s : ByteArray} (h : s.size = 32) (hs : 31 < s.size) : (⟨(s.data.toList.set 31 (s.data.toList.getD 31 0 ||| 128)).toArray⟩ : ByteArray) = topB s (s[31] ||| 128) := by
  have hl : s.data.toList.length = 32 := by simpa using h
  have hg : s.data.toList.getD 31 0 = s[31] := by
    rw [List.getD_eq_getElem?_getD, List.getElem?_eq_getElem (by omega), Option.getD_some]
    rfl
  rw [hg]
  refine ba_ext ?_
  rw [topB_list]
  show s.data.toList.set 31 (s[31] ||| 128) = _
  generalize s[31] ||| 128 = x
  apply List.ext_getElem
  · simp [hl]
  · intro i h1 h2
    rw [List.length_set] at h1
    rw [List.getElem_set]
    split
    · rename_i he
      subst he
      rw [List.getElem_append_right (by simp [hl])]
      simp [hl]
    · rw [List.getElem_append_left (by simp; omega), List.getElem_take]
set_option maxRecDepth 100000 in
theorem rbytes_v (s : R3) (W : World) (h : s.bd) : Calls Try.prog 46 #[rv s] W fun r w' => r = .returned (.string s.bytes) ∧ Below W.heap.size W w' := by
  obtain ⟨S, hS⟩ : ∃ S, encB (rm s.y (rInv s.z)) false = S := ⟨_, rfl⟩
  have h32 : S.size = 32 := hS ▸ enc_size _ _
  have hlt : rm s.y (rInv s.z) < t255 := Nat.lt_trans (rm_lt _ _) pP_255
  refine rbytes_core s.x s.y s.z _ _ _ _ S W h.x h.y h.z rfl rfl rfl hS rfl (rPow_lt _ _) h32 s.bytes (fun ho => ?_) (fun ho => ?_)
  · unfold R3.bytes; rw [ho, hS]
  · unfold R3.bytes; rw [ho, set_top h32 (by omega)]; exact enc_top hlt hS (by omega)

end Go.Proofs.Ytceljjnohjnepaa

namespace Go.Proofs.Ytceljjnohjnepaa
open Go Go.RowKit DG
attribute [local go_sem ↓] exl_Num exs_Num exl_RPt exs_RPt exb_RPt
                    attribute [local go_sem] ldm_Num str_Num ldr_RPt str_RPt to_nine0 rpt_zero bld_rpt bld_rpt0

def rU (y : Nat) : Nat := rm (rs (rm y y) 1) (rInv (ra (rm dN (rm y y)) 1))
def rX (s : ByteArray) : Nat := if rIs (rU (dY s)) = true then rRoot2 (rU (dY s)) (dOd s) else 0
def rP (s : ByteArray) : R3 := ⟨rX s, dY s, 1⟩
set_option maxRecDepth 100000 in
theorem dU_mod {y : Nat} (h : y < p2) : dU y % pP = rU y := by
  have e := fpU h
  have hy := dU_lt h
  have hlt : rU y < pP := rm_lt _ _
  rw [← Nat.mod_eq_of_lt hlt, ← fp_same, e]
  unfold rU
  have hd : cv.D = fp dN := rfl
  rw [fprm, fprs (by decide), fprm, fpri (ra_lt _ _), fpra, fprm, fprm, hd, show cv.inv = finv from rfl, show fp 1 = 1 from rfl]
  congr 2
  generalize fp y = v
  generalize fp dN = d
  clear e hd hy hlt
  grind
set_option maxRecDepth 100000 in
theorem rX_mod (s : ByteArray) : dX s % pP = rX s := by
  unfold dX rX
  rw [rootV_mod (dU_lt (dY_lt s)), dU_mod (dY_lt s)]
set_option maxRecDepth 100000 in
theorem rX_lt (s : ByteArray) : rX s < pP := by rw [← rX_mod]; exact Nat.mod_lt _ (by decide)
set_option maxRecDepth 100000 in
theorem rOk_eq (s : ByteArray) : rootOk (dU (dY s)) (dOd s) = (rIs (rU (dY s)) && (decide (rRoot2 (rU (dY s)) (dOd s) % 2 = 1) == dOd s)) := by
  rw [ok_mod (dU_lt (dY_lt s)), dU_mod (dY_lt s)]
set_option maxRecDepth 100000 in
theorem rP_ok {s : ByteArray} (h : dOk s = true) : (rP s).ok (dPt s h) := by
  have h0 := h
  unfold dOk at h0
  rw [Bool.and_eq_true, Bool.and_eq_true, decide_eq_true_eq, decide_eq_true_eq] at h0
  have he : fp (rX s) = fp (dX s) := by rw [← rX_mod]; exact fp_mod _
  refine ⟨⟨rX_lt s, h0.2.2, show (1 : Nat) < pP by decide⟩, ⟨cv.one, ?_, ?_⟩⟩
  · show fp (rX s) = fp (dX s) * fp 1
    rw [he, ← fp_mul, Nat.mul_one]
  · show fp (dY s) = fp (dY s) * fp 1
    rw [← fp_mul, Nat.mul_one]

set_option maxRecDepth 100000 in
theorem andNot128_u8 (x : UInt8) : bits .andNot .u8 (x.toNat : Int) 128 = ((x &&& 127).toNat : Int) := by
  rw [show (128 : Int) = ((128 : Nat) : Int) from rfl, u8_andNot_nat _ _ x.toNat_lt (by decide), UInt8.toNat_and]; rfl
set_option maxRecDepth 100000 in
theorem set_topx {s : ByteArray} (h : s.size = 32) (x : UInt8) : (⟨(s.data.toList.set 31 x).toArray⟩ : ByteArray) = topB s x := by
  have hl : s.data.toList.length = 32 := by simpa using h
  refine ba_ext ?_
  rw [topB_list]
  show s.data.toList.set 31 x = _
  apply List.ext_getElem
  · simp [hl]
  · intro i h1 h2
    rw [List.length_set] at h1
    rw [List.getElem_set]
    split
    · rename_i he
      subst he
      rw [List.getElem_append_right (by simp [hl])]
      simp [hl]
    · rw [List.getElem_append_left (by simp; omega), List.getElem_take]

set_option maxRecDepth 100000 in
theorem rdecode_short (s : ByteArray) (W : World) (h1 : s.size ≠ 32) (_hmax : s.size ≤ 9223372036854775807) : Calls Try.prog 20 #[.string s] W fun r w' => r = .returned (.tuple #[.agg (rpt 0 0 0), .int .i64 2]) ∧ Below W.heap.size W w' := by
  have g1 : ((s.size : Int) != 32) = true := by rw [bne_iff_ne]; omega
  clear h1
  go_enter Try.func20, Try.ntmps20
  go_wp2_with fail
  refine bodyPost_ret (v := .tuple #[.agg (rpt 0 0 0), .int .i64 2]) (results_cell_tmp Try.results20 _ _ (W.heap.size) 46 (rpt 0 0 0) (0, 0) _ (.int .i64 2) (by rfl) (by rfl) (by rw [← hget_eq]; go_simp) Try.underlying46 rfl (by rw [info_RPt]; go_simp)) rfl ?_
  exact ⟨rfl, by repeat (first | exact Below.refl _ _ | exact below_new _ | assumption | refine Below.drew ?_ | refine Below.drewN ?_ _ | refine below_alloc ?_ _)⟩

set_option maxRecDepth 100000 in
set_option maxHeartbeats 4000000 in
theorem rdecode_core (s u : ByteArray) (y yy a b c e f x : Nat) (od ok cn : Bool) (W : World) (h1 : s.size = 32) (hu : (⟨(s.data.toList.set 31 (s.data.toList.getD 31 0 &&& 127)).toArray⟩ : ByteArray) = u) (hu32 : u.size = 32)
    (ho : decide ((128 : Int) ≤ ((s.data.toList.getD 31 0).toNat : Int)) = od)
    (_hyl : y < pP ∨ cn = false) (hy : bytesNat u.data.toList % pP = y) (hyy : rm y y = yy) (ha : rs yy 1 = a) (hb : rm dN yy = b) (hc : ra b 1 = c) (he : rInv c = e) (hf : rm a e = f)
    (hok : (rIs f && (decide (rRoot2 f od % 2 = 1) == od)) = ok) (hx : (if rIs f = true then rRoot2 f od else 0) = x) (hcn : canB u = cn) :
    Calls Try.prog 20 #[.string s] W fun r w' => r = .returned (if cn && ok then .tuple #[.agg (rpt x y 1), .int .i64 0] else .tuple #[.agg (rpt 0 0 0), .int .i64 90]) ∧ Below W.heap.size W w' := by
  have ly : y < pP := hy ▸ Nat.mod_lt _ (by decide)
  have l1 : 1 < pP := by decide
  have lyy : yy < pP := hyy ▸ rm_lt _ _
  have la : a < pP := ha ▸ rs_lt _ _
  have lb : b < pP := hb ▸ rm_lt _ _
  have lc : c < pP := hc ▸ ra_lt _ _
  have le : e < pP := he ▸ rPow_lt _ _
  have lf : f < pP := hf ▸ rm_lt _ _
  have C1 := hid (fun w => hcn ▸ ref_Canonical u w (by omega))
  have O1 := hid (fun w => hy ▸ ref_Of u w (by omega))
  have M1 := hid (fun w => hyy ▸ rmul_v y y w ly ly)
  have K1 := hid (fun w => ref_Small 1 w (by decide))
  have S1 := hid (fun w => ha ▸ rsub_v yy 1 w lyy l1)
  have G1 := hid (fun w => given_any w)
  have M2 := hid (fun w => hb ▸ rmul_v dN yy w dN_pP lyy)
  have A1 := hid (fun w => hc ▸ radd_v b 1 w lb l1)
  have I1 := hid (fun w => he ▸ ref_Inv c w lc)
  have M3 := hid (fun w => hf ▸ rmul_v a e w la le)
  have R1 := fun w => ref_Root f od w lf
  rw [hok, hx] at R1
  have HR := hid R1
  clear R1 hy hyy ha hb hc he hf hok hx hcn ly l1 lyy la lb lc le lf _hyl
  generalize dN = dd at *
  obtain ⟨l, hl⟩ : ∃ l, s.data.toList = l := ⟨_, rfl⟩
  rw [hl] at hu ho
  have hll : l.length = 32 := by rw [← hl]; simpa using h1
  have g1 : ((s.size : Int) != 32) = false := by rw [bne_eq_false_iff_eq]; omega
  have HLL := hid hll
  have HL := hid hl
  have HU := hid hu
  have HO := hid ho
  clear hll hl hu ho
  go_enter Try.func20, Try.ntmps20
  go_upto_region 3 with (fail)
  obtain ⟨w1, hw1⟩ : ∃ w1, W.alloc (.cells (rpt 0 0 0) 46) = w1 := ⟨_, rfl⟩
  have kR := kept (show hget w1 (W.heap.size) = some (.cells (rpt 0 0 0) 46 (0, 0)) by rw [← hw1]; clear hw1; go_simp)
  have b1 : Hid (Below W.heap.size W w1) := by rw [← hw1]; repeat (first | exact Below.refl _ _ | exact below_new _ | assumption | refine Below.drew ?_ | refine Below.drewN ?_ _ | refine below_alloc ?_ _ | refine below_blk' ?_ (by omega) _)
  rw [hw1]
  clear hw1
  try clear gR lR nR mR
  try clear jR
  have jR := kR.later
  obtain ⟨gR, lR, nR, mR⟩ := kR
  go_upto_region 4 with (fail)
  have hL := laid_bytes w1 s
  have hB := bytesWorld_below w1 5 s
  rw [HL.out] at hL
  have fR := (Kept.on (kept gR) hB).get
  have b2 := hid (below_to b1.out hB)
  have hN := b1.out.size
  have kR := lR
  clear b1 gR lR nR mR hB jR
  generalize Lib.bytesWorld w1 5 s = w2 at *
  generalize grownCap w1 32 0 5 = cap at *
  generalize w1.heap.size = N at *
  have eRN : (W.heap.size = N) = False := by simp; omega
  have eNR : (N = W.heap.size) = False := by simp; omega
  have hlen := HLL.out
  have c1 := hL.cell (j := 31) (by omega)
  have f1 := hL.free (j := 31) (by omega)
  have L8 : Laid (w2.setCell ⟨N, 31, none⟩ (.int .u8 (bits .andNot .u8 ((l.getD 31 0).toNat : Int) 128))) N (l.set 31 (l.getD 31 0 &&& 127)) := by
    rw [andNot128_u8]
    exact hL.set 31 (l.getD 31 0 &&& 127)
  have hl8 : (l.set 31 (l.getD 31 0 &&& 127)).length = 32 := by rw [List.length_set]; exact hlen
  have ho := HO.out
  generalize hl2 : l.set 31 (l.getD 31 0 &&& 127) = l2 at *
  generalize l.getD 31 0 = x1 at *
  have H8 := hid L8
  clear hL hl2 L8 hlen HO
  go_upto_region 6 with (fail)
  have fR3 : hget (w2.setCell ⟨N, 31, none⟩ (.int .u8 (bits .andNot .u8 (x1.toNat : Int) 128))) W.heap.size = some (.cells (rpt 0 0 0) 46 (0, 0)) := at_setCell_other fR (by simp; omega) _
  have b3 := hid (b2.out.setCell (p := ⟨N, 31, none⟩) hN (.int .u8 (bits .andNot .u8 (x1.toNat : Int) 128)))
  have L3 := H8.out
  clear b2 fR H8 c1 f1
  generalize w2.setCell ⟨N, 31, none⟩ (.int .u8 (bits .andNot .u8 (x1.toNat : Int) 128)) = w3 at *
  obtain ⟨gR, lR, nR, mR⟩ := kept (show hget w3 (W.heap.size) = some (.cells (rpt 0 0 0) 46 (0, 0)) by first | assumption | go_simp)
  have hconv := fun (cap : Nat) => oconv_string w3 N 0 32 cap l2 hl8 (fun j hj => by rw [Nat.zero_add]; exact L3.cell (by omega))
  simp only [HU.out] at hconv
  have H3 := hid L3
  clear fR3 L3
  go_wp2_with fail
  try clear jR
  refine (C1.out _).mono ?_
  rintro e w4 ⟨rfl, hb4⟩
  have kR := Kept.on (kept (b := W.heap.size) (o := .cells (rpt 0 0 0) 46 (0, 0)) (by go_simp)) hb4
  have b4 : Hid (Below W.heap.size W w4) := below_to (by repeat (first | exact Below.refl _ _ | exact below_new _ | exact b3.out | assumption | refine Below.drew ?_ | refine Below.drewN ?_ _ | refine below_alloc ?_ _ | refine below_blk' ?_ (by omega) _)) hb4
  have L4 := H3.out.on hb4
  clear hb4
  try clear gR lR nR mR
  obtain ⟨gR, lR, nR, mR⟩ := kR
  clear b3
  clear H3 hconv
  have hconv := fun (cap : Nat) => oconv_string w4 N 0 32 cap l2 hl8 (fun j hj => by rw [Nat.zero_add]; exact L4.cell (by omega))
  simp only [HU.out] at hconv
  clear L4
  cases cn
  · go_wp2_with fail
    refine bodyPost_ret (v := .tuple #[.agg (rpt 0 0 0), .int .i64 90]) (results_cell_tmp Try.results20 _ _ (W.heap.size) 46 (rpt 0 0 0) (0, 0) _ (.int .i64 90) (by rfl) (by rfl) (by rw [← hget_eq]; go_simp) Try.underlying46 rfl (by rw [info_RPt]; go_simp)) rfl ?_
    exact ⟨by rfl, below_blk' b4.out (by omega) _⟩
  · go_wp2_with fail
    try clear jR
    refine (O1.out _).mono ?_
    rintro e w5 ⟨rfl, hb5⟩
    have kR := Kept.on (kept (b := W.heap.size) (o := .cells (rpt 0 0 0) 46 (0, 0)) (by go_simp)) hb5
    have b5 : Hid (Below W.heap.size W w5) := below_to (by repeat (first | exact Below.refl _ _ | exact below_new _ | exact b4.out | assumption | refine Below.drew ?_ | refine Below.drewN ?_ _ | refine below_alloc ?_ _ | refine below_blk' ?_ (by omega) _)) hb5
    clear hb5
    try clear gR lR nR mR
    obtain ⟨gR, lR, nR, mR⟩ := kR
    clear b4
    clear hconv
    go_upto_region 9 with (fail)
    obtain ⟨Y, hY⟩ : ∃ b, w5.heap.size = b := ⟨_, rfl⟩
    have wY : W.heap.size ≤ Y := by rw [← hY]; exact b5.out.size
    have eRY : (W.heap.size = Y) = False := by rw [← hY]; exact nR
    have eYR : (Y = W.heap.size) = False := by rw [← hY]; exact mR
    obtain ⟨w6, hw6⟩ : ∃ w6, w5.alloc (.cells (nine y) 35) = w6 := ⟨_, rfl⟩
    have kR := kept (show hget w6 (W.heap.size) = some (.cells (rpt 0 0 0) 46 (0, 0)) by rw [← hw6]; clear hw6; go_simp)
    have kY := kept (show hget w6 (w5.heap.size) = some (.cells (nine y) 35) by rw [← hw6]; clear hw6; go_simp)
    have b6 : Hid (Below W.heap.size W w6) := by rw [← hw6]; repeat (first | exact Below.refl _ _ | exact below_new _ | exact b5.out | assumption | refine Below.drew ?_ | refine Below.drewN ?_ _ | refine below_alloc ?_ _ | refine below_blk' ?_ (by omega) _)
    rw [hw6]
    clear hw6
    try clear gR lR nR mR
    try clear jR
    have jR := kR.later
    obtain ⟨gR, lR, nR, mR⟩ := kR
    try clear gY lY nY mY
    try clear jY
    have jY := kY.later
    obtain ⟨gY, lY, nY, mY⟩ := kY
    clear b5
    rw [hY] at *
    clear hY
    go_wp2_with fail
    try clear jR jY
    refine (M1.out _).mono ?_
    rintro e w7 ⟨rfl, hb7⟩
    have kR := Kept.on (kept (b := W.heap.size) (o := .cells (rpt 0 0 0) 46 (0, 0)) (by go_simp)) hb7
    have kY := Kept.on (kept (b := Y) (o := .cells (nine y) 35 (0, 0)) (by go_simp)) hb7
    have b7 : Hid (Below W.heap.size W w7) := below_to (by repeat (first | exact Below.refl _ _ | exact below_new _ | exact b6.out | assumption | refine Below.drew ?_ | refine Below.drewN ?_ _ | refine below_alloc ?_ _ | refine below_blk' ?_ (by omega) _)) hb7
    clear hb7
    try clear gR lR nR mR
    obtain ⟨gR, lR, nR, mR⟩ := kR
    try clear gY lY nY mY
    obtain ⟨gY, lY, nY, mY⟩ := kY
    clear b6
    go_upto_region 10 with (fail)
    obtain ⟨A, hA⟩ : ∃ b, w7.heap.size = b := ⟨_, rfl⟩
    have wA : W.heap.size ≤ A := by rw [← hA]; exact b7.out.size
    have eRA : (W.heap.size = A) = False := by rw [← hA]; exact nR
    have eAR : (A = W.heap.size) = False := by rw [← hA]; exact mR
    have eYA : (Y = A) = False := by rw [← hA]; exact nY
    have eAY : (A = Y) = False := by rw [← hA]; exact mY
    obtain ⟨w8, hw8⟩ : ∃ w8, w7.alloc (.cells (nine yy) 35) = w8 := ⟨_, rfl⟩
    have kR := kept (show hget w8 (W.heap.size) = some (.cells (rpt 0 0 0) 46 (0, 0)) by rw [← hw8]; clear hw8; go_simp)
    have kY := kept (show hget w8 (Y) = some (.cells (nine y) 35 (0, 0)) by rw [← hw8]; clear hw8; go_simp)
    have kA := kept (show hget w8 (w7.heap.size) = some (.cells (nine yy) 35) by rw [← hw8]; clear hw8; go_simp)
    have b8 : Hid (Below W.heap.size W w8) := by rw [← hw8]; repeat (first | exact Below.refl _ _ | exact below_new _ | exact b7.out | assumption | refine Below.drew ?_ | refine Below.drewN ?_ _ | refine below_alloc ?_ _ | refine below_blk' ?_ (by omega) _)
    rw [hw8]
    clear hw8
    try clear gR lR nR mR
    try clear jR
    have jR := kR.later
    obtain ⟨gR, lR, nR, mR⟩ := kR
    try clear gY lY nY mY
    try clear jY
    have jY := kY.later
    obtain ⟨gY, lY, nY, mY⟩ := kY
    try clear gA lA nA mA
    try clear jA
    have jA := kA.later
    obtain ⟨gA, lA, nA, mA⟩ := kA
    clear b7
    rw [hA] at *
    clear hA
    go_wp2_with fail
    try clear jR jY jA
    refine (K1.out _).mono ?_
    rintro e w9 ⟨rfl, hb9⟩
    have kR := Kept.on (kept (b := W.heap.size) (o := .cells (rpt 0 0 0) 46 (0, 0)) (by go_simp)) hb9
    have kY := Kept.on (kept (b := Y) (o := .cells (nine y) 35 (0, 0)) (by go_simp)) hb9
    have kA := Kept.on (kept (b := A) (o := .cells (nine yy) 35 (0, 0)) (by go_simp)) hb9
    have b9 : Hid (Below W.heap.size W w9) := below_to (by repeat (first | exact Below.refl _ _ | exact below_new _ | exact b8.out | assumption | refine Below.drew ?_ | refine Below.drewN ?_ _ | refine below_alloc ?_ _ | refine below_blk' ?_ (by omega) _)) hb9
    clear hb9
    try clear gR lR nR mR
    obtain ⟨gR, lR, nR, mR⟩ := kR
    try clear gY lY nY mY
    obtain ⟨gY, lY, nY, mY⟩ := kY
    try clear gA lA nA mA
    obtain ⟨gA, lA, nA, mA⟩ := kA
    clear b8
    go_upto_region 11 with (fail)
    obtain ⟨B, hB⟩ : ∃ b, w9.heap.size = b := ⟨_, rfl⟩
    have wB : W.heap.size ≤ B := by rw [← hB]; exact b9.out.size
    have eRB : (W.heap.size = B) = False := by rw [← hB]; exact nR
    have eBR : (B = W.heap.size) = False := by rw [← hB]; exact mR
    have eYB : (Y = B) = False := by rw [← hB]; exact nY
    have eBY : (B = Y) = False := by rw [← hB]; exact mY
    have eAB : (A = B) = False := by rw [← hB]; exact nA
    have eBA : (B = A) = False := by rw [← hB]; exact mA
    obtain ⟨w10, hw10⟩ : ∃ w10, w9.alloc (.cells (nine 1) 35) = w10 := ⟨_, rfl⟩
    have kR := kept (show hget w10 (W.heap.size) = some (.cells (rpt 0 0 0) 46 (0, 0)) by rw [← hw10]; clear hw10; go_simp)
    have kY := kept (show hget w10 (Y) = some (.cells (nine y) 35 (0, 0)) by rw [← hw10]; clear hw10; go_simp)
    have kA := kept (show hget w10 (A) = some (.cells (nine yy) 35 (0, 0)) by rw [← hw10]; clear hw10; go_simp)
    have kB := kept (show hget w10 (w9.heap.size) = some (.cells (nine 1) 35) by rw [← hw10]; clear hw10; go_simp)
    have b10 : Hid (Below W.heap.size W w10) := by rw [← hw10]; repeat (first | exact Below.refl _ _ | exact below_new _ | exact b9.out | assumption | refine Below.drew ?_ | refine Below.drewN ?_ _ | refine below_alloc ?_ _ | refine below_blk' ?_ (by omega) _)
    rw [hw10]
    clear hw10
    try clear gR lR nR mR
    try clear jR
    have jR := kR.later
    obtain ⟨gR, lR, nR, mR⟩ := kR
    try clear gY lY nY mY
    try clear jY
    have jY := kY.later
    obtain ⟨gY, lY, nY, mY⟩ := kY
    try clear gA lA nA mA
    try clear jA
    have jA := kA.later
    obtain ⟨gA, lA, nA, mA⟩ := kA
    try clear gB lB nB mB
    try clear jB
    have jB := kB.later
    obtain ⟨gB, lB, nB, mB⟩ := kB
    clear b9
    rw [hB] at *
    clear hB
    clear C1 O1 M1 K1
    have vR : ∀ x_ : LaterV w10, hget x_.w' (W.heap.size) = some (.cells (rpt 0 0 0) 46 (0, 0)) := laterx_get gR (by simp)
    have vY : ∀ x_ : LaterV w10, hget x_.w' (Y) = some (.cells (nine y) 35 (0, 0)) := laterx_get gY (by simp)
    have vA : ∀ x_ : LaterV w10, hget x_.w' (A) = some (.cells (nine yy) 35 (0, 0)) := laterx_get gA (by simp)
    have vB : ∀ x_ : LaterV w10, hget x_.w' (B) = some (.cells (nine 1) 35 (0, 0)) := laterx_get gB (by simp)
    try clear jR jY jA jB
    refine wp_region_var [15] (fun _ => ⟨16, nine 0, nine x, 35⟩) [] (fun _ => ⟨0, #[], #[], 0⟩) (by kernel_rfl) (by kernel_rfl) (by kernel_rfl) (vsep_new (by kernel_rfl)) (fun e he => absurd he (by simp)) (fun hsep => ?_) (fun e he => absurd he (by simp))
    have HSEP := hid hsep
    clear hsep
    repeat (first | (refine wpV_plain0 HSEP.out (by kernel_rfl) (by rfl) (by rfl) (by kernel_rfl) (by kernel_rfl) (fun K hK => ?_); go_simp; refine hK _ ?_; clear hK K; try go_ints) | (refine wpV_plain0 HSEP.out (by kernel_rfl) (by rfl) (by rfl) (by kernel_rfl) (by kernel_rfl) (fun K hK => ?_); go_simp; (with_reducible refine ⟨_, fun x => S1.out _, hK _ ?_⟩); clear hK K; try go_ints) | (refine wpV_plain0 HSEP.out (by kernel_rfl) (by rfl) (by rfl) (by kernel_rfl) (by kernel_rfl) (fun K hK => ?_); go_simp; (with_reducible refine ⟨_, fun x => G1.out _, hK _ ?_⟩); clear hK K; try go_ints) | (refine wpV_plain0 HSEP.out (by kernel_rfl) (by rfl) (by rfl) (by kernel_rfl) (by kernel_rfl) (fun K hK => ?_); go_simp; (with_reducible refine ⟨_, fun x => M2.out _, hK _ ?_⟩); clear hK K; try go_ints) | (refine wpV_plain0 HSEP.out (by kernel_rfl) (by rfl) (by rfl) (by kernel_rfl) (by kernel_rfl) (fun K hK => ?_); go_simp; (with_reducible refine ⟨_, fun x => A1.out _, hK _ ?_⟩); clear hK K; try go_ints) | (refine wpV_plain0 HSEP.out (by kernel_rfl) (by rfl) (by rfl) (by kernel_rfl) (by kernel_rfl) (fun K hK => ?_); go_simp; (with_reducible refine ⟨_, fun x => I1.out _, hK _ ?_⟩); clear hK K; try go_ints) | (refine wpV_plain0 HSEP.out (by kernel_rfl) (by rfl) (by rfl) (by kernel_rfl) (by kernel_rfl) (fun K hK => ?_); go_simp; (with_reducible refine ⟨_, fun x => M3.out _, hK _ ?_⟩); clear hK K; try go_ints) | (refine wpV_plain0 HSEP.out (by kernel_rfl) (by rfl) (by rfl) (by kernel_rfl) (by kernel_rfl) (fun K hK => ?_); go_simp; (with_reducible refine ⟨_, fun x => HR.out _, hK _ ?_⟩); clear hK K; try go_ints) | (refine wpV_make0 HSEP.out (by kernel_rfl) (by rfl) rfl (by rfl) (by kernel_rfl) (by kernel_rfl) (fun K hK => ⟨fun x => (by first | (go_simp; done) | (go_simp; rfl)), hK _ ?_⟩); clear hK K; try go_ints) | (refine wpV_store0 15 (by rfl) (by rfl) HSEP.out (by rfl) rfl (by kernel_rfl) (fun K hK => ⟨fun g bk_ x cs hg hcs hx => (by clear hK HSEP; rcases hcs with hcs | hcs <;> (rw [hcs] at hx; clear hcs; simp only [over, dstOf, List.getElem?_toArray, List.getElem?_cons_succ, List.getElem?_cons_zero, Option.bind_some, hg]; go_simp; done)), hK _ ?_⟩); clear hK K; try go_ints))
    refine wpGho_nil ?_
    intro gL xL h0L hnL haL hlL
    clear h0L hlL HSEP
    obtain ⟨v15, e15, l15, h15⟩ := hnL 15 (by simp)
    try simp at h15
    simp only [over, dstOf, List.getElem?_toArray, List.getElem?_cons_succ, List.getElem?_cons_zero, Option.bind_some, e15]
    have hxb := laterV_below xL
    have fR := laterx_get gR (by simp) xL
    have fY := laterx_get gY (by simp) xL
    have fA := laterx_get gA (by simp) xL
    have fB := laterx_get gB (by simp) xL
    clear hnL haL e15 vR vY vA vB
    generalize xL.w' = w11 at *
    have b11 := hid (below_to b10.out hxb)
    have s10 := b10.out.size
    clear hxb b10 xL gL
    obtain ⟨X, h_X⟩ : ∃ n_, n_ = v15 := ⟨_, rfl⟩
    subst h_X
    have wX : W.heap.size ≤ X := by omega
    have eRX : (W.heap.size = X) = False := by simp; omega
    have eXR : (X = W.heap.size) = False := by simp; omega
    have eYX : (Y = X) = False := by simp; omega
    have eXY : (X = Y) = False := by simp; omega
    have eAX : (A = X) = False := by simp; omega
    have eXA : (X = A) = False := by simp; omega
    have eBX : (B = X) = False := by simp; omega
    have eXB : (X = B) = False := by simp; omega
    clear l15
    clear gR lR nR mR
    clear gY lY nY mY
    clear gA lA nA mA
    clear gB lB nB mB
    obtain ⟨gR, lR, nR, mR⟩ := kept fR
    clear fR
    obtain ⟨gY, lY, nY, mY⟩ := kept fY
    clear fY
    obtain ⟨gA, lA, nA, mA⟩ := kept fA
    clear fA
    obtain ⟨gB, lB, nB, mB⟩ := kept fB
    clear fB
    obtain ⟨gX, lX, nX, mX⟩ := kept h15
    clear h15
    try simp only [Act.put, List.setIfInBounds_toArray, List.set_cons_zero, List.set_cons_succ]
    clear S1 G1 M2 A1 I1 M3 HR
    cases ok
    · go_wp2_with fail
      refine bodyPost_ret (v := .tuple #[.agg (rpt 0 0 0), .int .i64 90]) (results_cell_tmp Try.results20 _ _ (W.heap.size) 46 (rpt 0 0 0) (0, 0) _ (.int .i64 90) (by rfl) (by rfl) (by rw [← hget_eq]; go_simp) Try.underlying46 rfl (by rw [info_RPt]; go_simp)) rfl ?_
      exact ⟨by rfl, below_blk' b11.out (by omega) _⟩
    · go_wp2_with fail
      refine bodyPost_ret (v := .tuple #[.agg (rpt x y 1), .int .i64 0]) (results_cell_tmp Try.results20 _ _ (W.heap.size) 46 (rpt x y 1) (0, 0) _ (.int .i64 0) (by rfl) (by rfl) (by rw [← hget_eq]; go_simp) Try.underlying46 rfl (by rw [info_RPt]; go_simp)) rfl ?_
      exact ⟨by rfl, below_blk' b11.out (by omega) _⟩

/-- Bytes read as a point, by the document: what comes of them. -/
def rdecV (s : ByteArray) : Value := if dOk s then .tuple #[rv (rP s), .int .i64 0] else .tuple #[.agg (rpt 0 0 0), .int .i64 (if s.size = 32 then 90 else 2)]
set_option maxRecDepth 100000 in
theorem rdecode_v (s : ByteArray) (W : World) (hmax : s.size ≤ 9223372036854775807) : Calls Try.prog 20 #[.string s] W fun r w' => r = .returned (rdecV s) ∧ Below W.heap.size W w' := by
  unfold rdecV
  by_cases h : s.size = 32
  · rw [if_pos h]
    have hs : 31 < s.size := by omega
    have hn := dec_nat h hs
    have hl : s.data.toList.length = 32 := by simpa using h
    have hg : s.data.toList.getD 31 0 = s[31] := by
      rw [List.getD_eq_getElem?_getD, List.getElem?_eq_getElem (by omega), Option.getD_some]
      rfl
    have h32 : (topB s (s[31] &&& 127)).size = 32 := topB_size h _
    have hu := set_topx h (s.data.toList.getD 31 0 &&& 127)
    rw [hg] at hu
    have hc : canB (topB s (s[31] &&& 127)) = decide (dY s < pP) := by
      unfold canB dY
      rw [hn, h32]
      simp
    have ho : decide ((128 : Int) ≤ ((s.data.toList.getD 31 0).toNat : Int)) = dOd s := by
      rw [hg]
      unfold dOd
      have h1 := split_nat _ hl
      have h0 := low_lt s.data.toList
      have hg2 : s.data.toList[31]'(by omega) = s[31] := rfl
      rw [hg2] at h1
      rw [decide_eq_decide, h1]
      generalize bytesNat (s.data.toList.take 31) = lo at *
      generalize s[31].toNat = x at *
      clear h1
      unfold t255 t248 at *
      omega
    rw [show dOk s = (decide (dY s < pP) && rootOk (dU (dY s)) (dOd s)) by unfold dOk; rw [decide_eq_true h, Bool.true_and, Bool.and_comm]]
    rw [rOk_eq]
    by_cases hlt : dY s < pP
    · have := rdecode_core s (topB s (s[31] &&& 127)) (dY s) _ _ _ _ _ (rU (dY s)) (rX s) (dOd s) _ _ W h (by rw [hg]; exact hu) h32 ho (.inl hlt) (by rw [hn]; exact Nat.mod_eq_of_lt hlt) rfl rfl rfl rfl rfl rfl rfl rfl hc
      exact this
    · rw [decide_eq_false hlt] at hc ⊢
      have := rdecode_core s (topB s (s[31] &&& 127)) _ _ _ _ _ _ _ _ (dOd s) _ _ W h (by rw [hg]; exact hu) h32 ho (.inr rfl) rfl rfl rfl rfl rfl rfl rfl rfl rfl hc
      simp only [Bool.false_and, Bool.false_eq_true, if_false] at this ⊢
      exact this
  · rw [if_neg h, if_neg (show ¬ dOk s = true by unfold dOk; rw [decide_eq_false h]; simp)]
    exact rdecode_short s W h hmax

end Go.Proofs.Ytceljjnohjnepaa

namespace Go.Proofs.Ytceljjnohjnepaa
open Go.RowKit

/-- A slice of bytes that the call has for itself: what it holds. -/
def OwnsB (w : World) (base : Nat) (v : Value) (l : List UInt8) : Prop :=
  (v = .slice none 0 0 ∧ l = []) ∨
  ∃ g cap cur fz, v = .slice (some ⟨g, 0, none⟩) l.length cap ∧ base ≤ g ∧ w.heap[g]? = some (.cells cur 5 fz) ∧ (∀ j, j < cap → w.frozen? ⟨g, j, none⟩ = false) ∧ l.length ≤ cap ∧ cap ≤ maxLen ∧ cur.size = cap ∧ cur.toList.take l.length = u8s l

set_option maxRecDepth 100000 in
theorem OwnsB.nil (w : World) (base : Nat) : OwnsB w base (.slice none 0 0) [] := .inl ⟨rfl, rfl⟩
set_option maxRecDepth 100000 in
theorem OwnsB.keep {w w' : World} {base : Nat} {v : Value} {l : List UInt8} (h : OwnsB w base v l) (hb : Below w.heap.size w w') : OwnsB w' base v l := by
  rcases h with h | ⟨g, cap, cur, fz, h1, h2, h3, h4, h5, h6, h7, h8⟩
  · exact .inl h
  · have e := keepB hb h3
    exact .inr ⟨g, cap, cur, fz, h1, h2, e, fun j hj => by rw [World.frozen?_of_block (w := w) (by simp [e, h3])]; exact h4 j hj, h5, h6, h7, h8⟩
set_option maxRecDepth 100000 in
theorem OwnsB.block {w : World} {base : Nat} {v : Value} {l : List UInt8} (h : OwnsB w base v l) {g : Nat} (hg : v.ownBlock = some g) : base ≤ g := by
  rcases h with ⟨rfl, _⟩ | ⟨g', cap, cur, fz, rfl, hb, _⟩
  · simp [Value.ownBlock] at hg
  · simp [Value.ownBlock] at hg; omega
set_option maxRecDepth 100000 in
theorem OwnsB.cells {w : World} {base : Nat} {v : Value} {l : List UInt8} (h : OwnsB w base v l) (h0 : 0 < l.length) :
    ∃ g cap, v = .slice (some ⟨g, 0, none⟩) l.length cap ∧ base ≤ g ∧ g < w.heap.size ∧ l.length ≤ cap ∧ cap ≤ maxLen ∧ ∀ j, j < l.length → w.cell? ⟨g, j, none⟩ = some (.int .u8 ((l.getD j 0).toNat : Int)) := by
  rcases h with ⟨_, rfl⟩ | ⟨g, cap, cur, fz, rfl, hb, hc, _, hle, hmx, hsz, hxs⟩
  · simp at h0
  refine ⟨g, cap, rfl, hb, lt_blk hc, hle, hmx, fun j hj => ?_⟩
  rw [cell_at hc]
  have h3 : cur.toList[j]? = (u8s l)[j]? := by
    have h4 : (cur.toList.take l.length)[j]? = cur.toList[j]? := by rw [List.getElem?_take, if_pos hj]
    rw [← h4, hxs]
  rw [← Array.getElem?_toList, h3]
  unfold u8s
  simp [hj]
set_option maxRecDepth 100000 in
/-- A text turned into bytes. -/
theorem OwnsB.conv (w : World) (s : ByteArray) (hs : grownCap w s.size 0 5 ≤ maxLen) : OwnsB (Lib.bytesWorld w 5 s) w.heap.size (.slice (some ⟨w.heap.size, 0, none⟩) s.size (grownCap w s.size 0 5)) s.data.toList := by
  have hg : s.size ≤ grownCap w s.size 0 5 := grownCap_ge w s.size 0 5
  have hcs : (Lib.bytesCells w 5 s).size = grownCap w s.size 0 5 := by
    have : s.data.size = s.size := rfl
    simp [Lib.bytesCells]; omega
  refine .inr ⟨w.heap.size, _, _, _, by rw [show s.data.toList.length = s.size by simp], Nat.le_refl _, Lib.bytesWorld_at_new w 5 s, fun j hj => ?_, by simpa using hg, hs, hcs, ?_⟩
  · simp [World.frozen?, Lib.bytesWorld_at_new]; omega
  · unfold Lib.bytesCells u8s
    rw [Array.toList_append, List.take_append_of_le_length (by simp)]
    rw [List.take_of_length_le (by simp)]
    simp

section
variable {P : Program}
set_option maxRecDepth 100000 in
theorem run_append_B (w : World) (base : Nat) (t tx ty : TypeId) (i : TypeInfo) (ht : P.underlying t = some (.slice 5)) (hi : P.info? 5 = some i) (hz : i.zero = some (.int .u8 0)) (hs1 : i.size = 1) (hb1 : i.bytes = 1)
    (v x : Value) (l m : List UInt8) (h : OwnsB w base v l) (hs : Src P 1 tx x m.length (u8s m) w) (hm : 0 < m.length) (hlen : l.length + m.length ≤ 140737488355328) (hbase : base ≤ w.heap.size) :
    ∃ v' w', (Builtin.append_ #[t, tx] ty #[v, x]).run P w = .ok v' w' ∧ OwnsB w' base v' (l ++ m) ∧ w.grownBy w' v.ownBlock := by
  have grow : ∀ (b : Option Addr) (n cap : Nat), n = l.length → cap < n + m.length → (Builtin.firstCells i.size n (.slice b n cap)).run P w.drew = .ok (u8s l).toArray w.drew → v = .slice b n cap →
      ∃ v' w', (Builtin.append_ #[t, tx] ty #[v, x]).run P w = .ok v' w' ∧ OwnsB w' base v' (l ++ m) ∧ w.grownBy w' v.ownBlock := by
    intro b n cap hn hc hf hv
    have hr := run_append_grow_src (P := P) w t tx ty 5 i (.int .u8 0) ht hi hz b n cap (u8s l) hf x m.length (u8s m) (by rw [hs1]; exact hs) hc (by omega) (by
      rw [hb1, Nat.mul_one]
      have := nextslicecap_le hc
      omega)
    rw [hv]
    refine ⟨_, _, hr, .inr ⟨w.heap.size, grownCap w (n + m.length) cap 5, _, (0, 0), by rw [List.length_append, hn], hbase, heap_alloc_new w.drew _, fun j _ => ?_, ?_, ?_, ?_, ?_⟩, ⟨rfl, rfl, rfl, by simp, fun k hk _ => heap_alloc_old w.drew _ hk⟩⟩
    · exact free_at (heap_alloc_new w.drew _) j
    · have := grownCap_ge w (n + m.length) cap 5; rw [List.length_append]; omega
    · exact grownCap_le_maxLen w (n + m.length) cap 5 (by unfold maxLen; omega)
    · have := grownCap_ge w (n + m.length) cap 5
      simp only [Array.size_append, List.size_toArray, List.length_append, u8s_length, size_zeroCells]
      have e1 : (Value.int IntKind.u8 0).cells.size = 1 := rfl
      rw [e1]; omega
    · rw [Array.toList_append, List.take_append_of_le_length (by simp [u8s_length]), List.take_of_length_le (by simp [u8s_length]), u8s_append]
  rcases h with ⟨rfl, rfl⟩ | ⟨g, cap, cur, fz, rfl, hb, hc, hf, hle, hmx, hsz, hxs⟩
  · exact grow none 0 0 rfl (by omega) (by rw [hs1]; exact run_firstCells_none w.drew 1 0 0 0) rfl
  · by_cases hroom : l.length + m.length ≤ cap
    · have hcell : ∀ j, j < cap → (w.cell? ⟨g, j, none⟩).isSome = true := fun j hj => by rw [cell_at hc]; simp; omega
      have hr := run_append_room_src (P := P) w t tx ty 5 i ht hi g 0 l.length cap x m.length (u8s m) (by rw [hs1]; exact hs) hroom (fun j hj => by rw [hs1, Nat.zero_add, Nat.mul_one]; exact hcell _ (by rw [u8s_length] at hj; omega))
        (fun j hj => by rw [hs1, Nat.zero_add, Nat.mul_one]; exact hf _ (by rw [u8s_length] at hj; omega))
      rw [hs1, Nat.zero_add, Nat.mul_one] at hr
      have hcur : cur = (u8s l ++ (cur.toList.drop l.length).take m.length ++ cur.toList.drop (l.length + m.length)).toArray := by
        apply Array.ext'
        simp only []
        rw [← hxs, ← List.drop_drop, List.append_assoc, List.take_append_drop, List.take_append_drop]
      have hset := setCells_row (u8s m) w g (u8s l) ((cur.toList.drop l.length).take m.length) (cur.toList.drop (l.length + m.length)) 5 fz (by rw [← hcur]; exact hc) (by rw [List.length_take, List.length_drop, u8s_length]; simp [hsz]; omega)
      rw [u8s_length] at hset
      rw [hset] at hr
      have hnew := blk_heap (o := .cells (u8s l ++ u8s m ++ cur.toList.drop (l.length + m.length)).toArray 5 fz) (lt_blk hc)
      refine ⟨_, _, hr, .inr ⟨g, cap, _, fz, by rw [List.length_append], hb, hnew, fun j hj => ?_, by rw [List.length_append]; exact hroom, hmx, ?_, ?_⟩, ⟨rfl, rfl, rfl, by simp [blk], fun k hk hn => blk_other k (by rintro rfl; exact hn rfl)⟩⟩
      · have := hf j hj
        unfold World.frozen? at this ⊢
        simp only [] at this ⊢
        rw [hc] at this
        rw [hnew]
        exact this
      · simp only [List.size_toArray, List.length_append, u8s_length, List.length_drop, Array.length_toList]; omega
      · rw [List.length_append]
        rw [List.take_append_of_le_length (by simp [u8s_length]), List.take_of_length_le (by simp [u8s_length]), u8s_append]
    · refine grow (some ⟨g, 0, none⟩) l.length cap rfl (by omega) ?_ rfl
      have := run_firstCells_some (P := P) w.drew i.size l.length ⟨g, 0, none⟩ l.length cap (u8s l) (by rw [hs1, u8s_length, Nat.mul_one]) (fun j u hu => by
        rw [Addr.add_mid, Nat.zero_add]
        show w.cell? _ = _
        rw [cell_at hc, ← Array.getElem?_toList]
        have hj : j < l.length := by have := (List.getElem?_eq_some_iff.1 hu).1; rwa [u8s_length] at this
        have h4 : (cur.toList.take l.length)[j]? = cur.toList[j]? := by rw [List.getElem?_take, if_pos hj]
        rw [← h4, hxs, hu])
      exact this
set_option maxRecDepth 100000 in
theorem wpList_append_B {ops : Array Oper} {rest : List Oper} {o : Oper} {a : Act} {w : World} {Q : Exit → Act → World → Prop} (hgd : o.guard = none) (s x : Operand) (t tx : TypeId)
    (ho : o.op = .call { callee := .builtin .append, args := #[s, x], argTypes := #[t, tx] }) (base : Nat) (i : TypeInfo) (ht : P.underlying t = some (.slice 5)) (hi : P.info? 5 = some i) (hz : i.zero = some (.int .u8 0)) (hs1 : i.size = 1) (hb1 : i.bytes = 1)
    (v y : Value) (hv : a.eval s = v) (hy : a.eval x = y) (l m : List UInt8) (h : OwnsB w base v l) (hs : Src P 1 tx y m.length (u8s m) w) (hm : 0 < m.length) (hlen : l.length + m.length ≤ 140737488355328) (hbase : base ≤ w.heap.size)
    (k : ∀ v' w', OwnsB w' base v' (l ++ m) → w.grownBy w' v.ownBlock → wpList P ops Q rest (a.put o.dst v') w') : wpList P ops Q (o :: rest) a w := by
  refine wpList_plain hgd fun _ hK => ?_
  obtain ⟨v', w', hr, h2, h3⟩ := run_append_B (P := P) w base t tx o.type i ht hi hz hs1 hb1 v y l m h hs hm hlen hbase
  unfold Oper.wp execOp
  simp only [ho, resolve, invoke, builtin, Sem.run_bind, Sem.run_pure, Result.andThen_ok, List.map_toArray, List.map_cons, List.map_nil, hv, hy, hr]
  exact hK _ _ (k v' w' h2 h3)
end

end Go.Proofs.Ytceljjnohjnepaa

namespace Go.Proofs.Ytceljjnohjnepaa
open Go Go.RowKit DG
set_option maxRecDepth 100000 in
theorem info_ONum : (Try.prog.info? 65).map (·.size) = some 32 := by kernel_rfl
                    theorem exl_ONum {r : Operand → Value} {dst : Option Nat} {x : Operand} {t : TypeId} {pos : String} {af : Array Edge} {g : Option (Nat × Bool)} : execOp r ⟨dst, .load 65 x, t, pos, af, g⟩ = (do let v ← loadRow 65 (r x); pure (Next.value v)) := rfl
                    theorem exs_ONum {r : Operand → Value} {dst : Option Nat} {x y : Operand} {t : TypeId} {pos : String} {af : Array Edge} {g : Option (Nat × Bool)} : execOp r ⟨dst, .store 65 x y, t, pos, af, g⟩ = (do storeRow 65 (r x) (r y); pure Next.skip) := rfl
                    theorem ldr_ONum (b : Nat) (w : World) : (loadRow 65 (.pointer (some ⟨b, 0, none⟩))).run Try.prog w = match hget w b with | some (.cells c _ _) => if c.size = 32 then .ok (.agg c) w else stuckL Try.prog 65 b w | _ => stuckL Try.prog 65 b w := loadRow_run Try.underlying65 rfl info_ONum b w
                    theorem str_ONum (b : Nat) (c' : Array Value) (w : World) : (storeRow 65 (.pointer (some ⟨b, 0, none⟩)) (.agg c')).run Try.prog w = match hget w b with | some (.cells c T (0, 0)) => if c.size = 32 then (if c'.size = 32 then (if ones c' = true then .ok () (blk w b (.cells c' T (0, 0))) else stuckS Try.prog 65 b (.agg c') w) else stuckS Try.prog 65 b (.agg c') w) else stuckS Try.prog 65 b (.agg c') w | _ => stuckS Try.prog 65 b (.agg c') w := storeRow_run info_ONum b c' w
attribute [local go_sem ↓] exl_Num exs_Num exl_RPt exs_RPt exb_RPt exl_ONum exs_ONum
                                                                                                                                                                                                                                                                                                                                                                                                                                                                                                                             attribute [local go_sem] ldm_Num str_Num ldr_RPt str_RPt to_nine0 rpt_zero bld_rpt bld_rpt0 ldr_ONum str_ONum
set_option maxRecDepth 100000 in
@[go_sem] theorem osz (n : Nat) : (ints .u8 (digs 256 n 32)).size = 32 := by rw [ints_size, digs_length]

def bsL : List UInt8 := 88 :: List.replicate 31 102
set_option maxRecDepth 100000 in
theorem bsL_step : ∀ k, k < 32 → 1 ≤ k → bsL.take k ++ [102] = bsL.take (k + 1) := by decide +kernel
set_option maxRecDepth 100000 in
theorem bsL_len : bsL.length = 32 := by decide
set_option maxRecDepth 100000 in
theorem bsL_str : (⟨bsL.toArray⟩ : ByteArray) = bsB := by decide +kernel
set_option maxRecDepth 100000 in
theorem froz_one (w : World) (v : Value) (T : TypeId) : (w.alloc (.cells #[v] T (1, 2))).frozen? ⟨w.heap.size, 0, none⟩ = false := by
  unfold World.frozen?
  rw [show (w.alloc (.cells #[v] T (1, 2))).heap[w.heap.size]? = _ from alloc_at _ _]
  rfl
set_option maxRecDepth 100000 in
theorem rdecB : rdecV bsB = .tuple #[rv (rP bsB), .int .i64 0] := by unfold rdecV; rw [if_pos bsB_ok]

set_option maxRecDepth 100000 in
set_option maxHeartbeats 4000000 in
theorem rbase_any (W : World) : Calls Try.prog 45 #[] W fun r w' => r = .returned (rv (rP bsB)) ∧ Below W.heap.size W w' := by
  obtain ⟨i0, hi, hz0, hz1, hz2⟩ := info_parts info_u8
  have D1 := fun w => rdecode_v bsB w (by decide)
  rw [rdecB] at D1
  have HD := hid D1
  clear D1
  generalize rP bsB = b at *
  have hst := bsL_str
  generalize bsB = B at *
  have HST := hid hst
  clear hst
  go_enter Try.func45, Try.ntmps45
  go_upto_region 1 with (fail)
  obtain ⟨w1, hw1⟩ : ∃ w1, W.alloc (.cells (rpt 0 0 0) 46) = w1 := ⟨_, rfl⟩
  have kR := kept (show hget w1 (W.heap.size) = some (.cells (rpt 0 0 0) 46 (0, 0)) by rw [← hw1]; clear hw1; go_simp)
  have b1 : Hid (Below W.heap.size W w1) := by rw [← hw1]; repeat (first | exact Below.refl _ _ | exact below_new _ | assumption | refine Below.drew ?_ | refine Below.drewN ?_ _ | refine below_alloc ?_ _ | refine below_blk' ?_ (by omega) _)
  rw [hw1]
  clear hw1
  try clear gR lR nR mR
  try clear jR
  have jR := kR.later
  obtain ⟨gR, lR, nR, mR⟩ := kR
  have kc := Go.Lib.run_convert_bytes_const (P := Try.prog) w1 32 5 #[.int .u8 88] 1 1 Try.underlying32 Try.underlying5
  clear jR lR nR mR
  go_wp2_with fail
  go_loopg [1] 32 (fun g v wr => ∃ k : Nat, k + g = 33 ∧ 1 ≤ k ∧ 0 < g ∧ OwnsB wr w1.heap.size v (bsL.take k) ∧ Below w1.heap.size w1 wr)
  case atStart =>
    exact ⟨1, by omega, by omega, by omega, .inr ⟨w1.heap.size, 1, _, (1, 2), rfl, Nat.le_refl _, alloc_at _ _, fun j hj => by
      have hj1 : j < 1 := hj
      obtain rfl : j = 0 := by omega
      exact froz_one _ _ _, by decide, by decide, rfl, rfl⟩, below_new _⟩
  case round =>
    obtain ⟨k, hkg, h1, h0, hown, hb⟩ := hrel
    have hll : (bsL.take k).length = k := by rw [List.length_take, bsL_len]; omega
    obtain ⟨G, cap, hv, hG, hGl, hcap, hcm, hcl⟩ := hown.cells (by omega)
    rw [hll] at hv hcl
    subst hv
    have HO := hid hown
    have HB := hid hb
    have HLL := hid hll
    clear hown hb hll
    by_cases hlt : k < 32
    · have hd : decide ((k : Int) < 32) = true := decide_eq_true (by omega)
      have hO2 := OwnsB.keep HO.out (below_new (w := wr) (.cells #[.int .u8 102] 5))
      have hsrc : Src Try.prog 1 32 (.slice (some ⟨wr.heap.size, 0, none⟩) 1 1) 1 (u8s [102]) (wr.alloc (.cells #[.int .u8 102] 5)) :=
        Src.ofSlice _ Try.underlying32 ⟨wr.heap.size, 0, none⟩ 1 1 (u8s [102]) rfl (cell_one_new _ _ _) (by intro u hu; simp [u8s] at hu; subst hu; rfl)
      have HO2 := hid hO2
      have HSRC := hid hsrc
      have HCL := hid hcl
      clear hO2 hsrc hcl
      go_wp2_with (at_builtin; refine wpList_append_B rfl _ _ 32 32 rfl w1.heap.size i0 Try.underlying32 hi hz0 hz1 hz2 _ _ rfl rfl _ [102] HO2.out HSRC.out (by decide) ?ca ?cb ?_)
      case ca => rw [HLL.out]; simp only [List.length_cons, List.length_nil]; omega
      case cb => have := HB.out.size; simp; omega
      intro v' w4 ho4 hg4
      have hB4 := (below_alloc HB.out (.cells #[.int .u8 102] 5)).grown hg4 (by have := HB.out.size; simp; omega) (fun g hg => OwnsB.block HO2.out hg)
      rw [bsL_step k hlt h1] at ho4
      have HO4 := hid ho4
      have HB4 := hid hB4
      clear ho4 hg4 hB4 HO2 HSRC HO HB
      go_wp2_with fail
      go_roundg (gk - 1)
      case measure => omega
      case rel => exact ⟨k + 1, by omega, by omega, by omega, HO4.out, HB4.out⟩
    · have hk : k = 32 := by omega
      subst hk
      have hd : decide (((32 : Nat) : Int) < 32) = false := by decide
      have hbt : bsL.take 32 = bsL := List.take_of_length_le (by decide)
      rw [hbt] at hcl
      have hconv := fun (cap : Nat) => oconv_string wr G 0 32 cap bsL bsL_len (fun j hj => by rw [Nat.zero_add]; exact hcl j hj)
      simp only [HST.out] at hconv
      have fR : hget wr W.heap.size = some (.cells (rpt 0 0 0) 46 (0, 0)) := (Kept.on (kept gR) HB.out).get
      have b2 := hid (below_to b1.out HB.out)
      clear HO HB hcl hbt b1 gR
      have lR := hget_lt fR
      go_wp2_with fail
      refine (HD.out _).mono ?_
      rintro e w3 ⟨rfl, hb3⟩
      have gR := (Kept.on (kept fR) hb3).get
      have b3 := hid (below_to b2.out hb3)
      clear hb3 fR b2 hconv kc
      go_upto_region 5 with (fail)
      obtain ⟨gR, lR, nR, mR⟩ := kept (show hget w3 (W.heap.size) = some (.cells (rpt 0 0 0) 46 (0, 0)) by first | assumption | go_simp)
      obtain ⟨B, hB⟩ : ∃ b, w3.heap.size = b := ⟨_, rfl⟩
      have wB : W.heap.size ≤ B := by rw [← hB]; exact b3.out.size
      have eRB : (W.heap.size = B) = False := by rw [← hB]; exact nR
      have eBR : (B = W.heap.size) = False := by rw [← hB]; exact mR
      obtain ⟨w4, hw4⟩ : ∃ w4, w3.alloc (.cells (rpt b.x b.y b.z) 46) = w4 := ⟨_, rfl⟩
      have kR := kept (show hget w4 (W.heap.size) = some (.cells (rpt 0 0 0) 46 (0, 0)) by rw [← hw4]; clear hw4; go_simp)
      have kB := kept (show hget w4 (w3.heap.size) = some (.cells (rpt b.x b.y b.z) 46) by rw [← hw4]; clear hw4; go_simp)
      have b4 : Hid (Below W.heap.size W w4) := by rw [← hw4]; repeat (first | exact Below.refl _ _ | exact below_new _ | exact b3.out | assumption | refine Below.drew ?_ | refine Below.drewN ?_ _ | refine below_alloc ?_ _ | refine below_blk' ?_ (by omega) _)
      rw [hw4]
      clear hw4
      try clear gR lR nR mR
      try clear jR
      have jR := kR.later
      obtain ⟨gR, lR, nR, mR⟩ := kR
      try clear gB lB nB mB
      try clear jB
      have jB := kB.later
      obtain ⟨gB, lB, nB, mB⟩ := kB
      clear b3
      rw [hB] at *
      clear hB
      go_wp2_with fail
      refine bodyPost_ret (v := .agg (rpt b.x b.y b.z)) (results_cell_row Try.results45 _ _ (W.heap.size) 46 (rpt b.x b.y b.z) (0, 0) _ (by rfl) (by rw [← hget_eq]; go_simp) Try.underlying46 rfl (by rw [info_RPt]; go_simp)) rfl ?_
      exact ⟨rfl, below_blk' b4.out (by omega) _⟩

set_option maxRecDepth 100000 in
set_option maxHeartbeats 4000000 in
theorem rboth_core (b s : R3) (m n : Nat) (W : World) (hB : ∀ w, Calls Try.prog 45 #[] w fun r w' => r = .returned (rv b) ∧ Below w.heap.size w w') (hb : b.bd) (hs : s.bd) (hm : m < p2) (hn : n < p2) :
    Calls Try.prog 32 #[rv s, .agg (ints .u8 (digs 256 m 32)), .agg (ints .u8 (digs 256 n 32))] W fun r w' => r = .returned (rv ((s.times m).add (b.times n))) ∧ Below W.heap.size W w' := by
  have B1 := hid hB
  have T1 := fun w => rtimes_v s m w hs hm
  have T2 := fun w => rtimes_v b n w hb hn
  have bt1 := R3.times_bd hs m
  have bt2 := R3.times_bd hb n
  generalize s.times m = p at *
  generalize b.times n = q at *
  have HT1 := hid T1
  have HT2 := hid T2
  have A1 := hid (fun w => radd_pt p q w bt1 bt2)
  clear hB T1 T2 bt1 bt2
  go_enter Try.func32, Try.ntmps32
  go_upto_region 1 with (fail)
  obtain ⟨w1, hw1⟩ : ∃ w1, (((W.alloc (.cells (rpt s.x s.y s.z) 46)).alloc (.cells (ints .u8 (digs 256 m 32)) 65)).alloc (.cells (ints .u8 (digs 256 n 32)) 65)).alloc (.cells (rpt 0 0 0) 46) = w1 := ⟨_, rfl⟩
  have kS := kept (show hget w1 (W.heap.size) = some (.cells (rpt s.x s.y s.z) 46 (0, 0)) by rw [← hw1]; clear hw1; go_simp)
  have kM := kept (show hget w1 (W.heap.size + 1) = some (.cells (ints .u8 (digs 256 m 32)) 65 (0, 0)) by rw [← hw1]; clear hw1; go_simp)
  have kN := kept (show hget w1 (W.heap.size + 1 + 1) = some (.cells (ints .u8 (digs 256 n 32)) 65 (0, 0)) by rw [← hw1]; clear hw1; go_simp)
  have kR := kept (show hget w1 (W.heap.size + 1 + 1 + 1) = some (.cells (rpt 0 0 0) 46 (0, 0)) by rw [← hw1]; clear hw1; go_simp)
  have b1 : Hid (Below W.heap.size W w1) := by rw [← hw1]; repeat (first | exact Below.refl _ _ | exact below_new _ | assumption | refine Below.drew ?_ | refine Below.drewN ?_ _ | refine below_alloc ?_ _ | refine below_blk' ?_ (by omega) _)
  rw [hw1]
  clear hw1
  try clear gS lS nS mS
  try clear jS
  have jS := kS.later
  obtain ⟨gS, lS, nS, mS⟩ := kS
  try clear gM lM nM mM
  try clear jM
  have jM := kM.later
  obtain ⟨gM, lM, nM, mM⟩ := kM
  try clear gN lN nN mN
  try clear jN
  have jN := kN.later
  obtain ⟨gN, lN, nN, mN⟩ := kN
  try clear gR lR nR mR
  try clear jR
  have jR := kR.later
  obtain ⟨gR, lR, nR, mR⟩ := kR
  refine wp_region_later_tail 7 (by kernel_rfl) (by kernel_rfl) ?_
  simp only [List.take_succ_cons, List.take_zero, List.drop_succ_cons, List.drop_zero]
  repeat ((go_big_quiet_step ((first | (go_at_call 67; first | with_reducible exact calls_later (HT1.out _) | with_reducible exact calls_later (HT2.out _)) | (go_at_call 45; with_reducible exact calls_later (B1.out _)) | (go_at_call 28; with_reducible exact calls_later (A1.out _))))))
  refine wpQuiet_nil ?_
  intro wL hwL
  obtain ⟨⟨w8, hL⟩, e8⟩ := hwL
  change wL = w8 at e8
  subst e8
  obtain ⟨gR, lR, nR, mR⟩ := kept (jR ⟨_, hL⟩)
  go_wp2_with fail
  refine bodyPost_ret (v := .agg (rpt (p.add q).x (p.add q).y (p.add q).z)) (results_cell_row Try.results32 _ _ (W.heap.size + 1 + 1 + 1) 46 (rpt (p.add q).x (p.add q).y (p.add q).z) (0, 0) _ (by rfl) (by rw [← hget_eq]; go_simp) Try.underlying46 rfl (by rw [info_RPt]; go_simp)) rfl ?_
  exact ⟨rfl, below_blk' (below_to b1.out hL) (by omega) _⟩
set_option maxRecDepth 100000 in
theorem rbase_bd : (rP bsB).bd := (rP_ok bsB_ok).bd
set_option maxRecDepth 100000 in
theorem rboth_v (s : R3) (m n : Nat) (W : World) (hs : s.bd) (hm : m < p2) (hn : n < p2) : Calls Try.prog 32 #[rv s, .agg (ints .u8 (digs 256 m 32)), .agg (ints .u8 (digs 256 n 32))] W fun r w' => r = .returned (rv ((s.times m).add ((rP bsB).times n))) ∧ Below W.heap.size W w' :=
  rboth_core (rP bsB) s m n W rbase_any rbase_bd hs hm hn

end Go.Proofs.Ytceljjnohjnepaa
