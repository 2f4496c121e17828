/- The law EdwLaws: for every input it returns true and leaves its arguments as they were. -/
import Derived.Test.YtceljjnohjnepaaM18
import Derived.Test.YtceljjnohjnepaaM01
namespace Go.Proofs.Ytceljjnohjnepaa
open Go Go.RowKit DG EG
attribute [local go_sem ↓] exl_Elem exs_Elem exl_Pt exs_Pt exb_Pt exl_Sc exs_Sc
                       attribute [local go_sem] ldr_Pt str_Pt to_quad0 pt_zero bld_pt bld_pt0 ldr_Sc str_Sc

set_option maxRecDepth 100000 in
theorem oMul_lt (a b c : Nat) : (a * b + c) % ordL < ordL := Nat.mod_lt _ (by decide)
def oneB : ByteArray := ⟨#[1, 0, 0, 0, 0, 0, 0, 0, 0, 0, 0, 0, 0, 0, 0, 0, 0, 0, 0, 0, 0, 0, 0, 0, 0, 0, 0, 0, 0, 0, 0, 0]⟩
set_option maxRecDepth 100000 in
theorem oneB_n : oN oneB = 1 := by decide +kernel
set_option maxRecDepth 100000 in
theorem oneB_c : oC oneB = 0 := by decide +kernel
def lessB : ByteArray := ⟨#[236, 211, 245, 92, 26, 99, 18, 88, 214, 156, 247, 162, 222, 249, 222, 20, 0, 0, 0, 0, 0, 0, 0, 0, 0, 0, 0, 0, 0, 0, 0, 16]⟩
set_option maxRecDepth 100000 in
theorem lessB_n : oN lessB = ordL - 1 := by decide +kernel
set_option maxRecDepth 100000 in
theorem lessB_c : oC lessB = 0 := by decide +kernel
/-- Noughts. -/
def zr (n : Nat) : Array Value := ints .u8 (List.replicate n 0)
def zs (n : Nat) : ByteArray := ⟨(List.replicate n 0).toArray⟩
set_option maxRecDepth 100000 in
theorem zs_size (n : Nat) : (zs n).size = n := by show (List.replicate n (0 : UInt8)).toArray.size = n; simp
set_option maxRecDepth 100000 in
@[go_sem] theorem zs31 : (zs 31).size = 31 := zs_size 31
set_option maxRecDepth 100000 in
@[go_sem] theorem zs15 : (zs 15).size = 15 := zs_size 15
set_option maxRecDepth 100000 in
@[go_sem] theorem mk31 (w : World) : (Instr.makeSlice 32 (.int .i64 31) (.int .i64 31)).run Try.prog w = .ok (.slice (some ⟨w.heap.size, 0, none⟩) 31 31) (w.alloc (.cells (zr 31) 5)) := by kernel_rfl
set_option maxRecDepth 100000 in
@[go_sem] theorem mk15 (w : World) : (Instr.makeSlice 32 (.int .i64 15) (.int .i64 15)).run Try.prog w = .ok (.slice (some ⟨w.heap.size, 0, none⟩) 15 15) (w.alloc (.cells (zr 15) 5)) := by kernel_rfl
set_option maxRecDepth 100000 in
theorem conv_zr (n : Nat) (w : World) (b : Nat) (h : w.heap.size = b) : (convert 32 9 (.slice (some ⟨b, 0, none⟩) n n)).run Try.prog (w.alloc (.cells (zr n) 5)) = .ok (.string (zs n)) (w.alloc (.cells (zr n) 5)) := by
  subst h
  exact conv_string (w.alloc (.cells (zr n) 5)) w.heap.size 0 n n (List.replicate n 0) (List.length_replicate ..) (fun j hj => by
    rw [Nat.zero_add, cell_at (show (w.alloc (.cells (zr n) 5)).heap[w.heap.size]? = _ from alloc_at _ _), zr, ints_get _ _ (by simpa using hj)]
    simp [hj])
set_option maxRecDepth 100000 in
@[go_sem] theorem conv_zr31 (w : World) (b : Nat) (h : w.heap.size = b) : (convert 32 9 (.slice (some ⟨b, 0, none⟩) 31 31)).run Try.prog (w.alloc (.cells (zr 31) 5)) = .ok (.string (zs 31)) (w.alloc (.cells (zr 31) 5)) := conv_zr 31 w b h
set_option maxRecDepth 100000 in
@[go_sem] theorem conv_zr15 (w : World) (b : Nat) (h : w.heap.size = b) : (convert 32 9 (.slice (some ⟨b, 0, none⟩) 15 15)).run Try.prog (w.alloc (.cells (zr 15) 5)) = .ok (.string (zs 15)) (w.alloc (.cells (zr 15) 5)) := conv_zr 15 w b h
set_option maxRecDepth 100000 in
theorem zero_eq31 : (⟨#[1]⟩ : ByteArray) ++ zs 31 = oneB := by decide +kernel
set_option maxRecDepth 100000 in
theorem zero_eq15 : ((⟨#[236, 211, 245, 92, 26, 99, 18, 88, 214, 156, 247, 162, 222, 249, 222, 20]⟩ : ByteArray) ++ zs 15) ++ ⟨#[16]⟩ = lessB := by decide +kernel

set_option maxRecDepth 100000 in
/-- The laws of points that are read, told by what they stand for. -/
theorem law_points {p q u : P4} {P Q U : Pt cv} (hp : p.ok P) (hq : q.ok Q) (hu : u.ok U) :
    (p.add q).same (q.add p) = true ∧ ((p.add q).add u).same (p.add (q.add u)) = true ∧ (p.add P4.zero).same p = true ∧ p.twice.same (p.add p) = true :=
  ⟨(P4.same_iff (P4.add_ok hp hq) (P4.add_ok hq hp)).2 (Pt.add_comm _ _), (P4.same_iff (P4.add_ok (P4.add_ok hp hq) hu) (P4.add_ok hp (P4.add_ok hq hu))).2 (Pt.add_assoc _ _ _),
    (P4.same_iff (P4.add_ok hp P4.zero_ok) hp).2 (Pt.add_zero _), (P4.same_iff (P4.twice_ok hp) (P4.add_ok hp hp)).2 rfl⟩
set_option maxRecDepth 100000 in
theorem oL_eq : oL = ordL := rfl
set_option maxRecDepth 100000 in
theorem mulB_mod (n : Nat) : Pt.mul (n % ordL) bP = Pt.mul n bP := by rw [← oL_eq]; exact Pt.mul_mod _ _ base_order n
set_option maxRecDepth 100000 in
/-- The laws of multiples of the base point. -/
theorem law_mults {a b : Nat} (ha : a < ordL) (hb : b < ordL) {B x y : P4} (hB : B.ok bP) (hx : x = P4.both B B a 0) (hy : y = P4.both B B 0 b) :
    (x.add y).same (P4.both B B a b) = true ∧ (x.add y).same (P4.both B B ((a * 1 + b) % ordL) 0) = true ∧ (P4.both B x b 0).same (P4.both B B ((a * b + 0) % ordL) 0) = true ∧ (P4.both B B (ordL - 1) 1).same P4.zero = true := by
  have l : ∀ {n : Nat}, n < ordL → n < 2 ^ 256 := fun h => Nat.lt_trans h (by decide)
  have l0 : (0 : Nat) < 2 ^ 256 := by decide
  have m0 : ∀ p : Pt cv, Pt.mul 0 p = Pt.zero := fun _ => rfl
  have hx1 : x.ok (Pt.mul a bP) := by have := P4.both_ok hB hB (l ha) l0; rwa [m0, Pt.add_zero, ← hx] at this
  have hy1 : y.ok (Pt.mul b bP) := by have := P4.both_ok hB hB l0 (l hb); rwa [m0, Pt.zero_add, ← hy] at this
  have hxy := P4.add_ok hx1 hy1
  refine ⟨(P4.same_iff hxy (P4.both_ok hB hB (l ha) (l hb))).2 rfl, (P4.same_iff hxy (P4.both_ok hB hB (l (oMul_lt _ _ _)) l0)).2 ?_, (P4.same_iff (P4.both_ok hB hx1 (l hb) l0) (P4.both_ok hB hB (l (oMul_lt _ _ _)) l0)).2 ?_, (P4.same_iff (P4.both_ok hB hB (by decide) (by decide)) P4.zero_ok).2 ?_⟩
  · rw [m0, Pt.add_zero, Nat.mul_one, mulB_mod, Pt.mul_add]
  · rw [m0, Pt.add_zero, Pt.add_zero, Nat.add_zero, mulB_mod, Nat.mul_comm, Pt.mul_mul]
  · rw [← Pt.mul_add, Nat.sub_add_cancel (by decide), ← oL_eq]; exact base_order

set_option maxRecDepth 100000 in
theorem mulAdd_v (a b c : Nat) (W : World) (ha : a < ordL) (hb : b < ordL) (hc : c < ordL) : Calls Try.prog 37 #[.agg (quad a), .agg (quad b), .agg (quad c)] W fun e w' => e = .returned (.agg (quad ((a * b + c) % ordL))) ∧ Below W.heap.size W w' := MulAdd_any a b c W ha hb hc
set_option maxRecDepth 100000 in
theorem one_ordL : 1 < ordL := by decide
set_option maxRecDepth 100000 in
theorem zero_ordL : 0 < ordL := by decide
set_option maxRecDepth 100000 in
theorem le_p2 : ordL - 1 < p2 := by decide +kernel

/-- What the second half reckons. -/
structure Half (m n : ByteArray) (a b le d1 d2 : Nat) (c4 c5 : Int) (B X Y S T1 T2 T3 T4 T5 Z : P4) : Prop where
  O1 : ∀ w, Calls Try.prog 30 #[.string m] w fun e w' => e = .returned (.tuple #[.agg (quad a), .int .i64 c4]) ∧ Below w.heap.size w w'
  O2 : ∀ w, Calls Try.prog 30 #[.string n] w fun e w' => e = .returned (.tuple #[.agg (quad b), .int .i64 c5]) ∧ Below w.heap.size w w'
  OO : ∀ w, Calls Try.prog 30 #[.string oneB] w fun e w' => e = .returned (.tuple #[.agg (quad 1), .int .i64 0]) ∧ Below w.heap.size w w'
  OL : ∀ w, Calls Try.prog 30 #[.string lessB] w fun e w' => e = .returned (.tuple #[.agg (quad le), .int .i64 0]) ∧ Below w.heap.size w w'
  HB : ∀ w, Calls Try.prog 35 #[] w fun r w' => r = .returned (pv B) ∧ Below w.heap.size w w'
  Z1 : ∀ w, Calls Try.prog 36 #[] w fun r w' => r = .returned (pv Z) ∧ Below w.heap.size w w'
  MX : ∀ w, Calls Try.prog 31 #[pv B, .agg (quad a), .agg (quad 0)] w fun r w' => r = .returned (pv X) ∧ Below w.heap.size w w'
  MY : ∀ w, Calls Try.prog 31 #[pv B, .agg (quad 0), .agg (quad b)] w fun r w' => r = .returned (pv Y) ∧ Below w.heap.size w w'
  A1 : ∀ w, Calls Try.prog 27 #[pv X, pv Y] w fun r w' => r = .returned (pv S) ∧ Below w.heap.size w w'
  M1 : ∀ w, Calls Try.prog 31 #[pv B, .agg (quad a), .agg (quad b)] w fun r w' => r = .returned (pv T1) ∧ Below w.heap.size w w'
  S1 : ∀ w, Calls Try.prog 24 #[pv S, pv T1] w fun r w' => r = .returned (.bool true) ∧ Below w.heap.size w w'
  K1 : ∀ w, Calls Try.prog 37 #[.agg (quad a), .agg (quad 1), .agg (quad b)] w fun e w' => e = .returned (.agg (quad d1)) ∧ Below w.heap.size w w'
  M2 : ∀ w, Calls Try.prog 31 #[pv B, .agg (quad d1), .agg (quad 0)] w fun r w' => r = .returned (pv T2) ∧ Below w.heap.size w w'
  S2 : ∀ w, Calls Try.prog 24 #[pv S, pv T2] w fun r w' => r = .returned (.bool true) ∧ Below w.heap.size w w'
  M3 : ∀ w, Calls Try.prog 31 #[pv X, .agg (quad b), .agg (quad 0)] w fun r w' => r = .returned (pv T3) ∧ Below w.heap.size w w'
  K2 : ∀ w, Calls Try.prog 37 #[.agg (quad a), .agg (quad b), .agg (quad 0)] w fun e w' => e = .returned (.agg (quad d2)) ∧ Below w.heap.size w w'
  M4 : ∀ w, Calls Try.prog 31 #[pv B, .agg (quad d2), .agg (quad 0)] w fun r w' => r = .returned (pv T4) ∧ Below w.heap.size w w'
  S3 : ∀ w, Calls Try.prog 24 #[pv T3, pv T4] w fun r w' => r = .returned (.bool true) ∧ Below w.heap.size w w'
  M5 : ∀ w, Calls Try.prog 31 #[pv B, .agg (quad le), .agg (quad 1)] w fun r w' => r = .returned (pv T5) ∧ Below w.heap.size w w'
  S4 : ∀ w, Calls Try.prog 24 #[pv T5, pv Z] w fun r w' => r = .returned (.bool true) ∧ Below w.heap.size w w'
set_option maxRecDepth 100000 in
theorem half_any (m n : ByteArray) (hm : m.size ≤ 9223372036854775807) (hn : n.size ≤ 9223372036854775807) : ∃ a b le d1 d2 c4 c5 B X Y S T1 T2 T3 T4 T5 Z, Half m n a b le d1 d2 c4 c5 B X Y S T1 T2 T3 T4 T5 Z := by
  have hb := P4.base_bd
  have la := oN_lt m
  have lb := oN_lt n
  have z2 : 0 < p2 := by decide
  have dl : ∀ a b c, (a * b + c) % ordL < p2 := fun a b c => Nat.lt_trans (oMul_lt a b c) ordL_p2
  have hX := P4.both_bd hb hb (oN m) 0
  have hY := P4.both_bd hb hb 0 (oN n)
  obtain ⟨q1, q2, q3, q4⟩ := law_mults la lb base_ok rfl rfl
  have v : ∀ {s u : P4}, s.bd → u.bd → s.same u = true → ∀ w, Calls Try.prog 24 #[pv s, pv u] w fun r w' => r = .returned (.bool true) ∧ Below w.heap.size w w' := fun h k e w => e ▸ psame_v _ _ w h k
  exact ⟨oN m, oN n, ordL - 1, _, _, oC m, oC n, dP bsB, _, _, _, _, _, _, _, _, _, {
    O1 := fun w => sof_v m w hm
    O2 := fun w => sof_v n w hn
    OO := fun w => oneB_n ▸ oneB_c ▸ sof_v oneB w (by decide)
    OL := fun w => lessB_n ▸ lessB_c ▸ sof_v lessB w (by decide)
    HB := pbase_any
    Z1 := pzero_any
    MX := fun w => pboth_v _ _ _ w hb (oN_p2 m) z2
    MY := fun w => pboth_v _ _ _ w hb z2 (oN_p2 n)
    A1 := fun w => padd_v _ _ w hX hY
    M1 := fun w => pboth_v _ _ _ w hb (oN_p2 m) (oN_p2 n)
    S1 := v (P4.add_bd hX hY) (P4.both_bd hb hb _ _) q1
    K1 := fun w => mulAdd_v _ _ _ w la one_ordL lb
    M2 := fun w => pboth_v _ _ _ w hb (dl _ _ _) z2
    S2 := v (P4.add_bd hX hY) (P4.both_bd hb hb _ _) q2
    M3 := fun w => pboth_v _ _ _ w hX (oN_p2 n) z2
    K2 := fun w => mulAdd_v _ _ _ w la lb zero_ordL
    M4 := fun w => pboth_v _ _ _ w hb (dl _ _ _) z2
    S3 := v (P4.both_bd hb hX _ _) (P4.both_bd hb hb _ _) q3
    M5 := fun w => pboth_v _ _ _ w hb le_p2 (by decide)
    S4 := v (P4.both_bd hb hb _ _) P4.zero_ok.bd q4 }⟩

set_option maxRecDepth 100000 in
set_option maxHeartbeats 8000000 in
theorem elaws_bad (r s t m n : ByteArray) (x y z k x' y' z' k' x'' y'' z'' k'' a b le d1 d2 : Nat) (i i' i'' : Bool) (c1 c2 c3 c4 c5 : Int) (B X Y S T1 T2 T3 T4 T5 Z : P4) (W : World) (h1 : decV r = .tuple #[.agg (pt x y z k i), .int .i64 c1]) (h2 : decV s = .tuple #[.agg (pt x' y' z' k' i'), .int .i64 c2]) (h3 : decV t = .tuple #[.agg (pt x'' y'' z'' k'' i''), .int .i64 c3])
    (hr : r.size ≤ 9223372036854775807) (hs : s.size ≤ 9223372036854775807) (ht : t.size ≤ 9223372036854775807) (H : Half m n a b le d1 d2 c4 c5 B X Y S T1 T2 T3 T4 T5 Z)
    (hno : ((c1 == 0) && ((c2 == 0) && (c3 == 0))) = false) : Calls Try.prog 10 #[.string r, .string s, .string t, .string m, .string n] W fun e w' => e = .returned (.bool true) ∧ Below W.heap.size W w' := by
  have D1 := hid (fun w => h1 ▸ pdecode_v r w hr)
  have D2 := hid (fun w => h2 ▸ pdecode_v s w hs)
  have D3 := hid (fun w => h3 ▸ pdecode_v t w ht)
  clear h1 h2 h3 hr hs ht
  have O1 := hid H.O1
  have O2 := hid H.O2
  have OO := hid H.OO
  have OL := hid H.OL
  have HB := hid H.HB
  have Z1 := hid H.Z1
  have MX := hid H.MX
  have MY := hid H.MY
  have A1 := hid H.A1
  have M1 := hid H.M1
  have S1 := hid H.S1
  have K1 := hid H.K1
  have M2 := hid H.M2
  have S2 := hid H.S2
  have M3 := hid H.M3
  have K2 := hid H.K2
  have M4 := hid H.M4
  have S3 := hid H.S3
  have M5 := hid H.M5
  have S4 := hid H.S4
  have L1 := hid (fun w => alive_any w)
  clear H
  obtain ⟨t1, e1⟩ : ∃ t1, (c1 == 0) = t1 := ⟨_, rfl⟩
  obtain ⟨t2, e2⟩ : ∃ t1, (c2 == 0) = t1 := ⟨_, rfl⟩
  obtain ⟨t3, e3⟩ : ∃ t1, (c3 == 0) = t1 := ⟨_, rfl⟩
  rw [e1, e2, e3] at hno
  go_enter Try.func10, Try.ntmps10
  go_wp2_with fail
  refine (D1.out _).mono ?_
  rintro e w1 ⟨rfl, hb1⟩
  have b1 := hid hb1
  clear hb1
  go_upto_region 2 with (fail)
  skip
  obtain ⟨qa, hqa⟩ : ∃ b, w1.heap.size = b := ⟨_, rfl⟩
  have wqa : W.heap.size ≤ qa := by rw [← hqa]; exact b1.out.size
  obtain ⟨w2, hw2⟩ : ∃ w2, w1.alloc (.cells (pt x y z k i) 42) = w2 := ⟨_, rfl⟩
  have kqa := kept (show hget w2 (w1.heap.size) = some (.cells (pt x y z k i) 42) by rw [← hw2]; clear hw2; go_simp)
  have b2 : Hid (Below W.heap.size W w2) := by rw [← hw2]; repeat (first | exact Below.refl _ _ | exact below_new _ | exact b1.out | assumption | refine Below.drew ?_ | refine Below.drewN ?_ _ | refine below_alloc ?_ _ | refine below_blk' ?_ (by omega) _)
  rw [hw2]
  clear hw2
  try clear gqa lqa nqa mqa
  try clear jqa
  have jqa := kqa.later
  obtain ⟨gqa, lqa, nqa, mqa⟩ := kqa
  clear b1
  rw [hqa] at *
  clear hqa
  go_wp2_with fail
  try clear jqa
  refine (D2.out _).mono ?_
  rintro e w3 ⟨rfl, hb3⟩
  have kqa := Kept.on (kept (b := qa) (o := .cells (pt x y z k i) 42 (0, 0)) (by go_simp)) hb3
  have b3 : Hid (Below W.heap.size W w3) := below_to (by repeat (first | exact Below.refl _ _ | exact below_new _ | exact b2.out | assumption | refine Below.drew ?_ | refine Below.drewN ?_ _ | refine below_alloc ?_ _ | refine below_blk' ?_ (by omega) _)) hb3
  clear hb3
  try clear gqa lqa nqa mqa
  obtain ⟨gqa, lqa, nqa, mqa⟩ := kqa
  clear b2
  go_upto_region 3 with (fail)
  obtain ⟨qb, hqb⟩ : ∃ b, w3.heap.size = b := ⟨_, rfl⟩
  have wqb : W.heap.size ≤ qb := by rw [← hqb]; exact b3.out.size
  have eqaqb : (qa = qb) = False := by rw [← hqb]; exact nqa
  have eqbqa : (qb = qa) = False := by rw [← hqb]; exact mqa
  obtain ⟨w4, hw4⟩ : ∃ w4, w3.alloc (.cells (pt x' y' z' k' i') 42) = w4 := ⟨_, rfl⟩
  have kqa := kept (show hget w4 (qa) = some (.cells (pt x y z k i) 42 (0, 0)) by rw [← hw4]; clear hw4; go_simp)
  have kqb := kept (show hget w4 (w3.heap.size) = some (.cells (pt x' y' z' k' i') 42) by rw [← hw4]; clear hw4; go_simp)
  have b4 : Hid (Below W.heap.size W w4) := by rw [← hw4]; repeat (first | exact Below.refl _ _ | exact below_new _ | exact b3.out | assumption | refine Below.drew ?_ | refine Below.drewN ?_ _ | refine below_alloc ?_ _ | refine below_blk' ?_ (by omega) _)
  rw [hw4]
  clear hw4
  try clear gqa lqa nqa mqa
  try clear jqa
  have jqa := kqa.later
  obtain ⟨gqa, lqa, nqa, mqa⟩ := kqa
  try clear gqb lqb nqb mqb
  try clear jqb
  have jqb := kqb.later
  obtain ⟨gqb, lqb, nqb, mqb⟩ := kqb
  clear b3
  rw [hqb] at *
  clear hqb
  go_wp2_with fail
  try clear jqa jqb
  refine (D3.out _).mono ?_
  rintro e w5 ⟨rfl, hb5⟩
  have kqa := Kept.on (kept (b := qa) (o := .cells (pt x y z k i) 42 (0, 0)) (by go_simp)) hb5
  have kqb := Kept.on (kept (b := qb) (o := .cells (pt x' y' z' k' i') 42 (0, 0)) (by go_simp)) hb5
  have b5 : Hid (Below W.heap.size W w5) := below_to (by repeat (first | exact Below.refl _ _ | exact below_new _ | exact b4.out | assumption | refine Below.drew ?_ | refine Below.drewN ?_ _ | refine below_alloc ?_ _ | refine below_blk' ?_ (by omega) _)) hb5
  clear hb5
  try clear gqa lqa nqa mqa
  obtain ⟨gqa, lqa, nqa, mqa⟩ := kqa
  try clear gqb lqb nqb mqb
  obtain ⟨gqb, lqb, nqb, mqb⟩ := kqb
  clear b4
  go_upto_region 4 with (fail)
  obtain ⟨qc, hqc⟩ : ∃ b, w5.heap.size = b := ⟨_, rfl⟩
  have wqc : W.heap.size ≤ qc := by rw [← hqc]; exact b5.out.size
  have eqaqc : (qa = qc) = False := by rw [← hqc]; exact nqa
  have eqcqa : (qc = qa) = False := by rw [← hqc]; exact mqa
  have eqbqc : (qb = qc) = False := by rw [← hqc]; exact nqb
  have eqcqb : (qc = qb) = False := by rw [← hqc]; exact mqb
  obtain ⟨w6, hw6⟩ : ∃ w6, w5.alloc (.cells (pt x'' y'' z'' k'' i'') 42) = w6 := ⟨_, rfl⟩
  have kqa := kept (show hget w6 (qa) = some (.cells (pt x y z k i) 42 (0, 0)) by rw [← hw6]; clear hw6; go_simp)
  have kqb := kept (show hget w6 (qb) = some (.cells (pt x' y' z' k' i') 42 (0, 0)) by rw [← hw6]; clear hw6; go_simp)
  have kqc := kept (show hget w6 (w5.heap.size) = some (.cells (pt x'' y'' z'' k'' i'') 42) by rw [← hw6]; clear hw6; go_simp)
  have b6 : Hid (Below W.heap.size W w6) := by rw [← hw6]; repeat (first | exact Below.refl _ _ | exact below_new _ | exact b5.out | assumption | refine Below.drew ?_ | refine Below.drewN ?_ _ | refine below_alloc ?_ _ | refine below_blk' ?_ (by omega) _)
  rw [hw6]
  clear hw6
  try clear gqa lqa nqa mqa
  try clear jqa
  have jqa := kqa.later
  obtain ⟨gqa, lqa, nqa, mqa⟩ := kqa
  try clear gqb lqb nqb mqb
  try clear jqb
  have jqb := kqb.later
  obtain ⟨gqb, lqb, nqb, mqb⟩ := kqb
  try clear gqc lqc nqc mqc
  try clear jqc
  have jqc := kqc.later
  obtain ⟨gqc, lqc, nqc, mqc⟩ := kqc
  clear b5
  rw [hqc] at *
  clear hqc
  try clear gqa lqa nqa mqa
  try clear jqa
  try clear gqb lqb nqb mqb
  try clear jqb
  try clear gqc lqc nqc mqc
  try clear jqc
  skip
  cases t1
  · go_upto_region 7 with (fail)
    go_wp2_with fail
    skip
    refine (O1.out _).mono ?_
    rintro e w7 ⟨rfl, hb7⟩
    have b7 : Hid (Below W.heap.size W w7) := below_to (by repeat (first | exact Below.refl _ _ | exact below_new _ | exact b6.out | assumption | refine Below.drew ?_ | refine Below.drewN ?_ _ | refine below_alloc ?_ _ | refine below_blk' ?_ (by omega) _)) hb7
    clear hb7
    clear b6
    go_upto_region 8 with (fail)
    obtain ⟨qd, hqd⟩ : ∃ b, w7.heap.size = b := ⟨_, rfl⟩
    have wqd : W.heap.size ≤ qd := by rw [← hqd]; exact b7.out.size
    obtain ⟨w8, hw8⟩ : ∃ w8, w7.alloc (.cells (quad a) 59) = w8 := ⟨_, rfl⟩
    have kqd := kept (show hget w8 (w7.heap.size) = some (.cells (quad a) 59) by rw [← hw8]; clear hw8; go_simp)
    have b8 : Hid (Below W.heap.size W w8) := by rw [← hw8]; repeat (first | exact Below.refl _ _ | exact below_new _ | exact b7.out | assumption | refine Below.drew ?_ | refine Below.drewN ?_ _ | refine below_alloc ?_ _ | refine below_blk' ?_ (by omega) _)
    rw [hw8]
    clear hw8
    try clear gqd lqd nqd mqd
    try clear jqd
    have jqd := kqd.later
    obtain ⟨gqd, lqd, nqd, mqd⟩ := kqd
    clear b7
    rw [hqd] at *
    clear hqd
    go_wp2_with fail
    try clear jqd
    refine (O2.out _).mono ?_
    rintro e w9 ⟨rfl, hb9⟩
    have kqd := Kept.on (kept (b := qd) (o := .cells (quad a) 59 (0, 0)) (by go_simp)) hb9
    have b9 : Hid (Below W.heap.size W w9) := below_to (by repeat (first | exact Below.refl _ _ | exact below_new _ | exact b8.out | assumption | refine Below.drew ?_ | refine Below.drewN ?_ _ | refine below_alloc ?_ _ | refine below_blk' ?_ (by omega) _)) hb9
    clear hb9
    try clear gqd lqd nqd mqd
    obtain ⟨gqd, lqd, nqd, mqd⟩ := kqd
    clear b8
    go_upto_region 9 with (fail)
    obtain ⟨qe, hqe⟩ : ∃ b, w9.heap.size = b := ⟨_, rfl⟩
    have wqe : W.heap.size ≤ qe := by rw [← hqe]; exact b9.out.size
    have eqdqe : (qd = qe) = False := by rw [← hqe]; exact nqd
    have eqeqd : (qe = qd) = False := by rw [← hqe]; exact mqd
    obtain ⟨w10, hw10⟩ : ∃ w10, w9.alloc (.cells (quad b) 59) = w10 := ⟨_, rfl⟩
    have kqd := kept (show hget w10 (qd) = some (.cells (quad a) 59 (0, 0)) by rw [← hw10]; clear hw10; go_simp)
    have kqe := kept (show hget w10 (w9.heap.size) = some (.cells (quad b) 59) by rw [← hw10]; clear hw10; go_simp)
    have b10 : Hid (Below W.heap.size W w10) := by rw [← hw10]; repeat (first | exact Below.refl _ _ | exact below_new _ | exact b9.out | assumption | refine Below.drew ?_ | refine Below.drewN ?_ _ | refine below_alloc ?_ _ | refine below_blk' ?_ (by omega) _)
    rw [hw10]
    clear hw10
    try clear gqd lqd nqd mqd
    try clear jqd
    have jqd := kqd.later
    obtain ⟨gqd, lqd, nqd, mqd⟩ := kqd
    try clear gqe lqe nqe mqe
    try clear jqe
    have jqe := kqe.later
    obtain ⟨gqe, lqe, nqe, mqe⟩ := kqe
    clear b9
    rw [hqe] at *
    clear hqe
    obtain ⟨t4, ht4⟩ : ∃ t, (c4 != 0) = t := ⟨_, rfl⟩
    obtain ⟨t5, ht5⟩ : ∃ t, (c5 != 0) = t := ⟨_, rfl⟩
    skip
    cases t4
    · cases t5
      · go_upto_region 11 with (fail)
        go_wp2_with fail
        rw [zero_eq31]
        try clear jqd jqe
        refine (OO.out _).mono ?_
        rintro e w11 ⟨rfl, hb11⟩
        have kqd := Kept.on (kept (b := qd) (o := .cells (quad a) 59 (0, 0)) (by go_simp)) hb11
        have kqe := Kept.on (kept (b := qe) (o := .cells (quad b) 59 (0, 0)) (by go_simp)) hb11
        have b11 : Hid (Below W.heap.size W w11) := below_to (by repeat (first | exact Below.refl _ _ | exact below_new _ | exact b10.out | assumption | refine Below.drew ?_ | refine Below.drewN ?_ _ | refine below_alloc ?_ _ | refine below_blk' ?_ (by omega) _)) hb11
        clear hb11
        try clear gqd lqd nqd mqd
        obtain ⟨gqd, lqd, nqd, mqd⟩ := kqd
        try clear gqe lqe nqe mqe
        obtain ⟨gqe, lqe, nqe, mqe⟩ := kqe
        clear b10
        go_upto_region 12 with (fail)
        obtain ⟨qf, hqf⟩ : ∃ b, w11.heap.size = b := ⟨_, rfl⟩
        have wqf : W.heap.size ≤ qf := by rw [← hqf]; exact b11.out.size
        have eqdqf : (qd = qf) = False := by rw [← hqf]; exact nqd
        have eqfqd : (qf = qd) = False := by rw [← hqf]; exact mqd
        have eqeqf : (qe = qf) = False := by rw [← hqf]; exact nqe
        have eqfqe : (qf = qe) = False := by rw [← hqf]; exact mqe
        obtain ⟨w12, hw12⟩ : ∃ w12, w11.alloc (.cells (quad 1) 59) = w12 := ⟨_, rfl⟩
        have kqd := kept (show hget w12 (qd) = some (.cells (quad a) 59 (0, 0)) by rw [← hw12]; clear hw12; go_simp)
        have kqe := kept (show hget w12 (qe) = some (.cells (quad b) 59 (0, 0)) by rw [← hw12]; clear hw12; go_simp)
        have kqf := kept (show hget w12 (w11.heap.size) = some (.cells (quad 1) 59) by rw [← hw12]; clear hw12; go_simp)
        have b12 : Hid (Below W.heap.size W w12) := by rw [← hw12]; repeat (first | exact Below.refl _ _ | exact below_new _ | exact b11.out | assumption | refine Below.drew ?_ | refine Below.drewN ?_ _ | refine below_alloc ?_ _ | refine below_blk' ?_ (by omega) _)
        rw [hw12]
        clear hw12
        try clear gqd lqd nqd mqd
        try clear jqd
        have jqd := kqd.later
        obtain ⟨gqd, lqd, nqd, mqd⟩ := kqd
        try clear gqe lqe nqe mqe
        try clear jqe
        have jqe := kqe.later
        obtain ⟨gqe, lqe, nqe, mqe⟩ := kqe
        try clear gqf lqf nqf mqf
        try clear jqf
        have jqf := kqf.later
        obtain ⟨gqf, lqf, nqf, mqf⟩ := kqf
        clear b11
        rw [hqf] at *
        clear hqf
        go_wp2_with fail
        rw [zero_eq15]
        try clear jqd jqe jqf
        refine (OL.out _).mono ?_
        rintro e w13 ⟨rfl, hb13⟩
        have kqd := Kept.on (kept (b := qd) (o := .cells (quad a) 59 (0, 0)) (by go_simp)) hb13
        have kqe := Kept.on (kept (b := qe) (o := .cells (quad b) 59 (0, 0)) (by go_simp)) hb13
        have kqf := Kept.on (kept (b := qf) (o := .cells (quad 1) 59 (0, 0)) (by go_simp)) hb13
        have b13 : Hid (Below W.heap.size W w13) := below_to (by repeat (first | exact Below.refl _ _ | exact below_new _ | exact b12.out | assumption | refine Below.drew ?_ | refine Below.drewN ?_ _ | refine below_alloc ?_ _ | refine below_blk' ?_ (by omega) _)) hb13
        clear hb13
        try clear gqd lqd nqd mqd
        obtain ⟨gqd, lqd, nqd, mqd⟩ := kqd
        try clear gqe lqe nqe mqe
        obtain ⟨gqe, lqe, nqe, mqe⟩ := kqe
        try clear gqf lqf nqf mqf
        obtain ⟨gqf, lqf, nqf, mqf⟩ := kqf
        clear b12
        go_upto_region 13 with (fail)
        obtain ⟨qg, hqg⟩ : ∃ b, w13.heap.size = b := ⟨_, rfl⟩
        have wqg : W.heap.size ≤ qg := by rw [← hqg]; exact b13.out.size
        have eqdqg : (qd = qg) = False := by rw [← hqg]; exact nqd
        have eqgqd : (qg = qd) = False := by rw [← hqg]; exact mqd
        have eqeqg : (qe = qg) = False := by rw [← hqg]; exact nqe
        have eqgqe : (qg = qe) = False := by rw [← hqg]; exact mqe
        have eqfqg : (qf = qg) = False := by rw [← hqg]; exact nqf
        have eqgqf : (qg = qf) = False := by rw [← hqg]; exact mqf
        obtain ⟨w14, hw14⟩ : ∃ w14, w13.alloc (.cells (quad le) 59) = w14 := ⟨_, rfl⟩
        have kqd := kept (show hget w14 (qd) = some (.cells (quad a) 59 (0, 0)) by rw [← hw14]; clear hw14; go_simp)
        have kqe := kept (show hget w14 (qe) = some (.cells (quad b) 59 (0, 0)) by rw [← hw14]; clear hw14; go_simp)
        have kqf := kept (show hget w14 (qf) = some (.cells (quad 1) 59 (0, 0)) by rw [← hw14]; clear hw14; go_simp)
        have kqg := kept (show hget w14 (w13.heap.size) = some (.cells (quad le) 59) by rw [← hw14]; clear hw14; go_simp)
        have b14 : Hid (Below W.heap.size W w14) := by rw [← hw14]; repeat (first | exact Below.refl _ _ | exact below_new _ | exact b13.out | assumption | refine Below.drew ?_ | refine Below.drewN ?_ _ | refine below_alloc ?_ _ | refine below_blk' ?_ (by omega) _)
        rw [hw14]
        clear hw14
        try clear gqd lqd nqd mqd
        try clear jqd
        have jqd := kqd.later
        obtain ⟨gqd, lqd, nqd, mqd⟩ := kqd
        try clear gqe lqe nqe mqe
        try clear jqe
        have jqe := kqe.later
        obtain ⟨gqe, lqe, nqe, mqe⟩ := kqe
        try clear gqf lqf nqf mqf
        try clear jqf
        have jqf := kqf.later
        obtain ⟨gqf, lqf, nqf, mqf⟩ := kqf
        try clear gqg lqg nqg mqg
        try clear jqg
        have jqg := kqg.later
        obtain ⟨gqg, lqg, nqg, mqg⟩ := kqg
        clear b13
        rw [hqg] at *
        clear hqg
        go_upto_region 14 with (fail)
        obtain ⟨qh, hqh⟩ : ∃ b, w14.heap.size = b := ⟨_, rfl⟩
        have wqh : W.heap.size ≤ qh := by rw [← hqh]; exact b14.out.size
        have eqdqh : (qd = qh) = False := by rw [← hqh]; exact nqd
        have eqhqd : (qh = qd) = False := by rw [← hqh]; exact mqd
        have eqeqh : (qe = qh) = False := by rw [← hqh]; exact nqe
        have eqhqe : (qh = qe) = False := by rw [← hqh]; exact mqe
        have eqfqh : (qf = qh) = False := by rw [← hqh]; exact nqf
        have eqhqf : (qh = qf) = False := by rw [← hqh]; exact mqf
        have eqgqh : (qg = qh) = False := by rw [← hqh]; exact nqg
        have eqhqg : (qh = qg) = False := by rw [← hqh]; exact mqg
        obtain ⟨w15, hw15⟩ : ∃ w15, w14.alloc (.cells (quad 0) 59) = w15 := ⟨_, rfl⟩
        have kqd := kept (show hget w15 (qd) = some (.cells (quad a) 59 (0, 0)) by rw [← hw15]; clear hw15; go_simp)
        have kqe := kept (show hget w15 (qe) = some (.cells (quad b) 59 (0, 0)) by rw [← hw15]; clear hw15; go_simp)
        have kqf := kept (show hget w15 (qf) = some (.cells (quad 1) 59 (0, 0)) by rw [← hw15]; clear hw15; go_simp)
        have kqg := kept (show hget w15 (qg) = some (.cells (quad le) 59 (0, 0)) by rw [← hw15]; clear hw15; go_simp)
        have kqh := kept (show hget w15 (w14.heap.size) = some (.cells (quad 0) 59) by rw [← hw15]; clear hw15; go_simp)
        have b15 : Hid (Below W.heap.size W w15) := by rw [← hw15]; repeat (first | exact Below.refl _ _ | exact below_new _ | exact b14.out | assumption | refine Below.drew ?_ | refine Below.drewN ?_ _ | refine below_alloc ?_ _ | refine below_blk' ?_ (by omega) _)
        rw [hw15]
        clear hw15
        try clear gqd lqd nqd mqd
        try clear jqd
        have jqd := kqd.later
        obtain ⟨gqd, lqd, nqd, mqd⟩ := kqd
        try clear gqe lqe nqe mqe
        try clear jqe
        have jqe := kqe.later
        obtain ⟨gqe, lqe, nqe, mqe⟩ := kqe
        try clear gqf lqf nqf mqf
        try clear jqf
        have jqf := kqf.later
        obtain ⟨gqf, lqf, nqf, mqf⟩ := kqf
        try clear gqg lqg nqg mqg
        try clear jqg
        have jqg := kqg.later
        obtain ⟨gqg, lqg, nqg, mqg⟩ := kqg
        try clear gqh lqh nqh mqh
        try clear jqh
        have jqh := kqh.later
        obtain ⟨gqh, lqh, nqh, mqh⟩ := kqh
        clear b14
        rw [hqh] at *
        clear hqh
        go_wp2_with fail
        try clear jqd jqe jqf jqg jqh
        refine (HB.out _).mono ?_
        rintro e w16 ⟨rfl, hb16⟩
        have kqd := Kept.on (kept (b := qd) (o := .cells (quad a) 59 (0, 0)) (by go_simp)) hb16
        have kqe := Kept.on (kept (b := qe) (o := .cells (quad b) 59 (0, 0)) (by go_simp)) hb16
        have kqf := Kept.on (kept (b := qf) (o := .cells (quad 1) 59 (0, 0)) (by go_simp)) hb16
        have kqg := Kept.on (kept (b := qg) (o := .cells (quad le) 59 (0, 0)) (by go_simp)) hb16
        have kqh := Kept.on (kept (b := qh) (o := .cells (quad 0) 59 (0, 0)) (by go_simp)) hb16
        have b16 : Hid (Below W.heap.size W w16) := below_to (by repeat (first | exact Below.refl _ _ | exact below_new _ | exact b15.out | assumption | refine Below.drew ?_ | refine Below.drewN ?_ _ | refine below_alloc ?_ _ | refine below_blk' ?_ (by omega) _)) hb16
        clear hb16
        try clear gqd lqd nqd mqd
        obtain ⟨gqd, lqd, nqd, mqd⟩ := kqd
        try clear gqe lqe nqe mqe
        obtain ⟨gqe, lqe, nqe, mqe⟩ := kqe
        try clear gqf lqf nqf mqf
        obtain ⟨gqf, lqf, nqf, mqf⟩ := kqf
        try clear gqg lqg nqg mqg
        obtain ⟨gqg, lqg, nqg, mqg⟩ := kqg
        try clear gqh lqh nqh mqh
        obtain ⟨gqh, lqh, nqh, mqh⟩ := kqh
        clear b15
        go_upto_region 15 with (fail)
        obtain ⟨qi, hqi⟩ : ∃ b, w16.heap.size = b := ⟨_, rfl⟩
        have wqi : W.heap.size ≤ qi := by rw [← hqi]; exact b16.out.size
        have eqdqi : (qd = qi) = False := by rw [← hqi]; exact nqd
        have eqiqd : (qi = qd) = False := by rw [← hqi]; exact mqd
        have eqeqi : (qe = qi) = False := by rw [← hqi]; exact nqe
        have eqiqe : (qi = qe) = False := by rw [← hqi]; exact mqe
        have eqfqi : (qf = qi) = False := by rw [← hqi]; exact nqf
        have eqiqf : (qi = qf) = False := by rw [← hqi]; exact mqf
        have eqgqi : (qg = qi) = False := by rw [← hqi]; exact nqg
        have eqiqg : (qi = qg) = False := by rw [← hqi]; exact mqg
        have eqhqi : (qh = qi) = False := by rw [← hqi]; exact nqh
        have eqiqh : (qi = qh) = False := by rw [← hqi]; exact mqh
        obtain ⟨w17, hw17⟩ : ∃ w17, w16.alloc (.cells (pt B.x B.y B.z B.t true) 42) = w17 := ⟨_, rfl⟩
        have kqd := kept (show hget w17 (qd) = some (.cells (quad a) 59 (0, 0)) by rw [← hw17]; clear hw17; go_simp)
        have kqe := kept (show hget w17 (qe) = some (.cells (quad b) 59 (0, 0)) by rw [← hw17]; clear hw17; go_simp)
        have kqf := kept (show hget w17 (qf) = some (.cells (quad 1) 59 (0, 0)) by rw [← hw17]; clear hw17; go_simp)
        have kqg := kept (show hget w17 (qg) = some (.cells (quad le) 59 (0, 0)) by rw [← hw17]; clear hw17; go_simp)
        have kqh := kept (show hget w17 (qh) = some (.cells (quad 0) 59 (0, 0)) by rw [← hw17]; clear hw17; go_simp)
        have kqi := kept (show hget w17 (w16.heap.size) = some (.cells (pt B.x B.y B.z B.t true) 42) by rw [← hw17]; clear hw17; go_simp)
        have b17 : Hid (Below W.heap.size W w17) := by rw [← hw17]; repeat (first | exact Below.refl _ _ | exact below_new _ | exact b16.out | assumption | refine Below.drew ?_ | refine Below.drewN ?_ _ | refine below_alloc ?_ _ | refine below_blk' ?_ (by omega) _)
        rw [hw17]
        clear hw17
        try clear gqd lqd nqd mqd
        try clear jqd
        have jqd := kqd.later
        obtain ⟨gqd, lqd, nqd, mqd⟩ := kqd
        try clear gqe lqe nqe mqe
        try clear jqe
        have jqe := kqe.later
        obtain ⟨gqe, lqe, nqe, mqe⟩ := kqe
        try clear gqf lqf nqf mqf
        try clear jqf
        have jqf := kqf.later
        obtain ⟨gqf, lqf, nqf, mqf⟩ := kqf
        try clear gqg lqg nqg mqg
        try clear jqg
        have jqg := kqg.later
        obtain ⟨gqg, lqg, nqg, mqg⟩ := kqg
        try clear gqh lqh nqh mqh
        try clear jqh
        have jqh := kqh.later
        obtain ⟨gqh, lqh, nqh, mqh⟩ := kqh
        try clear gqi lqi nqi mqi
        try clear jqi
        have jqi := kqi.later
        obtain ⟨gqi, lqi, nqi, mqi⟩ := kqi
        clear b16
        rw [hqi] at *
        clear hqi
        go_wp2_with fail
        try clear jqd jqe jqf jqg jqh jqi
        refine (MX.out _).mono ?_
        rintro e w18 ⟨rfl, hb18⟩
        have kqd := Kept.on (kept (b := qd) (o := .cells (quad a) 59 (0, 0)) (by go_simp)) hb18
        have kqe := Kept.on (kept (b := qe) (o := .cells (quad b) 59 (0, 0)) (by go_simp)) hb18
        have kqf := Kept.on (kept (b := qf) (o := .cells (quad 1) 59 (0, 0)) (by go_simp)) hb18
        have kqg := Kept.on (kept (b := qg) (o := .cells (quad le) 59 (0, 0)) (by go_simp)) hb18
        have kqh := Kept.on (kept (b := qh) (o := .cells (quad 0) 59 (0, 0)) (by go_simp)) hb18
        have kqi := Kept.on (kept (b := qi) (o := .cells (pt B.x B.y B.z B.t true) 42 (0, 0)) (by go_simp)) hb18
        have b18 : Hid (Below W.heap.size W w18) := below_to (by repeat (first | exact Below.refl _ _ | exact below_new _ | exact b17.out | assumption | refine Below.drew ?_ | refine Below.drewN ?_ _ | refine below_alloc ?_ _ | refine below_blk' ?_ (by omega) _)) hb18
        clear hb18
        try clear gqd lqd nqd mqd
        obtain ⟨gqd, lqd, nqd, mqd⟩ := kqd
        try clear gqe lqe nqe mqe
        obtain ⟨gqe, lqe, nqe, mqe⟩ := kqe
        try clear gqf lqf nqf mqf
        obtain ⟨gqf, lqf, nqf, mqf⟩ := kqf
        try clear gqg lqg nqg mqg
        obtain ⟨gqg, lqg, nqg, mqg⟩ := kqg
        try clear gqh lqh nqh mqh
        obtain ⟨gqh, lqh, nqh, mqh⟩ := kqh
        try clear gqi lqi nqi mqi
        obtain ⟨gqi, lqi, nqi, mqi⟩ := kqi
        clear b17
        go_upto_region 16 with (fail)
        obtain ⟨qj, hqj⟩ : ∃ b, w18.heap.size = b := ⟨_, rfl⟩
        have wqj : W.heap.size ≤ qj := by rw [← hqj]; exact b18.out.size
        have eqdqj : (qd = qj) = False := by rw [← hqj]; exact nqd
        have eqjqd : (qj = qd) = False := by rw [← hqj]; exact mqd
        have eqeqj : (qe = qj) = False := by rw [← hqj]; exact nqe
        have eqjqe : (qj = qe) = False := by rw [← hqj]; exact mqe
        have eqfqj : (qf = qj) = False := by rw [← hqj]; exact nqf
        have eqjqf : (qj = qf) = False := by rw [← hqj]; exact mqf
        have eqgqj : (qg = qj) = False := by rw [← hqj]; exact nqg
        have eqjqg : (qj = qg) = False := by rw [← hqj]; exact mqg
        have eqhqj : (qh = qj) = False := by rw [← hqj]; exact nqh
        have eqjqh : (qj = qh) = False := by rw [← hqj]; exact mqh
        have eqiqj : (qi = qj) = False := by rw [← hqj]; exact nqi
        have eqjqi : (qj = qi) = False := by rw [← hqj]; exact mqi
        obtain ⟨w19, hw19⟩ : ∃ w19, w18.alloc (.cells (pt X.x X.y X.z X.t true) 42) = w19 := ⟨_, rfl⟩
        have kqd := kept (show hget w19 (qd) = some (.cells (quad a) 59 (0, 0)) by rw [← hw19]; clear hw19; go_simp)
        have kqe := kept (show hget w19 (qe) = some (.cells (quad b) 59 (0, 0)) by rw [← hw19]; clear hw19; go_simp)
        have kqf := kept (show hget w19 (qf) = some (.cells (quad 1) 59 (0, 0)) by rw [← hw19]; clear hw19; go_simp)
        have kqg := kept (show hget w19 (qg) = some (.cells (quad le) 59 (0, 0)) by rw [← hw19]; clear hw19; go_simp)
        have kqh := kept (show hget w19 (qh) = some (.cells (quad 0) 59 (0, 0)) by rw [← hw19]; clear hw19; go_simp)
        have kqi := kept (show hget w19 (qi) = some (.cells (pt B.x B.y B.z B.t true) 42 (0, 0)) by rw [← hw19]; clear hw19; go_simp)
        have kqj := kept (show hget w19 (w18.heap.size) = some (.cells (pt X.x X.y X.z X.t true) 42) by rw [← hw19]; clear hw19; go_simp)
        have b19 : Hid (Below W.heap.size W w19) := by rw [← hw19]; repeat (first | exact Below.refl _ _ | exact below_new _ | exact b18.out | assumption | refine Below.drew ?_ | refine Below.drewN ?_ _ | refine below_alloc ?_ _ | refine below_blk' ?_ (by omega) _)
        rw [hw19]
        clear hw19
        try clear gqd lqd nqd mqd
        try clear jqd
        have jqd := kqd.later
        obtain ⟨gqd, lqd, nqd, mqd⟩ := kqd
        try clear gqe lqe nqe mqe
        try clear jqe
        have jqe := kqe.later
        obtain ⟨gqe, lqe, nqe, mqe⟩ := kqe
        try clear gqf lqf nqf mqf
        try clear jqf
        have jqf := kqf.later
        obtain ⟨gqf, lqf, nqf, mqf⟩ := kqf
        try clear gqg lqg nqg mqg
        try clear jqg
        have jqg := kqg.later
        obtain ⟨gqg, lqg, nqg, mqg⟩ := kqg
        try clear gqh lqh nqh mqh
        try clear jqh
        have jqh := kqh.later
        obtain ⟨gqh, lqh, nqh, mqh⟩ := kqh
        try clear gqi lqi nqi mqi
        try clear jqi
        have jqi := kqi.later
        obtain ⟨gqi, lqi, nqi, mqi⟩ := kqi
        try clear gqj lqj nqj mqj
        try clear jqj
        have jqj := kqj.later
        obtain ⟨gqj, lqj, nqj, mqj⟩ := kqj
        clear b18
        rw [hqj] at *
        clear hqj
        go_wp2_with fail
        try clear jqd jqe jqf jqg jqh jqi jqj
        refine (MY.out _).mono ?_
        rintro e w20 ⟨rfl, hb20⟩
        have kqd := Kept.on (kept (b := qd) (o := .cells (quad a) 59 (0, 0)) (by go_simp)) hb20
        have kqe := Kept.on (kept (b := qe) (o := .cells (quad b) 59 (0, 0)) (by go_simp)) hb20
        have kqf := Kept.on (kept (b := qf) (o := .cells (quad 1) 59 (0, 0)) (by go_simp)) hb20
        have kqg := Kept.on (kept (b := qg) (o := .cells (quad le) 59 (0, 0)) (by go_simp)) hb20
        have kqh := Kept.on (kept (b := qh) (o := .cells (quad 0) 59 (0, 0)) (by go_simp)) hb20
        have kqi := Kept.on (kept (b := qi) (o := .cells (pt B.x B.y B.z B.t true) 42 (0, 0)) (by go_simp)) hb20
        have kqj := Kept.on (kept (b := qj) (o := .cells (pt X.x X.y X.z X.t true) 42 (0, 0)) (by go_simp)) hb20
        have b20 : Hid (Below W.heap.size W w20) := below_to (by repeat (first | exact Below.refl _ _ | exact below_new _ | exact b19.out | assumption | refine Below.drew ?_ | refine Below.drewN ?_ _ | refine below_alloc ?_ _ | refine below_blk' ?_ (by omega) _)) hb20
        clear hb20
        try clear gqd lqd nqd mqd
        obtain ⟨gqd, lqd, nqd, mqd⟩ := kqd
        try clear gqe lqe nqe mqe
        obtain ⟨gqe, lqe, nqe, mqe⟩ := kqe
        try clear gqf lqf nqf mqf
        obtain ⟨gqf, lqf, nqf, mqf⟩ := kqf
        try clear gqg lqg nqg mqg
        obtain ⟨gqg, lqg, nqg, mqg⟩ := kqg
        try clear gqh lqh nqh mqh
        obtain ⟨gqh, lqh, nqh, mqh⟩ := kqh
        try clear gqi lqi nqi mqi
        obtain ⟨gqi, lqi, nqi, mqi⟩ := kqi
        try clear gqj lqj nqj mqj
        obtain ⟨gqj, lqj, nqj, mqj⟩ := kqj
        clear b19
        go_upto_region 17 with (fail)
        obtain ⟨qk, hqk⟩ : ∃ b, w20.heap.size = b := ⟨_, rfl⟩
        have wqk : W.heap.size ≤ qk := by rw [← hqk]; exact b20.out.size
        have eqdqk : (qd = qk) = False := by rw [← hqk]; exact nqd
        have eqkqd : (qk = qd) = False := by rw [← hqk]; exact mqd
        have eqeqk : (qe = qk) = False := by rw [← hqk]; exact nqe
        have eqkqe : (qk = qe) = False := by rw [← hqk]; exact mqe
        have eqfqk : (qf = qk) = False := by rw [← hqk]; exact nqf
        have eqkqf : (qk = qf) = False := by rw [← hqk]; exact mqf
        have eqgqk : (qg = qk) = False := by rw [← hqk]; exact nqg
        have eqkqg : (qk = qg) = False := by rw [← hqk]; exact mqg
        have eqhqk : (qh = qk) = False := by rw [← hqk]; exact nqh
        have eqkqh : (qk = qh) = False := by rw [← hqk]; exact mqh
        have eqiqk : (qi = qk) = False := by rw [← hqk]; exact nqi
        have eqkqi : (qk = qi) = False := by rw [← hqk]; exact mqi
        have eqjqk : (qj = qk) = False := by rw [← hqk]; exact nqj
        have eqkqj : (qk = qj) = False := by rw [← hqk]; exact mqj
        obtain ⟨w21, hw21⟩ : ∃ w21, w20.alloc (.cells (pt Y.x Y.y Y.z Y.t true) 42) = w21 := ⟨_, rfl⟩
        have kqd := kept (show hget w21 (qd) = some (.cells (quad a) 59 (0, 0)) by rw [← hw21]; clear hw21; go_simp)
        have kqe := kept (show hget w21 (qe) = some (.cells (quad b) 59 (0, 0)) by rw [← hw21]; clear hw21; go_simp)
        have kqf := kept (show hget w21 (qf) = some (.cells (quad 1) 59 (0, 0)) by rw [← hw21]; clear hw21; go_simp)
        have kqg := kept (show hget w21 (qg) = some (.cells (quad le) 59 (0, 0)) by rw [← hw21]; clear hw21; go_simp)
        have kqh := kept (show hget w21 (qh) = some (.cells (quad 0) 59 (0, 0)) by rw [← hw21]; clear hw21; go_simp)
        have kqi := kept (show hget w21 (qi) = some (.cells (pt B.x B.y B.z B.t true) 42 (0, 0)) by rw [← hw21]; clear hw21; go_simp)
        have kqj := kept (show hget w21 (qj) = some (.cells (pt X.x X.y X.z X.t true) 42 (0, 0)) by rw [← hw21]; clear hw21; go_simp)
        have kqk := kept (show hget w21 (w20.heap.size) = some (.cells (pt Y.x Y.y Y.z Y.t true) 42) by rw [← hw21]; clear hw21; go_simp)
        have b21 : Hid (Below W.heap.size W w21) := by rw [← hw21]; repeat (first | exact Below.refl _ _ | exact below_new _ | exact b20.out | assumption | refine Below.drew ?_ | refine Below.drewN ?_ _ | refine below_alloc ?_ _ | refine below_blk' ?_ (by omega) _)
        rw [hw21]
        clear hw21
        try clear gqd lqd nqd mqd
        try clear jqd
        have jqd := kqd.later
        obtain ⟨gqd, lqd, nqd, mqd⟩ := kqd
        try clear gqe lqe nqe mqe
        try clear jqe
        have jqe := kqe.later
        obtain ⟨gqe, lqe, nqe, mqe⟩ := kqe
        try clear gqf lqf nqf mqf
        try clear jqf
        have jqf := kqf.later
        obtain ⟨gqf, lqf, nqf, mqf⟩ := kqf
        try clear gqg lqg nqg mqg
        try clear jqg
        have jqg := kqg.later
        obtain ⟨gqg, lqg, nqg, mqg⟩ := kqg
        try clear gqh lqh nqh mqh
        try clear jqh
        have jqh := kqh.later
        obtain ⟨gqh, lqh, nqh, mqh⟩ := kqh
        try clear gqi lqi nqi mqi
        try clear jqi
        have jqi := kqi.later
        obtain ⟨gqi, lqi, nqi, mqi⟩ := kqi
        try clear gqj lqj nqj mqj
        try clear jqj
        have jqj := kqj.later
        obtain ⟨gqj, lqj, nqj, mqj⟩ := kqj
        try clear gqk lqk nqk mqk
        try clear jqk
        have jqk := kqk.later
        obtain ⟨gqk, lqk, nqk, mqk⟩ := kqk
        clear b20
        rw [hqk] at *
        clear hqk
        refine wp_region_later (by kernel_rfl) (by kernel_rfl) ?_
        repeat ((go_big_quiet_step ((first | (go_at_call 27; with_reducible exact calls_later (A1.out _)) | (go_at_call 31; first | with_reducible exact calls_later (M1.out _) | with_reducible exact calls_later (M2.out _) | with_reducible exact calls_later (M3.out _) | with_reducible exact calls_later (M4.out _) | with_reducible exact calls_later (M5.out _)) | (go_at_call 37; first | with_reducible exact calls_later (K1.out _) | with_reducible exact calls_later (K2.out _)) | (go_at_call 24; first | with_reducible exact calls_later (S1.out _) | with_reducible exact calls_later (S2.out _) | with_reducible exact calls_later (S3.out _) | with_reducible exact calls_later (S4.out _)) | (go_at_call 36; with_reducible exact calls_later (Z1.out _)) | (go_at_call 18; with_reducible exact calls_later (L1.out _))))))
        refine wpQuiet_nil ?_
        intro wL hwL
        obtain ⟨⟨w8, hL⟩, e8⟩ := hwL
        change wL = w8 at e8
        subst e8
        have bZ := hid (below_to b21.out hL)
        go_wp2_with fail
        go_ret
        exact ⟨rfl, bZ.out⟩
      · skip
        go_wp2_with fail
        try clear jqd jqe
        refine (L1.out _).mono ?_
        rintro e w11 ⟨rfl, hb11⟩
        have kqd := Kept.on (kept (b := qd) (o := .cells (quad a) 59 (0, 0)) (by go_simp)) hb11
        have kqe := Kept.on (kept (b := qe) (o := .cells (quad b) 59 (0, 0)) (by go_simp)) hb11
        have b11 : Hid (Below W.heap.size W w11) := below_to (by repeat (first | exact Below.refl _ _ | exact below_new _ | exact b10.out | assumption | refine Below.drew ?_ | refine Below.drewN ?_ _ | refine below_alloc ?_ _ | refine below_blk' ?_ (by omega) _)) hb11
        clear hb11
        try clear gqd lqd nqd mqd
        obtain ⟨gqd, lqd, nqd, mqd⟩ := kqd
        try clear gqe lqe nqe mqe
        obtain ⟨gqe, lqe, nqe, mqe⟩ := kqe
        clear b10
        go_wp2_with fail
        go_ret
        exact ⟨rfl, b11.out⟩
    · skip
      go_wp2_with fail
      try clear jqd jqe
      refine (L1.out _).mono ?_
      rintro e w11 ⟨rfl, hb11⟩
      have kqd := Kept.on (kept (b := qd) (o := .cells (quad a) 59 (0, 0)) (by go_simp)) hb11
      have kqe := Kept.on (kept (b := qe) (o := .cells (quad b) 59 (0, 0)) (by go_simp)) hb11
      have b11 : Hid (Below W.heap.size W w11) := below_to (by repeat (first | exact Below.refl _ _ | exact below_new _ | exact b10.out | assumption | refine Below.drew ?_ | refine Below.drewN ?_ _ | refine below_alloc ?_ _ | refine below_blk' ?_ (by omega) _)) hb11
      clear hb11
      try clear gqd lqd nqd mqd
      obtain ⟨gqd, lqd, nqd, mqd⟩ := kqd
      try clear gqe lqe nqe mqe
      obtain ⟨gqe, lqe, nqe, mqe⟩ := kqe
      clear b10
      go_wp2_with fail
      go_ret
      exact ⟨rfl, b11.out⟩
  · cases t2
    · skip
      go_upto_region 7 with (fail)
      go_wp2_with fail
      skip
      refine (O1.out _).mono ?_
      rintro e w7 ⟨rfl, hb7⟩
      have b7 : Hid (Below W.heap.size W w7) := below_to (by repeat (first | exact Below.refl _ _ | exact below_new _ | exact b6.out | assumption | refine Below.drew ?_ | refine Below.drewN ?_ _ | refine below_alloc ?_ _ | refine below_blk' ?_ (by omega) _)) hb7
      clear hb7
      clear b6
      go_upto_region 8 with (fail)
      obtain ⟨qd, hqd⟩ : ∃ b, w7.heap.size = b := ⟨_, rfl⟩
      have wqd : W.heap.size ≤ qd := by rw [← hqd]; exact b7.out.size
      obtain ⟨w8, hw8⟩ : ∃ w8, w7.alloc (.cells (quad a) 59) = w8 := ⟨_, rfl⟩
      have kqd := kept (show hget w8 (w7.heap.size) = some (.cells (quad a) 59) by rw [← hw8]; clear hw8; go_simp)
      have b8 : Hid (Below W.heap.size W w8) := by rw [← hw8]; repeat (first | exact Below.refl _ _ | exact below_new _ | exact b7.out | assumption | refine Below.drew ?_ | refine Below.drewN ?_ _ | refine below_alloc ?_ _ | refine below_blk' ?_ (by omega) _)
      rw [hw8]
      clear hw8
      try clear gqd lqd nqd mqd
      try clear jqd
      have jqd := kqd.later
      obtain ⟨gqd, lqd, nqd, mqd⟩ := kqd
      clear b7
      rw [hqd] at *
      clear hqd
      go_wp2_with fail
      try clear jqd
      refine (O2.out _).mono ?_
      rintro e w9 ⟨rfl, hb9⟩
      have kqd := Kept.on (kept (b := qd) (o := .cells (quad a) 59 (0, 0)) (by go_simp)) hb9
      have b9 : Hid (Below W.heap.size W w9) := below_to (by repeat (first | exact Below.refl _ _ | exact below_new _ | exact b8.out | assumption | refine Below.drew ?_ | refine Below.drewN ?_ _ | refine below_alloc ?_ _ | refine below_blk' ?_ (by omega) _)) hb9
      clear hb9
      try clear gqd lqd nqd mqd
      obtain ⟨gqd, lqd, nqd, mqd⟩ := kqd
      clear b8
      go_upto_region 9 with (fail)
      obtain ⟨qe, hqe⟩ : ∃ b, w9.heap.size = b := ⟨_, rfl⟩
      have wqe : W.heap.size ≤ qe := by rw [← hqe]; exact b9.out.size
      have eqdqe : (qd = qe) = False := by rw [← hqe]; exact nqd
      have eqeqd : (qe = qd) = False := by rw [← hqe]; exact mqd
      obtain ⟨w10, hw10⟩ : ∃ w10, w9.alloc (.cells (quad b) 59) = w10 := ⟨_, rfl⟩
      have kqd := kept (show hget w10 (qd) = some (.cells (quad a) 59 (0, 0)) by rw [← hw10]; clear hw10; go_simp)
      have kqe := kept (show hget w10 (w9.heap.size) = some (.cells (quad b) 59) by rw [← hw10]; clear hw10; go_simp)
      have b10 : Hid (Below W.heap.size W w10) := by rw [← hw10]; repeat (first | exact Below.refl _ _ | exact below_new _ | exact b9.out | assumption | refine Below.drew ?_ | refine Below.drewN ?_ _ | refine below_alloc ?_ _ | refine below_blk' ?_ (by omega) _)
      rw [hw10]
      clear hw10
      try clear gqd lqd nqd mqd
      try clear jqd
      have jqd := kqd.later
      obtain ⟨gqd, lqd, nqd, mqd⟩ := kqd
      try clear gqe lqe nqe mqe
      try clear jqe
      have jqe := kqe.later
      obtain ⟨gqe, lqe, nqe, mqe⟩ := kqe
      clear b9
      rw [hqe] at *
      clear hqe
      obtain ⟨t4, ht4⟩ : ∃ t, (c4 != 0) = t := ⟨_, rfl⟩
      obtain ⟨t5, ht5⟩ : ∃ t, (c5 != 0) = t := ⟨_, rfl⟩
      skip
      cases t4
      · cases t5
        · go_upto_region 11 with (fail)
          go_wp2_with fail
          rw [zero_eq31]
          try clear jqd jqe
          refine (OO.out _).mono ?_
          rintro e w11 ⟨rfl, hb11⟩
          have kqd := Kept.on (kept (b := qd) (o := .cells (quad a) 59 (0, 0)) (by go_simp)) hb11
          have kqe := Kept.on (kept (b := qe) (o := .cells (quad b) 59 (0, 0)) (by go_simp)) hb11
          have b11 : Hid (Below W.heap.size W w11) := below_to (by repeat (first | exact Below.refl _ _ | exact below_new _ | exact b10.out | assumption | refine Below.drew ?_ | refine Below.drewN ?_ _ | refine below_alloc ?_ _ | refine below_blk' ?_ (by omega) _)) hb11
          clear hb11
          try clear gqd lqd nqd mqd
          obtain ⟨gqd, lqd, nqd, mqd⟩ := kqd
          try clear gqe lqe nqe mqe
          obtain ⟨gqe, lqe, nqe, mqe⟩ := kqe
          clear b10
          go_upto_region 12 with (fail)
          obtain ⟨qf, hqf⟩ : ∃ b, w11.heap.size = b := ⟨_, rfl⟩
          have wqf : W.heap.size ≤ qf := by rw [← hqf]; exact b11.out.size
          have eqdqf : (qd = qf) = False := by rw [← hqf]; exact nqd
          have eqfqd : (qf = qd) = False := by rw [← hqf]; exact mqd
          have eqeqf : (qe = qf) = False := by rw [← hqf]; exact nqe
          have eqfqe : (qf = qe) = False := by rw [← hqf]; exact mqe
          obtain ⟨w12, hw12⟩ : ∃ w12, w11.alloc (.cells (quad 1) 59) = w12 := ⟨_, rfl⟩
          have kqd := kept (show hget w12 (qd) = some (.cells (quad a) 59 (0, 0)) by rw [← hw12]; clear hw12; go_simp)
          have kqe := kept (show hget w12 (qe) = some (.cells (quad b) 59 (0, 0)) by rw [← hw12]; clear hw12; go_simp)
          have kqf := kept (show hget w12 (w11.heap.size) = some (.cells (quad 1) 59) by rw [← hw12]; clear hw12; go_simp)
          have b12 : Hid (Below W.heap.size W w12) := by rw [← hw12]; repeat (first | exact Below.refl _ _ | exact below_new _ | exact b11.out | assumption | refine Below.drew ?_ | refine Below.drewN ?_ _ | refine below_alloc ?_ _ | refine below_blk' ?_ (by omega) _)
          rw [hw12]
          clear hw12
          try clear gqd lqd nqd mqd
          try clear jqd
          have jqd := kqd.later
          obtain ⟨gqd, lqd, nqd, mqd⟩ := kqd
          try clear gqe lqe nqe mqe
          try clear jqe
          have jqe := kqe.later
          obtain ⟨gqe, lqe, nqe, mqe⟩ := kqe
          try clear gqf lqf nqf mqf
          try clear jqf
          have jqf := kqf.later
          obtain ⟨gqf, lqf, nqf, mqf⟩ := kqf
          clear b11
          rw [hqf] at *
          clear hqf
          go_wp2_with fail
          rw [zero_eq15]
          try clear jqd jqe jqf
          refine (OL.out _).mono ?_
          rintro e w13 ⟨rfl, hb13⟩
          have kqd := Kept.on (kept (b := qd) (o := .cells (quad a) 59 (0, 0)) (by go_simp)) hb13
          have kqe := Kept.on (kept (b := qe) (o := .cells (quad b) 59 (0, 0)) (by go_simp)) hb13
          have kqf := Kept.on (kept (b := qf) (o := .cells (quad 1) 59 (0, 0)) (by go_simp)) hb13
          have b13 : Hid (Below W.heap.size W w13) := below_to (by repeat (first | exact Below.refl _ _ | exact below_new _ | exact b12.out | assumption | refine Below.drew ?_ | refine Below.drewN ?_ _ | refine below_alloc ?_ _ | refine below_blk' ?_ (by omega) _)) hb13
          clear hb13
          try clear gqd lqd nqd mqd
          obtain ⟨gqd, lqd, nqd, mqd⟩ := kqd
          try clear gqe lqe nqe mqe
          obtain ⟨gqe, lqe, nqe, mqe⟩ := kqe
          try clear gqf lqf nqf mqf
          obtain ⟨gqf, lqf, nqf, mqf⟩ := kqf
          clear b12
          go_upto_region 13 with (fail)
          obtain ⟨qg, hqg⟩ : ∃ b, w13.heap.size = b := ⟨_, rfl⟩
          have wqg : W.heap.size ≤ qg := by rw [← hqg]; exact b13.out.size
          have eqdqg : (qd = qg) = False := by rw [← hqg]; exact nqd
          have eqgqd : (qg = qd) = False := by rw [← hqg]; exact mqd
          have eqeqg : (qe = qg) = False := by rw [← hqg]; exact nqe
          have eqgqe : (qg = qe) = False := by rw [← hqg]; exact mqe
          have eqfqg : (qf = qg) = False := by rw [← hqg]; exact nqf
          have eqgqf : (qg = qf) = False := by rw [← hqg]; exact mqf
          obtain ⟨w14, hw14⟩ : ∃ w14, w13.alloc (.cells (quad le) 59) = w14 := ⟨_, rfl⟩
          have kqd := kept (show hget w14 (qd) = some (.cells (quad a) 59 (0, 0)) by rw [← hw14]; clear hw14; go_simp)
          have kqe := kept (show hget w14 (qe) = some (.cells (quad b) 59 (0, 0)) by rw [← hw14]; clear hw14; go_simp)
          have kqf := kept (show hget w14 (qf) = some (.cells (quad 1) 59 (0, 0)) by rw [← hw14]; clear hw14; go_simp)
          have kqg := kept (show hget w14 (w13.heap.size) = some (.cells (quad le) 59) by rw [← hw14]; clear hw14; go_simp)
          have b14 : Hid (Below W.heap.size W w14) := by rw [← hw14]; repeat (first | exact Below.refl _ _ | exact below_new _ | exact b13.out | assumption | refine Below.drew ?_ | refine Below.drewN ?_ _ | refine below_alloc ?_ _ | refine below_blk' ?_ (by omega) _)
          rw [hw14]
          clear hw14
          try clear gqd lqd nqd mqd
          try clear jqd
          have jqd := kqd.later
          obtain ⟨gqd, lqd, nqd, mqd⟩ := kqd
          try clear gqe lqe nqe mqe
          try clear jqe
          have jqe := kqe.later
          obtain ⟨gqe, lqe, nqe, mqe⟩ := kqe
          try clear gqf lqf nqf mqf
          try clear jqf
          have jqf := kqf.later
          obtain ⟨gqf, lqf, nqf, mqf⟩ := kqf
          try clear gqg lqg nqg mqg
          try clear jqg
          have jqg := kqg.later
          obtain ⟨gqg, lqg, nqg, mqg⟩ := kqg
          clear b13
          rw [hqg] at *
          clear hqg
          go_upto_region 14 with (fail)
          obtain ⟨qh, hqh⟩ : ∃ b, w14.heap.size = b := ⟨_, rfl⟩
          have wqh : W.heap.size ≤ qh := by rw [← hqh]; exact b14.out.size
          have eqdqh : (qd = qh) = False := by rw [← hqh]; exact nqd
          have eqhqd : (qh = qd) = False := by rw [← hqh]; exact mqd
          have eqeqh : (qe = qh) = False := by rw [← hqh]; exact nqe
          have eqhqe : (qh = qe) = False := by rw [← hqh]; exact mqe
          have eqfqh : (qf = qh) = False := by rw [← hqh]; exact nqf
          have eqhqf : (qh = qf) = False := by rw [← hqh]; exact mqf
          have eqgqh : (qg = qh) = False := by rw [← hqh]; exact nqg
          have eqhqg : (qh = qg) = False := by rw [← hqh]; exact mqg
          obtain ⟨w15, hw15⟩ : ∃ w15, w14.alloc (.cells (quad 0) 59) = w15 := ⟨_, rfl⟩
          have kqd := kept (show hget w15 (qd) = some (.cells (quad a) 59 (0, 0)) by rw [← hw15]; clear hw15; go_simp)
          have kqe := kept (show hget w15 (qe) = some (.cells (quad b) 59 (0, 0)) by rw [← hw15]; clear hw15; go_simp)
          have kqf := kept (show hget w15 (qf) = some (.cells (quad 1) 59 (0, 0)) by rw [← hw15]; clear hw15; go_simp)
          have kqg := kept (show hget w15 (qg) = some (.cells (quad le) 59 (0, 0)) by rw [← hw15]; clear hw15; go_simp)
          have kqh := kept (show hget w15 (w14.heap.size) = some (.cells (quad 0) 59) by rw [← hw15]; clear hw15; go_simp)
          have b15 : Hid (Below W.heap.size W w15) := by rw [← hw15]; repeat (first | exact Below.refl _ _ | exact below_new _ | exact b14.out | assumption | refine Below.drew ?_ | refine Below.drewN ?_ _ | refine below_alloc ?_ _ | refine below_blk' ?_ (by omega) _)
          rw [hw15]
          clear hw15
          try clear gqd lqd nqd mqd
          try clear jqd
          have jqd := kqd.later
          obtain ⟨gqd, lqd, nqd, mqd⟩ := kqd
          try clear gqe lqe nqe mqe
          try clear jqe
          have jqe := kqe.later
          obtain ⟨gqe, lqe, nqe, mqe⟩ := kqe
          try clear gqf lqf nqf mqf
          try clear jqf
          have jqf := kqf.later
          obtain ⟨gqf, lqf, nqf, mqf⟩ := kqf
          try clear gqg lqg nqg mqg
          try clear jqg
          have jqg := kqg.later
          obtain ⟨gqg, lqg, nqg, mqg⟩ := kqg
          try clear gqh lqh nqh mqh
          try clear jqh
          have jqh := kqh.later
          obtain ⟨gqh, lqh, nqh, mqh⟩ := kqh
          clear b14
          rw [hqh] at *
          clear hqh
          go_wp2_with fail
          try clear jqd jqe jqf jqg jqh
          refine (HB.out _).mono ?_
          rintro e w16 ⟨rfl, hb16⟩
          have kqd := Kept.on (kept (b := qd) (o := .cells (quad a) 59 (0, 0)) (by go_simp)) hb16
          have kqe := Kept.on (kept (b := qe) (o := .cells (quad b) 59 (0, 0)) (by go_simp)) hb16
          have kqf := Kept.on (kept (b := qf) (o := .cells (quad 1) 59 (0, 0)) (by go_simp)) hb16
          have kqg := Kept.on (kept (b := qg) (o := .cells (quad le) 59 (0, 0)) (by go_simp)) hb16
          have kqh := Kept.on (kept (b := qh) (o := .cells (quad 0) 59 (0, 0)) (by go_simp)) hb16
          have b16 : Hid (Below W.heap.size W w16) := below_to (by repeat (first | exact Below.refl _ _ | exact below_new _ | exact b15.out | assumption | refine Below.drew ?_ | refine Below.drewN ?_ _ | refine below_alloc ?_ _ | refine below_blk' ?_ (by omega) _)) hb16
          clear hb16
          try clear gqd lqd nqd mqd
          obtain ⟨gqd, lqd, nqd, mqd⟩ := kqd
          try clear gqe lqe nqe mqe
          obtain ⟨gqe, lqe, nqe, mqe⟩ := kqe
          try clear gqf lqf nqf mqf
          obtain ⟨gqf, lqf, nqf, mqf⟩ := kqf
          try clear gqg lqg nqg mqg
          obtain ⟨gqg, lqg, nqg, mqg⟩ := kqg
          try clear gqh lqh nqh mqh
          obtain ⟨gqh, lqh, nqh, mqh⟩ := kqh
          clear b15
          go_upto_region 15 with (fail)
          obtain ⟨qi, hqi⟩ : ∃ b, w16.heap.size = b := ⟨_, rfl⟩
          have wqi : W.heap.size ≤ qi := by rw [← hqi]; exact b16.out.size
          have eqdqi : (qd = qi) = False := by rw [← hqi]; exact nqd
          have eqiqd : (qi = qd) = False := by rw [← hqi]; exact mqd
          have eqeqi : (qe = qi) = False := by rw [← hqi]; exact nqe
          have eqiqe : (qi = qe) = False := by rw [← hqi]; exact mqe
          have eqfqi : (qf = qi) = False := by rw [← hqi]; exact nqf
          have eqiqf : (qi = qf) = False := by rw [← hqi]; exact mqf
          have eqgqi : (qg = qi) = False := by rw [← hqi]; exact nqg
          have eqiqg : (qi = qg) = False := by rw [← hqi]; exact mqg
          have eqhqi : (qh = qi) = False := by rw [← hqi]; exact nqh
          have eqiqh : (qi = qh) = False := by rw [← hqi]; exact mqh
          obtain ⟨w17, hw17⟩ : ∃ w17, w16.alloc (.cells (pt B.x B.y B.z B.t true) 42) = w17 := ⟨_, rfl⟩
          have kqd := kept (show hget w17 (qd) = some (.cells (quad a) 59 (0, 0)) by rw [← hw17]; clear hw17; go_simp)
          have kqe := kept (show hget w17 (qe) = some (.cells (quad b) 59 (0, 0)) by rw [← hw17]; clear hw17; go_simp)
          have kqf := kept (show hget w17 (qf) = some (.cells (quad 1) 59 (0, 0)) by rw [← hw17]; clear hw17; go_simp)
          have kqg := kept (show hget w17 (qg) = some (.cells (quad le) 59 (0, 0)) by rw [← hw17]; clear hw17; go_simp)
          have kqh := kept (show hget w17 (qh) = some (.cells (quad 0) 59 (0, 0)) by rw [← hw17]; clear hw17; go_simp)
          have kqi := kept (show hget w17 (w16.heap.size) = some (.cells (pt B.x B.y B.z B.t true) 42) by rw [← hw17]; clear hw17; go_simp)
          have b17 : Hid (Below W.heap.size W w17) := by rw [← hw17]; repeat (first | exact Below.refl _ _ | exact below_new _ | exact b16.out | assumption | refine Below.drew ?_ | refine Below.drewN ?_ _ | refine below_alloc ?_ _ | refine below_blk' ?_ (by omega) _)
          rw [hw17]
          clear hw17
          try clear gqd lqd nqd mqd
          try clear jqd
          have jqd := kqd.later
          obtain ⟨gqd, lqd, nqd, mqd⟩ := kqd
          try clear gqe lqe nqe mqe
          try clear jqe
          have jqe := kqe.later
          obtain ⟨gqe, lqe, nqe, mqe⟩ := kqe
          try clear gqf lqf nqf mqf
          try clear jqf
          have jqf := kqf.later
          obtain ⟨gqf, lqf, nqf, mqf⟩ := kqf
          try clear gqg lqg nqg mqg
          try clear jqg
          have jqg := kqg.later
          obtain ⟨gqg, lqg, nqg, mqg⟩ := kqg
          try clear gqh lqh nqh mqh
          try clear jqh
          have jqh := kqh.later
          obtain ⟨gqh, lqh, nqh, mqh⟩ := kqh
          try clear gqi lqi nqi mqi
          try clear jqi
          have jqi := kqi.later
          obtain ⟨gqi, lqi, nqi, mqi⟩ := kqi
          clear b16
          rw [hqi] at *
          clear hqi
          go_wp2_with fail
          try clear jqd jqe jqf jqg jqh jqi
          refine (MX.out _).mono ?_
          rintro e w18 ⟨rfl, hb18⟩
          have kqd := Kept.on (kept (b := qd) (o := .cells (quad a) 59 (0, 0)) (by go_simp)) hb18
          have kqe := Kept.on (kept (b := qe) (o := .cells (quad b) 59 (0, 0)) (by go_simp)) hb18
          have kqf := Kept.on (kept (b := qf) (o := .cells (quad 1) 59 (0, 0)) (by go_simp)) hb18
          have kqg := Kept.on (kept (b := qg) (o := .cells (quad le) 59 (0, 0)) (by go_simp)) hb18
          have kqh := Kept.on (kept (b := qh) (o := .cells (quad 0) 59 (0, 0)) (by go_simp)) hb18
          have kqi := Kept.on (kept (b := qi) (o := .cells (pt B.x B.y B.z B.t true) 42 (0, 0)) (by go_simp)) hb18
          have b18 : Hid (Below W.heap.size W w18) := below_to (by repeat (first | exact Below.refl _ _ | exact below_new _ | exact b17.out | assumption | refine Below.drew ?_ | refine Below.drewN ?_ _ | refine below_alloc ?_ _ | refine below_blk' ?_ (by omega) _)) hb18
          clear hb18
          try clear gqd lqd nqd mqd
          obtain ⟨gqd, lqd, nqd, mqd⟩ := kqd
          try clear gqe lqe nqe mqe
          obtain ⟨gqe, lqe, nqe, mqe⟩ := kqe
          try clear gqf lqf nqf mqf
          obtain ⟨gqf, lqf, nqf, mqf⟩ := kqf
          try clear gqg lqg nqg mqg
          obtain ⟨gqg, lqg, nqg, mqg⟩ := kqg
          try clear gqh lqh nqh mqh
          obtain ⟨gqh, lqh, nqh, mqh⟩ := kqh
          try clear gqi lqi nqi mqi
          obtain ⟨gqi, lqi, nqi, mqi⟩ := kqi
          clear b17
          go_upto_region 16 with (fail)
          obtain ⟨qj, hqj⟩ : ∃ b, w18.heap.size = b := ⟨_, rfl⟩
          have wqj : W.heap.size ≤ qj := by rw [← hqj]; exact b18.out.size
          have eqdqj : (qd = qj) = False := by rw [← hqj]; exact nqd
          have eqjqd : (qj = qd) = False := by rw [← hqj]; exact mqd
          have eqeqj : (qe = qj) = False := by rw [← hqj]; exact nqe
          have eqjqe : (qj = qe) = False := by rw [← hqj]; exact mqe
          have eqfqj : (qf = qj) = False := by rw [← hqj]; exact nqf
          have eqjqf : (qj = qf) = False := by rw [← hqj]; exact mqf
          have eqgqj : (qg = qj) = False := by rw [← hqj]; exact nqg
          have eqjqg : (qj = qg) = False := by rw [← hqj]; exact mqg
          have eqhqj : (qh = qj) = False := by rw [← hqj]; exact nqh
          have eqjqh : (qj = qh) = False := by rw [← hqj]; exact mqh
          have eqiqj : (qi = qj) = False := by rw [← hqj]; exact nqi
          have eqjqi : (qj = qi) = False := by rw [← hqj]; exact mqi
          obtain ⟨w19, hw19⟩ : ∃ w19, w18.alloc (.cells (pt X.x X.y X.z X.t true) 42) = w19 := ⟨_, rfl⟩
          have kqd := kept (show hget w19 (qd) = some (.cells (quad a) 59 (0, 0)) by rw [← hw19]; clear hw19; go_simp)
          have kqe := kept (show hget w19 (qe) = some (.cells (quad b) 59 (0, 0)) by rw [← hw19]; clear hw19; go_simp)
          have kqf := kept (show hget w19 (qf) = some (.cells (quad 1) 59 (0, 0)) by rw [← hw19]; clear hw19; go_simp)
          have kqg := kept (show hget w19 (qg) = some (.cells (quad le) 59 (0, 0)) by rw [← hw19]; clear hw19; go_simp)
          have kqh := kept (show hget w19 (qh) = some (.cells (quad 0) 59 (0, 0)) by rw [← hw19]; clear hw19; go_simp)
          have kqi := kept (show hget w19 (qi) = some (.cells (pt B.x B.y B.z B.t true) 42 (0, 0)) by rw [← hw19]; clear hw19; go_simp)
          have kqj := kept (show hget w19 (w18.heap.size) = some (.cells (pt X.x X.y X.z X.t true) 42) by rw [← hw19]; clear hw19; go_simp)
          have b19 : Hid (Below W.heap.size W w19) := by rw [← hw19]; repeat (first | exact Below.refl _ _ | exact below_new _ | exact b18.out | assumption | refine Below.drew ?_ | refine Below.drewN ?_ _ | refine below_alloc ?_ _ | refine below_blk' ?_ (by omega) _)
          rw [hw19]
          clear hw19
          try clear gqd lqd nqd mqd
          try clear jqd
          have jqd := kqd.later
          obtain ⟨gqd, lqd, nqd, mqd⟩ := kqd
          try clear gqe lqe nqe mqe
          try clear jqe
          have jqe := kqe.later
          obtain ⟨gqe, lqe, nqe, mqe⟩ := kqe
          try clear gqf lqf nqf mqf
          try clear jqf
          have jqf := kqf.later
          obtain ⟨gqf, lqf, nqf, mqf⟩ := kqf
          try clear gqg lqg nqg mqg
          try clear jqg
          have jqg := kqg.later
          obtain ⟨gqg, lqg, nqg, mqg⟩ := kqg
          try clear gqh lqh nqh mqh
          try clear jqh
          have jqh := kqh.later
          obtain ⟨gqh, lqh, nqh, mqh⟩ := kqh
          try clear gqi lqi nqi mqi
          try clear jqi
          have jqi := kqi.later
          obtain ⟨gqi, lqi, nqi, mqi⟩ := kqi
          try clear gqj lqj nqj mqj
          try clear jqj
          have jqj := kqj.later
          obtain ⟨gqj, lqj, nqj, mqj⟩ := kqj
          clear b18
          rw [hqj] at *
          clear hqj
          go_wp2_with fail
          try clear jqd jqe jqf jqg jqh jqi jqj
          refine (MY.out _).mono ?_
          rintro e w20 ⟨rfl, hb20⟩
          have kqd := Kept.on (kept (b := qd) (o := .cells (quad a) 59 (0, 0)) (by go_simp)) hb20
          have kqe := Kept.on (kept (b := qe) (o := .cells (quad b) 59 (0, 0)) (by go_simp)) hb20
          have kqf := Kept.on (kept (b := qf) (o := .cells (quad 1) 59 (0, 0)) (by go_simp)) hb20
          have kqg := Kept.on (kept (b := qg) (o := .cells (quad le) 59 (0, 0)) (by go_simp)) hb20
          have kqh := Kept.on (kept (b := qh) (o := .cells (quad 0) 59 (0, 0)) (by go_simp)) hb20
          have kqi := Kept.on (kept (b := qi) (o := .cells (pt B.x B.y B.z B.t true) 42 (0, 0)) (by go_simp)) hb20
          have kqj := Kept.on (kept (b := qj) (o := .cells (pt X.x X.y X.z X.t true) 42 (0, 0)) (by go_simp)) hb20
          have b20 : Hid (Below W.heap.size W w20) := below_to (by repeat (first | exact Below.refl _ _ | exact below_new _ | exact b19.out | assumption | refine Below.drew ?_ | refine Below.drewN ?_ _ | refine below_alloc ?_ _ | refine below_blk' ?_ (by omega) _)) hb20
          clear hb20
          try clear gqd lqd nqd mqd
          obtain ⟨gqd, lqd, nqd, mqd⟩ := kqd
          try clear gqe lqe nqe mqe
          obtain ⟨gqe, lqe, nqe, mqe⟩ := kqe
          try clear gqf lqf nqf mqf
          obtain ⟨gqf, lqf, nqf, mqf⟩ := kqf
          try clear gqg lqg nqg mqg
          obtain ⟨gqg, lqg, nqg, mqg⟩ := kqg
          try clear gqh lqh nqh mqh
          obtain ⟨gqh, lqh, nqh, mqh⟩ := kqh
          try clear gqi lqi nqi mqi
          obtain ⟨gqi, lqi, nqi, mqi⟩ := kqi
          try clear gqj lqj nqj mqj
          obtain ⟨gqj, lqj, nqj, mqj⟩ := kqj
          clear b19
          go_upto_region 17 with (fail)
          obtain ⟨qk, hqk⟩ : ∃ b, w20.heap.size = b := ⟨_, rfl⟩
          have wqk : W.heap.size ≤ qk := by rw [← hqk]; exact b20.out.size
          have eqdqk : (qd = qk) = False := by rw [← hqk]; exact nqd
          have eqkqd : (qk = qd) = False := by rw [← hqk]; exact mqd
          have eqeqk : (qe = qk) = False := by rw [← hqk]; exact nqe
          have eqkqe : (qk = qe) = False := by rw [← hqk]; exact mqe
          have eqfqk : (qf = qk) = False := by rw [← hqk]; exact nqf
          have eqkqf : (qk = qf) = False := by rw [← hqk]; exact mqf
          have eqgqk : (qg = qk) = False := by rw [← hqk]; exact nqg
          have eqkqg : (qk = qg) = False := by rw [← hqk]; exact mqg
          have eqhqk : (qh = qk) = False := by rw [← hqk]; exact nqh
          have eqkqh : (qk = qh) = False := by rw [← hqk]; exact mqh
          have eqiqk : (qi = qk) = False := by rw [← hqk]; exact nqi
          have eqkqi : (qk = qi) = False := by rw [← hqk]; exact mqi
          have eqjqk : (qj = qk) = False := by rw [← hqk]; exact nqj
          have eqkqj : (qk = qj) = False := by rw [← hqk]; exact mqj
          obtain ⟨w21, hw21⟩ : ∃ w21, w20.alloc (.cells (pt Y.x Y.y Y.z Y.t true) 42) = w21 := ⟨_, rfl⟩
          have kqd := kept (show hget w21 (qd) = some (.cells (quad a) 59 (0, 0)) by rw [← hw21]; clear hw21; go_simp)
          have kqe := kept (show hget w21 (qe) = some (.cells (quad b) 59 (0, 0)) by rw [← hw21]; clear hw21; go_simp)
          have kqf := kept (show hget w21 (qf) = some (.cells (quad 1) 59 (0, 0)) by rw [← hw21]; clear hw21; go_simp)
          have kqg := kept (show hget w21 (qg) = some (.cells (quad le) 59 (0, 0)) by rw [← hw21]; clear hw21; go_simp)
          have kqh := kept (show hget w21 (qh) = some (.cells (quad 0) 59 (0, 0)) by rw [← hw21]; clear hw21; go_simp)
          have kqi := kept (show hget w21 (qi) = some (.cells (pt B.x B.y B.z B.t true) 42 (0, 0)) by rw [← hw21]; clear hw21; go_simp)
          have kqj := kept (show hget w21 (qj) = some (.cells (pt X.x X.y X.z X.t true) 42 (0, 0)) by rw [← hw21]; clear hw21; go_simp)
          have kqk := kept (show hget w21 (w20.heap.size) = some (.cells (pt Y.x Y.y Y.z Y.t true) 42) by rw [← hw21]; clear hw21; go_simp)
          have b21 : Hid (Below W.heap.size W w21) := by rw [← hw21]; repeat (first | exact Below.refl _ _ | exact below_new _ | exact b20.out | assumption | refine Below.drew ?_ | refine Below.drewN ?_ _ | refine below_alloc ?_ _ | refine below_blk' ?_ (by omega) _)
          rw [hw21]
          clear hw21
          try clear gqd lqd nqd mqd
          try clear jqd
          have jqd := kqd.later
          obtain ⟨gqd, lqd, nqd, mqd⟩ := kqd
          try clear gqe lqe nqe mqe
          try clear jqe
          have jqe := kqe.later
          obtain ⟨gqe, lqe, nqe, mqe⟩ := kqe
          try clear gqf lqf nqf mqf
          try clear jqf
          have jqf := kqf.later
          obtain ⟨gqf, lqf, nqf, mqf⟩ := kqf
          try clear gqg lqg nqg mqg
          try clear jqg
          have jqg := kqg.later
          obtain ⟨gqg, lqg, nqg, mqg⟩ := kqg
          try clear gqh lqh nqh mqh
          try clear jqh
          have jqh := kqh.later
          obtain ⟨gqh, lqh, nqh, mqh⟩ := kqh
          try clear gqi lqi nqi mqi
          try clear jqi
          have jqi := kqi.later
          obtain ⟨gqi, lqi, nqi, mqi⟩ := kqi
          try clear gqj lqj nqj mqj
          try clear jqj
          have jqj := kqj.later
          obtain ⟨gqj, lqj, nqj, mqj⟩ := kqj
          try clear gqk lqk nqk mqk
          try clear jqk
          have jqk := kqk.later
          obtain ⟨gqk, lqk, nqk, mqk⟩ := kqk
          clear b20
          rw [hqk] at *
          clear hqk
          refine wp_region_later (by kernel_rfl) (by kernel_rfl) ?_
          repeat ((go_big_quiet_step ((first | (go_at_call 27; with_reducible exact calls_later (A1.out _)) | (go_at_call 31; first | with_reducible exact calls_later (M1.out _) | with_reducible exact calls_later (M2.out _) | with_reducible exact calls_later (M3.out _) | with_reducible exact calls_later (M4.out _) | with_reducible exact calls_later (M5.out _)) | (go_at_call 37; first | with_reducible exact calls_later (K1.out _) | with_reducible exact calls_later (K2.out _)) | (go_at_call 24; first | with_reducible exact calls_later (S1.out _) | with_reducible exact calls_later (S2.out _) | with_reducible exact calls_later (S3.out _) | with_reducible exact calls_later (S4.out _)) | (go_at_call 36; with_reducible exact calls_later (Z1.out _)) | (go_at_call 18; with_reducible exact calls_later (L1.out _))))))
          refine wpQuiet_nil ?_
          intro wL hwL
          obtain ⟨⟨w8, hL⟩, e8⟩ := hwL
          change wL = w8 at e8
          subst e8
          have bZ := hid (below_to b21.out hL)
          go_wp2_with fail
          go_ret
          exact ⟨rfl, bZ.out⟩
        · skip
          go_wp2_with fail
          try clear jqd jqe
          refine (L1.out _).mono ?_
          rintro e w11 ⟨rfl, hb11⟩
          have kqd := Kept.on (kept (b := qd) (o := .cells (quad a) 59 (0, 0)) (by go_simp)) hb11
          have kqe := Kept.on (kept (b := qe) (o := .cells (quad b) 59 (0, 0)) (by go_simp)) hb11
          have b11 : Hid (Below W.heap.size W w11) := below_to (by repeat (first | exact Below.refl _ _ | exact below_new _ | exact b10.out | assumption | refine Below.drew ?_ | refine Below.drewN ?_ _ | refine below_alloc ?_ _ | refine below_blk' ?_ (by omega) _)) hb11
          clear hb11
          try clear gqd lqd nqd mqd
          obtain ⟨gqd, lqd, nqd, mqd⟩ := kqd
          try clear gqe lqe nqe mqe
          obtain ⟨gqe, lqe, nqe, mqe⟩ := kqe
          clear b10
          go_wp2_with fail
          go_ret
          exact ⟨rfl, b11.out⟩
      · skip
        go_wp2_with fail
        try clear jqd jqe
        refine (L1.out _).mono ?_
        rintro e w11 ⟨rfl, hb11⟩
        have kqd := Kept.on (kept (b := qd) (o := .cells (quad a) 59 (0, 0)) (by go_simp)) hb11
        have kqe := Kept.on (kept (b := qe) (o := .cells (quad b) 59 (0, 0)) (by go_simp)) hb11
        have b11 : Hid (Below W.heap.size W w11) := below_to (by repeat (first | exact Below.refl _ _ | exact below_new _ | exact b10.out | assumption | refine Below.drew ?_ | refine Below.drewN ?_ _ | refine below_alloc ?_ _ | refine below_blk' ?_ (by omega) _)) hb11
        clear hb11
        try clear gqd lqd nqd mqd
        obtain ⟨gqd, lqd, nqd, mqd⟩ := kqd
        try clear gqe lqe nqe mqe
        obtain ⟨gqe, lqe, nqe, mqe⟩ := kqe
        clear b10
        go_wp2_with fail
        go_ret
        exact ⟨rfl, b11.out⟩
    · have ht3 : t3 = false := by simpa using hno
      subst ht3
      skip
      go_upto_region 7 with (fail)
      go_wp2_with fail
      skip
      refine (O1.out _).mono ?_
      rintro e w7 ⟨rfl, hb7⟩
      have b7 : Hid (Below W.heap.size W w7) := below_to (by repeat (first | exact Below.refl _ _ | exact below_new _ | exact b6.out | assumption | refine Below.drew ?_ | refine Below.drewN ?_ _ | refine below_alloc ?_ _ | refine below_blk' ?_ (by omega) _)) hb7
      clear hb7
      clear b6
      go_upto_region 8 with (fail)
      obtain ⟨qd, hqd⟩ : ∃ b, w7.heap.size = b := ⟨_, rfl⟩
      have wqd : W.heap.size ≤ qd := by rw [← hqd]; exact b7.out.size
      obtain ⟨w8, hw8⟩ : ∃ w8, w7.alloc (.cells (quad a) 59) = w8 := ⟨_, rfl⟩
      have kqd := kept (show hget w8 (w7.heap.size) = some (.cells (quad a) 59) by rw [← hw8]; clear hw8; go_simp)
      have b8 : Hid (Below W.heap.size W w8) := by rw [← hw8]; repeat (first | exact Below.refl _ _ | exact below_new _ | exact b7.out | assumption | refine Below.drew ?_ | refine Below.drewN ?_ _ | refine below_alloc ?_ _ | refine below_blk' ?_ (by omega) _)
      rw [hw8]
      clear hw8
      try clear gqd lqd nqd mqd
      try clear jqd
      have jqd := kqd.later
      obtain ⟨gqd, lqd, nqd, mqd⟩ := kqd
      clear b7
      rw [hqd] at *
      clear hqd
      go_wp2_with fail
      try clear jqd
      refine (O2.out _).mono ?_
      rintro e w9 ⟨rfl, hb9⟩
      have kqd := Kept.on (kept (b := qd) (o := .cells (quad a) 59 (0, 0)) (by go_simp)) hb9
      have b9 : Hid (Below W.heap.size W w9) := below_to (by repeat (first | exact Below.refl _ _ | exact below_new _ | exact b8.out | assumption | refine Below.drew ?_ | refine Below.drewN ?_ _ | refine below_alloc ?_ _ | refine below_blk' ?_ (by omega) _)) hb9
      clear hb9
      try clear gqd lqd nqd mqd
      obtain ⟨gqd, lqd, nqd, mqd⟩ := kqd
      clear b8
      go_upto_region 9 with (fail)
      obtain ⟨qe, hqe⟩ : ∃ b, w9.heap.size = b := ⟨_, rfl⟩
      have wqe : W.heap.size ≤ qe := by rw [← hqe]; exact b9.out.size
      have eqdqe : (qd = qe) = False := by rw [← hqe]; exact nqd
      have eqeqd : (qe = qd) = False := by rw [← hqe]; exact mqd
      obtain ⟨w10, hw10⟩ : ∃ w10, w9.alloc (.cells (quad b) 59) = w10 := ⟨_, rfl⟩
      have kqd := kept (show hget w10 (qd) = some (.cells (quad a) 59 (0, 0)) by rw [← hw10]; clear hw10; go_simp)
      have kqe := kept (show hget w10 (w9.heap.size) = some (.cells (quad b) 59) by rw [← hw10]; clear hw10; go_simp)
      have b10 : Hid (Below W.heap.size W w10) := by rw [← hw10]; repeat (first | exact Below.refl _ _ | exact below_new _ | exact b9.out | assumption | refine Below.drew ?_ | refine Below.drewN ?_ _ | refine below_alloc ?_ _ | refine below_blk' ?_ (by omega) _)
      rw [hw10]
      clear hw10
      try clear gqd lqd nqd mqd
      try clear jqd
      have jqd := kqd.later
      obtain ⟨gqd, lqd, nqd, mqd⟩ := kqd
      try clear gqe lqe nqe mqe
      try clear jqe
      have jqe := kqe.later
      obtain ⟨gqe, lqe, nqe, mqe⟩ := kqe
      clear b9
      rw [hqe] at *
      clear hqe
      obtain ⟨t4, ht4⟩ : ∃ t, (c4 != 0) = t := ⟨_, rfl⟩
      obtain ⟨t5, ht5⟩ : ∃ t, (c5 != 0) = t := ⟨_, rfl⟩
      skip
      cases t4
      · cases t5
        · go_upto_region 11 with (fail)
          go_wp2_with fail
          rw [zero_eq31]
          try clear jqd jqe
          refine (OO.out _).mono ?_
          rintro e w11 ⟨rfl, hb11⟩
          have kqd := Kept.on (kept (b := qd) (o := .cells (quad a) 59 (0, 0)) (by go_simp)) hb11
          have kqe := Kept.on (kept (b := qe) (o := .cells (quad b) 59 (0, 0)) (by go_simp)) hb11
          have b11 : Hid (Below W.heap.size W w11) := below_to (by repeat (first | exact Below.refl _ _ | exact below_new _ | exact b10.out | assumption | refine Below.drew ?_ | refine Below.drewN ?_ _ | refine below_alloc ?_ _ | refine below_blk' ?_ (by omega) _)) hb11
          clear hb11
          try clear gqd lqd nqd mqd
          obtain ⟨gqd, lqd, nqd, mqd⟩ := kqd
          try clear gqe lqe nqe mqe
          obtain ⟨gqe, lqe, nqe, mqe⟩ := kqe
          clear b10
          go_upto_region 12 with (fail)
          obtain ⟨qf, hqf⟩ : ∃ b, w11.heap.size = b := ⟨_, rfl⟩
          have wqf : W.heap.size ≤ qf := by rw [← hqf]; exact b11.out.size
          have eqdqf : (qd = qf) = False := by rw [← hqf]; exact nqd
          have eqfqd : (qf = qd) = False := by rw [← hqf]; exact mqd
          have eqeqf : (qe = qf) = False := by rw [← hqf]; exact nqe
          have eqfqe : (qf = qe) = False := by rw [← hqf]; exact mqe
          obtain ⟨w12, hw12⟩ : ∃ w12, w11.alloc (.cells (quad 1) 59) = w12 := ⟨_, rfl⟩
          have kqd := kept (show hget w12 (qd) = some (.cells (quad a) 59 (0, 0)) by rw [← hw12]; clear hw12; go_simp)
          have kqe := kept (show hget w12 (qe) = some (.cells (quad b) 59 (0, 0)) by rw [← hw12]; clear hw12; go_simp)
          have kqf := kept (show hget w12 (w11.heap.size) = some (.cells (quad 1) 59) by rw [← hw12]; clear hw12; go_simp)
          have b12 : Hid (Below W.heap.size W w12) := by rw [← hw12]; repeat (first | exact Below.refl _ _ | exact below_new _ | exact b11.out | assumption | refine Below.drew ?_ | refine Below.drewN ?_ _ | refine below_alloc ?_ _ | refine below_blk' ?_ (by omega) _)
          rw [hw12]
          clear hw12
          try clear gqd lqd nqd mqd
          try clear jqd
          have jqd := kqd.later
          obtain ⟨gqd, lqd, nqd, mqd⟩ := kqd
          try clear gqe lqe nqe mqe
          try clear jqe
          have jqe := kqe.later
          obtain ⟨gqe, lqe, nqe, mqe⟩ := kqe
          try clear gqf lqf nqf mqf
          try clear jqf
          have jqf := kqf.later
          obtain ⟨gqf, lqf, nqf, mqf⟩ := kqf
          clear b11
          rw [hqf] at *
          clear hqf
          go_wp2_with fail
          rw [zero_eq15]
          try clear jqd jqe jqf
          refine (OL.out _).mono ?_
          rintro e w13 ⟨rfl, hb13⟩
          have kqd := Kept.on (kept (b := qd) (o := .cells (quad a) 59 (0, 0)) (by go_simp)) hb13
          have kqe := Kept.on (kept (b := qe) (o := .cells (quad b) 59 (0, 0)) (by go_simp)) hb13
          have kqf := Kept.on (kept (b := qf) (o := .cells (quad 1) 59 (0, 0)) (by go_simp)) hb13
          have b13 : Hid (Below W.heap.size W w13) := below_to (by repeat (first | exact Below.refl _ _ | exact below_new _ | exact b12.out | assumption | refine Below.drew ?_ | refine Below.drewN ?_ _ | refine below_alloc ?_ _ | refine below_blk' ?_ (by omega) _)) hb13
          clear hb13
          try clear gqd lqd nqd mqd
          obtain ⟨gqd, lqd, nqd, mqd⟩ := kqd
          try clear gqe lqe nqe mqe
          obtain ⟨gqe, lqe, nqe, mqe⟩ := kqe
          try clear gqf lqf nqf mqf
          obtain ⟨gqf, lqf, nqf, mqf⟩ := kqf
          clear b12
          go_upto_region 13 with (fail)
          obtain ⟨qg, hqg⟩ : ∃ b, w13.heap.size = b := ⟨_, rfl⟩
          have wqg : W.heap.size ≤ qg := by rw [← hqg]; exact b13.out.size
          have eqdqg : (qd = qg) = False := by rw [← hqg]; exact nqd
          have eqgqd : (qg = qd) = False := by rw [← hqg]; exact mqd
          have eqeqg : (qe = qg) = False := by rw [← hqg]; exact nqe
          have eqgqe : (qg = qe) = False := by rw [← hqg]; exact mqe
          have eqfqg : (qf = qg) = False := by rw [← hqg]; exact nqf
          have eqgqf : (qg = qf) = False := by rw [← hqg]; exact mqf
          obtain ⟨w14, hw14⟩ : ∃ w14, w13.alloc (.cells (quad le) 59) = w14 := ⟨_, rfl⟩
          have kqd := kept (show hget w14 (qd) = some (.cells (quad a) 59 (0, 0)) by rw [← hw14]; clear hw14; go_simp)
          have kqe := kept (show hget w14 (qe) = some (.cells (quad b) 59 (0, 0)) by rw [← hw14]; clear hw14; go_simp)
          have kqf := kept (show hget w14 (qf) = some (.cells (quad 1) 59 (0, 0)) by rw [← hw14]; clear hw14; go_simp)
          have kqg := kept (show hget w14 (w13.heap.size) = some (.cells (quad le) 59) by rw [← hw14]; clear hw14; go_simp)
          have b14 : Hid (Below W.heap.size W w14) := by rw [← hw14]; repeat (first | exact Below.refl _ _ | exact below_new _ | exact b13.out | assumption | refine Below.drew ?_ | refine Below.drewN ?_ _ | refine below_alloc ?_ _ | refine below_blk' ?_ (by omega) _)
          rw [hw14]
          clear hw14
          try clear gqd lqd nqd mqd
          try clear jqd
          have jqd := kqd.later
          obtain ⟨gqd, lqd, nqd, mqd⟩ := kqd
          try clear gqe lqe nqe mqe
          try clear jqe
          have jqe := kqe.later
          obtain ⟨gqe, lqe, nqe, mqe⟩ := kqe
          try clear gqf lqf nqf mqf
          try clear jqf
          have jqf := kqf.later
          obtain ⟨gqf, lqf, nqf, mqf⟩ := kqf
          try clear gqg lqg nqg mqg
          try clear jqg
          have jqg := kqg.later
          obtain ⟨gqg, lqg, nqg, mqg⟩ := kqg
          clear b13
          rw [hqg] at *
          clear hqg
          go_upto_region 14 with (fail)
          obtain ⟨qh, hqh⟩ : ∃ b, w14.heap.size = b := ⟨_, rfl⟩
          have wqh : W.heap.size ≤ qh := by rw [← hqh]; exact b14.out.size
          have eqdqh : (qd = qh) = False := by rw [← hqh]; exact nqd
          have eqhqd : (qh = qd) = False := by rw [← hqh]; exact mqd
          have eqeqh : (qe = qh) = False := by rw [← hqh]; exact nqe
          have eqhqe : (qh = qe) = False := by rw [← hqh]; exact mqe
          have eqfqh : (qf = qh) = False := by rw [← hqh]; exact nqf
          have eqhqf : (qh = qf) = False := by rw [← hqh]; exact mqf
          have eqgqh : (qg = qh) = False := by rw [← hqh]; exact nqg
          have eqhqg : (qh = qg) = False := by rw [← hqh]; exact mqg
          obtain ⟨w15, hw15⟩ : ∃ w15, w14.alloc (.cells (quad 0) 59) = w15 := ⟨_, rfl⟩
          have kqd := kept (show hget w15 (qd) = some (.cells (quad a) 59 (0, 0)) by rw [← hw15]; clear hw15; go_simp)
          have kqe := kept (show hget w15 (qe) = some (.cells (quad b) 59 (0, 0)) by rw [← hw15]; clear hw15; go_simp)
          have kqf := kept (show hget w15 (qf) = some (.cells (quad 1) 59 (0, 0)) by rw [← hw15]; clear hw15; go_simp)
          have kqg := kept (show hget w15 (qg) = some (.cells (quad le) 59 (0, 0)) by rw [← hw15]; clear hw15; go_simp)
          have kqh := kept (show hget w15 (w14.heap.size) = some (.cells (quad 0) 59) by rw [← hw15]; clear hw15; go_simp)
          have b15 : Hid (Below W.heap.size W w15) := by rw [← hw15]; repeat (first | exact Below.refl _ _ | exact below_new _ | exact b14.out | assumption | refine Below.drew ?_ | refine Below.drewN ?_ _ | refine below_alloc ?_ _ | refine below_blk' ?_ (by omega) _)
          rw [hw15]
          clear hw15
          try clear gqd lqd nqd mqd
          try clear jqd
          have jqd := kqd.later
          obtain ⟨gqd, lqd, nqd, mqd⟩ := kqd
          try clear gqe lqe nqe mqe
          try clear jqe
          have jqe := kqe.later
          obtain ⟨gqe, lqe, nqe, mqe⟩ := kqe
          try clear gqf lqf nqf mqf
          try clear jqf
          have jqf := kqf.later
          obtain ⟨gqf, lqf, nqf, mqf⟩ := kqf
          try clear gqg lqg nqg mqg
          try clear jqg
          have jqg := kqg.later
          obtain ⟨gqg, lqg, nqg, mqg⟩ := kqg
          try clear gqh lqh nqh mqh
          try clear jqh
          have jqh := kqh.later
          obtain ⟨gqh, lqh, nqh, mqh⟩ := kqh
          clear b14
          rw [hqh] at *
          clear hqh
          go_wp2_with fail
          try clear jqd jqe jqf jqg jqh
          refine (HB.out _).mono ?_
          rintro e w16 ⟨rfl, hb16⟩
          have kqd := Kept.on (kept (b := qd) (o := .cells (quad a) 59 (0, 0)) (by go_simp)) hb16
          have kqe := Kept.on (kept (b := qe) (o := .cells (quad b) 59 (0, 0)) (by go_simp)) hb16
          have kqf := Kept.on (kept (b := qf) (o := .cells (quad 1) 59 (0, 0)) (by go_simp)) hb16
          have kqg := Kept.on (kept (b := qg) (o := .cells (quad le) 59 (0, 0)) (by go_simp)) hb16
          have kqh := Kept.on (kept (b := qh) (o := .cells (quad 0) 59 (0, 0)) (by go_simp)) hb16
          have b16 : Hid (Below W.heap.size W w16) := below_to (by repeat (first | exact Below.refl _ _ | exact below_new _ | exact b15.out | assumption | refine Below.drew ?_ | refine Below.drewN ?_ _ | refine below_alloc ?_ _ | refine below_blk' ?_ (by omega) _)) hb16
          clear hb16
          try clear gqd lqd nqd mqd
          obtain ⟨gqd, lqd, nqd, mqd⟩ := kqd
          try clear gqe lqe nqe mqe
          obtain ⟨gqe, lqe, nqe, mqe⟩ := kqe
          try clear gqf lqf nqf mqf
          obtain ⟨gqf, lqf, nqf, mqf⟩ := kqf
          try clear gqg lqg nqg mqg
          obtain ⟨gqg, lqg, nqg, mqg⟩ := kqg
          try clear gqh lqh nqh mqh
          obtain ⟨gqh, lqh, nqh, mqh⟩ := kqh
          clear b15
          go_upto_region 15 with (fail)
          obtain ⟨qi, hqi⟩ : ∃ b, w16.heap.size = b := ⟨_, rfl⟩
          have wqi : W.heap.size ≤ qi := by rw [← hqi]; exact b16.out.size
          have eqdqi : (qd = qi) = False := by rw [← hqi]; exact nqd
          have eqiqd : (qi = qd) = False := by rw [← hqi]; exact mqd
          have eqeqi : (qe = qi) = False := by rw [← hqi]; exact nqe
          have eqiqe : (qi = qe) = False := by rw [← hqi]; exact mqe
          have eqfqi : (qf = qi) = False := by rw [← hqi]; exact nqf
          have eqiqf : (qi = qf) = False := by rw [← hqi]; exact mqf
          have eqgqi : (qg = qi) = False := by rw [← hqi]; exact nqg
          have eqiqg : (qi = qg) = False := by rw [← hqi]; exact mqg
          have eqhqi : (qh = qi) = False := by rw [← hqi]; exact nqh
          have eqiqh : (qi = qh) = False := by rw [← hqi]; exact mqh
          obtain ⟨w17, hw17⟩ : ∃ w17, w16.alloc (.cells (pt B.x B.y B.z B.t true) 42) = w17 := ⟨_, rfl⟩
          have kqd := kept (show hget w17 (qd) = some (.cells (quad a) 59 (0, 0)) by rw [← hw17]; clear hw17; go_simp)
          have kqe := kept (show hget w17 (qe) = some (.cells (quad b) 59 (0, 0)) by rw [← hw17]; clear hw17; go_simp)
          have kqf := kept (show hget w17 (qf) = some (.cells (quad 1) 59 (0, 0)) by rw [← hw17]; clear hw17; go_simp)
          have kqg := kept (show hget w17 (qg) = some (.cells (quad le) 59 (0, 0)) by rw [← hw17]; clear hw17; go_simp)
          have kqh := kept (show hget w17 (qh) = some (.cells (quad 0) 59 (0, 0)) by rw [← hw17]; clear hw17; go_simp)
          have kqi := kept (show hget w17 (w16.heap.size) = some (.cells (pt B.x B.y B.z B.t true) 42) by rw [← hw17]; clear hw17; go_simp)
          have b17 : Hid (Below W.heap.size W w17) := by rw [← hw17]; repeat (first | exact Below.refl _ _ | exact below_new _ | exact b16.out | assumption | refine Below.drew ?_ | refine Below.drewN ?_ _ | refine below_alloc ?_ _ | refine below_blk' ?_ (by omega) _)
          rw [hw17]
          clear hw17
          try clear gqd lqd nqd mqd
          try clear jqd
          have jqd := kqd.later
          obtain ⟨gqd, lqd, nqd, mqd⟩ := kqd
          try clear gqe lqe nqe mqe
          try clear jqe
          have jqe := kqe.later
          obtain ⟨gqe, lqe, nqe, mqe⟩ := kqe
          try clear gqf lqf nqf mqf
          try clear jqf
          have jqf := kqf.later
          obtain ⟨gqf, lqf, nqf, mqf⟩ := kqf
          try clear gqg lqg nqg mqg
          try clear jqg
          have jqg := kqg.later
          obtain ⟨gqg, lqg, nqg, mqg⟩ := kqg
          try clear gqh lqh nqh mqh
          try clear jqh
          have jqh := kqh.later
          obtain ⟨gqh, lqh, nqh, mqh⟩ := kqh
          try clear gqi lqi nqi mqi
          try clear jqi
          have jqi := kqi.later
          obtain ⟨gqi, lqi, nqi, mqi⟩ := kqi
          clear b16
          rw [hqi] at *
          clear hqi
          go_wp2_with fail
          try clear jqd jqe jqf jqg jqh jqi
          refine (MX.out _).mono ?_
          rintro e w18 ⟨rfl, hb18⟩
          have kqd := Kept.on (kept (b := qd) (o := .cells (quad a) 59 (0, 0)) (by go_simp)) hb18
          have kqe := Kept.on (kept (b := qe) (o := .cells (quad b) 59 (0, 0)) (by go_simp)) hb18
          have kqf := Kept.on (kept (b := qf) (o := .cells (quad 1) 59 (0, 0)) (by go_simp)) hb18
          have kqg := Kept.on (kept (b := qg) (o := .cells (quad le) 59 (0, 0)) (by go_simp)) hb18
          have kqh := Kept.on (kept (b := qh) (o := .cells (quad 0) 59 (0, 0)) (by go_simp)) hb18
          have kqi := Kept.on (kept (b := qi) (o := .cells (pt B.x B.y B.z B.t true) 42 (0, 0)) (by go_simp)) hb18
          have b18 : Hid (Below W.heap.size W w18) := below_to (by repeat (first | exact Below.refl _ _ | exact below_new _ | exact b17.out | assumption | refine Below.drew ?_ | refine Below.drewN ?_ _ | refine below_alloc ?_ _ | refine below_blk' ?_ (by omega) _)) hb18
          clear hb18
          try clear gqd lqd nqd mqd
          obtain ⟨gqd, lqd, nqd, mqd⟩ := kqd
          try clear gqe lqe nqe mqe
          obtain ⟨gqe, lqe, nqe, mqe⟩ := kqe
          try clear gqf lqf nqf mqf
          obtain ⟨gqf, lqf, nqf, mqf⟩ := kqf
          try clear gqg lqg nqg mqg
          obtain ⟨gqg, lqg, nqg, mqg⟩ := kqg
          try clear gqh lqh nqh mqh
          obtain ⟨gqh, lqh, nqh, mqh⟩ := kqh
          try clear gqi lqi nqi mqi
          obtain ⟨gqi, lqi, nqi, mqi⟩ := kqi
          clear b17
          go_upto_region 16 with (fail)
          obtain ⟨qj, hqj⟩ : ∃ b, w18.heap.size = b := ⟨_, rfl⟩
          have wqj : W.heap.size ≤ qj := by rw [← hqj]; exact b18.out.size
          have eqdqj : (qd = qj) = False := by rw [← hqj]; exact nqd
          have eqjqd : (qj = qd) = False := by rw [← hqj]; exact mqd
          have eqeqj : (qe = qj) = False := by rw [← hqj]; exact nqe
          have eqjqe : (qj = qe) = False := by rw [← hqj]; exact mqe
          have eqfqj : (qf = qj) = False := by rw [← hqj]; exact nqf
          have eqjqf : (qj = qf) = False := by rw [← hqj]; exact mqf
          have eqgqj : (qg = qj) = False := by rw [← hqj]; exact nqg
          have eqjqg : (qj = qg) = False := by rw [← hqj]; exact mqg
          have eqhqj : (qh = qj) = False := by rw [← hqj]; exact nqh
          have eqjqh : (qj = qh) = False := by rw [← hqj]; exact mqh
          have eqiqj : (qi = qj) = False := by rw [← hqj]; exact nqi
          have eqjqi : (qj = qi) = False := by rw [← hqj]; exact mqi
          obtain ⟨w19, hw19⟩ : ∃ w19, w18.alloc (.cells (pt X.x X.y X.z X.t true) 42) = w19 := ⟨_, rfl⟩
          have kqd := kept (show hget w19 (qd) = some (.cells (quad a) 59 (0, 0)) by rw [← hw19]; clear hw19; go_simp)
          have kqe := kept (show hget w19 (qe) = some (.cells (quad b) 59 (0, 0)) by rw [← hw19]; clear hw19; go_simp)
          have kqf := kept (show hget w19 (qf) = some (.cells (quad 1) 59 (0, 0)) by rw [← hw19]; clear hw19; go_simp)
          have kqg := kept (show hget w19 (qg) = some (.cells (quad le) 59 (0, 0)) by rw [← hw19]; clear hw19; go_simp)
          have kqh := kept (show hget w19 (qh) = some (.cells (quad 0) 59 (0, 0)) by rw [← hw19]; clear hw19; go_simp)
          have kqi := kept (show hget w19 (qi) = some (.cells (pt B.x B.y B.z B.t true) 42 (0, 0)) by rw [← hw19]; clear hw19; go_simp)
          have kqj := kept (show hget w19 (w18.heap.size) = some (.cells (pt X.x X.y X.z X.t true) 42) by rw [← hw19]; clear hw19; go_simp)
          have b19 : Hid (Below W.heap.size W w19) := by rw [← hw19]; repeat (first | exact Below.refl _ _ | exact below_new _ | exact b18.out | assumption | refine Below.drew ?_ | refine Below.drewN ?_ _ | refine below_alloc ?_ _ | refine below_blk' ?_ (by omega) _)
          rw [hw19]
          clear hw19
          try clear gqd lqd nqd mqd
          try clear jqd
          have jqd := kqd.later
          obtain ⟨gqd, lqd, nqd, mqd⟩ := kqd
          try clear gqe lqe nqe mqe
          try clear jqe
          have jqe := kqe.later
          obtain ⟨gqe, lqe, nqe, mqe⟩ := kqe
          try clear gqf lqf nqf mqf
          try clear jqf
          have jqf := kqf.later
          obtain ⟨gqf, lqf, nqf, mqf⟩ := kqf
          try clear gqg lqg nqg mqg
          try clear jqg
          have jqg := kqg.later
          obtain ⟨gqg, lqg, nqg, mqg⟩ := kqg
          try clear gqh lqh nqh mqh
          try clear jqh
          have jqh := kqh.later
          obtain ⟨gqh, lqh, nqh, mqh⟩ := kqh
          try clear gqi lqi nqi mqi
          try clear jqi
          have jqi := kqi.later
          obtain ⟨gqi, lqi, nqi, mqi⟩ := kqi
          try clear gqj lqj nqj mqj
          try clear jqj
          have jqj := kqj.later
          obtain ⟨gqj, lqj, nqj, mqj⟩ := kqj
          clear b18
          rw [hqj] at *
          clear hqj
          go_wp2_with fail
          try clear jqd jqe jqf jqg jqh jqi jqj
          refine (MY.out _).mono ?_
          rintro e w20 ⟨rfl, hb20⟩
          have kqd := Kept.on (kept (b := qd) (o := .cells (quad a) 59 (0, 0)) (by go_simp)) hb20
          have kqe := Kept.on (kept (b := qe) (o := .cells (quad b) 59 (0, 0)) (by go_simp)) hb20
          have kqf := Kept.on (kept (b := qf) (o := .cells (quad 1) 59 (0, 0)) (by go_simp)) hb20
          have kqg := Kept.on (kept (b := qg) (o := .cells (quad le) 59 (0, 0)) (by go_simp)) hb20
          have kqh := Kept.on (kept (b := qh) (o := .cells (quad 0) 59 (0, 0)) (by go_simp)) hb20
          have kqi := Kept.on (kept (b := qi) (o := .cells (pt B.x B.y B.z B.t true) 42 (0, 0)) (by go_simp)) hb20
          have kqj := Kept.on (kept (b := qj) (o := .cells (pt X.x X.y X.z X.t true) 42 (0, 0)) (by go_simp)) hb20
          have b20 : Hid (Below W.heap.size W w20) := below_to (by repeat (first | exact Below.refl _ _ | exact below_new _ | exact b19.out | assumption | refine Below.drew ?_ | refine Below.drewN ?_ _ | refine below_alloc ?_ _ | refine below_blk' ?_ (by omega) _)) hb20
          clear hb20
          try clear gqd lqd nqd mqd
          obtain ⟨gqd, lqd, nqd, mqd⟩ := kqd
          try clear gqe lqe nqe mqe
          obtain ⟨gqe, lqe, nqe, mqe⟩ := kqe
          try clear gqf lqf nqf mqf
          obtain ⟨gqf, lqf, nqf, mqf⟩ := kqf
          try clear gqg lqg nqg mqg
          obtain ⟨gqg, lqg, nqg, mqg⟩ := kqg
          try clear gqh lqh nqh mqh
          obtain ⟨gqh, lqh, nqh, mqh⟩ := kqh
          try clear gqi lqi nqi mqi
          obtain ⟨gqi, lqi, nqi, mqi⟩ := kqi
          try clear gqj lqj nqj mqj
          obtain ⟨gqj, lqj, nqj, mqj⟩ := kqj
          clear b19
          go_upto_region 17 with (fail)
          obtain ⟨qk, hqk⟩ : ∃ b, w20.heap.size = b := ⟨_, rfl⟩
          have wqk : W.heap.size ≤ qk := by rw [← hqk]; exact b20.out.size
          have eqdqk : (qd = qk) = False := by rw [← hqk]; exact nqd
          have eqkqd : (qk = qd) = False := by rw [← hqk]; exact mqd
          have eqeqk : (qe = qk) = False := by rw [← hqk]; exact nqe
          have eqkqe : (qk = qe) = False := by rw [← hqk]; exact mqe
          have eqfqk : (qf = qk) = False := by rw [← hqk]; exact nqf
          have eqkqf : (qk = qf) = False := by rw [← hqk]; exact mqf
          have eqgqk : (qg = qk) = False := by rw [← hqk]; exact nqg
          have eqkqg : (qk = qg) = False := by rw [← hqk]; exact mqg
          have eqhqk : (qh = qk) = False := by rw [← hqk]; exact nqh
          have eqkqh : (qk = qh) = False := by rw [← hqk]; exact mqh
          have eqiqk : (qi = qk) = False := by rw [← hqk]; exact nqi
          have eqkqi : (qk = qi) = False := by rw [← hqk]; exact mqi
          have eqjqk : (qj = qk) = False := by rw [← hqk]; exact nqj
          have eqkqj : (qk = qj) = False := by rw [← hqk]; exact mqj
          obtain ⟨w21, hw21⟩ : ∃ w21, w20.alloc (.cells (pt Y.x Y.y Y.z Y.t true) 42) = w21 := ⟨_, rfl⟩
          have kqd := kept (show hget w21 (qd) = some (.cells (quad a) 59 (0, 0)) by rw [← hw21]; clear hw21; go_simp)
          have kqe := kept (show hget w21 (qe) = some (.cells (quad b) 59 (0, 0)) by rw [← hw21]; clear hw21; go_simp)
          have kqf := kept (show hget w21 (qf) = some (.cells (quad 1) 59 (0, 0)) by rw [← hw21]; clear hw21; go_simp)
          have kqg := kept (show hget w21 (qg) = some (.cells (quad le) 59 (0, 0)) by rw [← hw21]; clear hw21; go_simp)
          have kqh := kept (show hget w21 (qh) = some (.cells (quad 0) 59 (0, 0)) by rw [← hw21]; clear hw21; go_simp)
          have kqi := kept (show hget w21 (qi) = some (.cells (pt B.x B.y B.z B.t true) 42 (0, 0)) by rw [← hw21]; clear hw21; go_simp)
          have kqj := kept (show hget w21 (qj) = some (.cells (pt X.x X.y X.z X.t true) 42 (0, 0)) by rw [← hw21]; clear hw21; go_simp)
          have kqk := kept (show hget w21 (w20.heap.size) = some (.cells (pt Y.x Y.y Y.z Y.t true) 42) by rw [← hw21]; clear hw21; go_simp)
          have b21 : Hid (Below W.heap.size W w21) := by rw [← hw21]; repeat (first | exact Below.refl _ _ | exact below_new _ | exact b20.out | assumption | refine Below.drew ?_ | refine Below.drewN ?_ _ | refine below_alloc ?_ _ | refine below_blk' ?_ (by omega) _)
          rw [hw21]
          clear hw21
          try clear gqd lqd nqd mqd
          try clear jqd
          have jqd := kqd.later
          obtain ⟨gqd, lqd, nqd, mqd⟩ := kqd
          try clear gqe lqe nqe mqe
          try clear jqe
          have jqe := kqe.later
          obtain ⟨gqe, lqe, nqe, mqe⟩ := kqe
          try clear gqf lqf nqf mqf
          try clear jqf
          have jqf := kqf.later
          obtain ⟨gqf, lqf, nqf, mqf⟩ := kqf
          try clear gqg lqg nqg mqg
          try clear jqg
          have jqg := kqg.later
          obtain ⟨gqg, lqg, nqg, mqg⟩ := kqg
          try clear gqh lqh nqh mqh
          try clear jqh
          have jqh := kqh.later
          obtain ⟨gqh, lqh, nqh, mqh⟩ := kqh
          try clear gqi lqi nqi mqi
          try clear jqi
          have jqi := kqi.later
          obtain ⟨gqi, lqi, nqi, mqi⟩ := kqi
          try clear gqj lqj nqj mqj
          try clear jqj
          have jqj := kqj.later
          obtain ⟨gqj, lqj, nqj, mqj⟩ := kqj
          try clear gqk lqk nqk mqk
          try clear jqk
          have jqk := kqk.later
          obtain ⟨gqk, lqk, nqk, mqk⟩ := kqk
          clear b20
          rw [hqk] at *
          clear hqk
          refine wp_region_later (by kernel_rfl) (by kernel_rfl) ?_
          repeat ((go_big_quiet_step ((first | (go_at_call 27; with_reducible exact calls_later (A1.out _)) | (go_at_call 31; first | with_reducible exact calls_later (M1.out _) | with_reducible exact calls_later (M2.out _) | with_reducible exact calls_later (M3.out _) | with_reducible exact calls_later (M4.out _) | with_reducible exact calls_later (M5.out _)) | (go_at_call 37; first | with_reducible exact calls_later (K1.out _) | with_reducible exact calls_later (K2.out _)) | (go_at_call 24; first | with_reducible exact calls_later (S1.out _) | with_reducible exact calls_later (S2.out _) | with_reducible exact calls_later (S3.out _) | with_reducible exact calls_later (S4.out _)) | (go_at_call 36; with_reducible exact calls_later (Z1.out _)) | (go_at_call 18; with_reducible exact calls_later (L1.out _))))))
          refine wpQuiet_nil ?_
          intro wL hwL
          obtain ⟨⟨w8, hL⟩, e8⟩ := hwL
          change wL = w8 at e8
          subst e8
          have bZ := hid (below_to b21.out hL)
          go_wp2_with fail
          go_ret
          exact ⟨rfl, bZ.out⟩
        · skip
          go_wp2_with fail
          try clear jqd jqe
          refine (L1.out _).mono ?_
          rintro e w11 ⟨rfl, hb11⟩
          have kqd := Kept.on (kept (b := qd) (o := .cells (quad a) 59 (0, 0)) (by go_simp)) hb11
          have kqe := Kept.on (kept (b := qe) (o := .cells (quad b) 59 (0, 0)) (by go_simp)) hb11
          have b11 : Hid (Below W.heap.size W w11) := below_to (by repeat (first | exact Below.refl _ _ | exact below_new _ | exact b10.out | assumption | refine Below.drew ?_ | refine Below.drewN ?_ _ | refine below_alloc ?_ _ | refine below_blk' ?_ (by omega) _)) hb11
          clear hb11
          try clear gqd lqd nqd mqd
          obtain ⟨gqd, lqd, nqd, mqd⟩ := kqd
          try clear gqe lqe nqe mqe
          obtain ⟨gqe, lqe, nqe, mqe⟩ := kqe
          clear b10
          go_wp2_with fail
          go_ret
          exact ⟨rfl, b11.out⟩
      · skip
        go_wp2_with fail
        try clear jqd jqe
        refine (L1.out _).mono ?_
        rintro e w11 ⟨rfl, hb11⟩
        have kqd := Kept.on (kept (b := qd) (o := .cells (quad a) 59 (0, 0)) (by go_simp)) hb11
        have kqe := Kept.on (kept (b := qe) (o := .cells (quad b) 59 (0, 0)) (by go_simp)) hb11
        have b11 : Hid (Below W.heap.size W w11) := below_to (by repeat (first | exact Below.refl _ _ | exact below_new _ | exact b10.out | assumption | refine Below.drew ?_ | refine Below.drewN ?_ _ | refine below_alloc ?_ _ | refine below_blk' ?_ (by omega) _)) hb11
        clear hb11
        try clear gqd lqd nqd mqd
        obtain ⟨gqd, lqd, nqd, mqd⟩ := kqd
        try clear gqe lqe nqe mqe
        obtain ⟨gqe, lqe, nqe, mqe⟩ := kqe
        clear b10
        go_wp2_with fail
        go_ret
        exact ⟨rfl, b11.out⟩

end Go.Proofs.Ytceljjnohjnepaa

namespace Go.Proofs.Ytceljjnohjnepaa
open Go Go.RowKit DG EG
attribute [local go_sem ↓] exl_Elem exs_Elem exl_Pt exs_Pt exb_Pt exl_Sc exs_Sc
                       attribute [local go_sem] ldr_Pt str_Pt to_quad0 pt_zero bld_pt bld_pt0 ldr_Sc str_Sc

set_option maxRecDepth 100000 in
set_option maxHeartbeats 8000000 in
theorem elaws_ok (r s t m n : ByteArray) (p q u z pq qp l1 qu l2 pz tw pp : P4) (a b le d1 d2 : Nat) (c4 c5 : Int) (B X Y S T1 T2 T3 T4 T5 Z : P4) (W : World) (h1 : decV r = .tuple #[pv p, .int .i64 0]) (h2 : decV s = .tuple #[pv q, .int .i64 0]) (h3 : decV t = .tuple #[pv u, .int .i64 0])
    (hr : r.size ≤ 9223372036854775807) (hs : s.size ≤ 9223372036854775807) (ht : t.size ≤ 9223372036854775807) (H : Half m n a b le d1 d2 c4 c5 B X Y S T1 T2 T3 T4 T5 Z)
    (hp : p.bd) (hq : q.bd) (hu : u.bd) (hz : P4.zero = z) (e1 : p.add q = pq) (e2 : q.add p = qp) (e3 : pq.add u = l1) (e4 : q.add u = qu) (e5 : p.add qu = l2) (e6 : p.add z = pz) (e7 : p.twice = tw) (e8 : p.add p = pp)
    (s1 : pq.same qp = true) (s2 : l1.same l2 = true) (s3 : pz.same p = true) (s4 : tw.same pp = true) : Calls Try.prog 10 #[.string r, .string s, .string t, .string m, .string n] W fun e w' => e = .returned (.bool true) ∧ Below W.heap.size W w' := by
  have D1 := hid (fun w => h1 ▸ pdecode_v r w hr)
  have D2 := hid (fun w => h2 ▸ pdecode_v s w hs)
  have D3 := hid (fun w => h3 ▸ pdecode_v t w ht)
  have bz : z.bd := hz ▸ P4.zero_ok.bd
  have b1 : pq.bd := e1 ▸ P4.add_bd hp hq
  have b2 : qp.bd := e2 ▸ P4.add_bd hq hp
  have b3 : l1.bd := e3 ▸ P4.add_bd b1 hu
  have b4 : qu.bd := e4 ▸ P4.add_bd hq hu
  have b5 : l2.bd := e5 ▸ P4.add_bd hp b4
  have b6 : pz.bd := e6 ▸ P4.add_bd hp bz
  have b7 : tw.bd := e7 ▸ P4.twice_bd hp
  have b8 : pp.bd := e8 ▸ P4.add_bd hp hp
  have G1 := hid (fun w => e1 ▸ padd_v p q w hp hq)
  have G2 := hid (fun w => e2 ▸ padd_v q p w hq hp)
  have G3 := hid (fun w => e3 ▸ padd_v pq u w b1 hu)
  have G4 := hid (fun w => e4 ▸ padd_v q u w hq hu)
  have G5 := hid (fun w => e5 ▸ padd_v p qu w hp b4)
  have G6 := hid (fun w => e6 ▸ padd_v p z w hp bz)
  have G7 := hid (fun w => e7 ▸ ptwice_v p w hp)
  have G8 := hid (fun w => e8 ▸ padd_v p p w hp hp)
  have GZ := hid (fun w => hz ▸ pzero_any w)
  have I1 := hid (fun w => s1 ▸ psame_v pq qp w b1 b2)
  have I2 := hid (fun w => s2 ▸ psame_v l1 l2 w b3 b5)
  have I3 := hid (fun w => s3 ▸ psame_v pz p w b6 hp)
  have I4 := hid (fun w => s4 ▸ psame_v tw pp w b7 b8)
  clear h1 h2 h3 hr hs ht hp hq hu hz e1 e2 e3 e4 e5 e6 e7 e8 s1 s2 s3 s4 bz b1 b2 b3 b4 b5 b6 b7 b8
  have O1 := hid H.O1
  have O2 := hid H.O2
  have OO := hid H.OO
  have OL := hid H.OL
  have HB := hid H.HB
  have Z1 := hid H.Z1
  have MX := hid H.MX
  have MY := hid H.MY
  have A1 := hid H.A1
  have M1 := hid H.M1
  have S1 := hid H.S1
  have K1 := hid H.K1
  have M2 := hid H.M2
  have S2 := hid H.S2
  have M3 := hid H.M3
  have K2 := hid H.K2
  have M4 := hid H.M4
  have S3 := hid H.S3
  have M5 := hid H.M5
  have S4 := hid H.S4
  have L1 := hid (fun w => alive_any w)
  clear H
  go_enter Try.func10, Try.ntmps10
  go_wp2_with fail
  refine (D1.out _).mono ?_
  rintro e w1 ⟨rfl, hb1⟩
  have b1 := hid hb1
  clear hb1
  go_upto_region 2 with (fail)
  skip
  obtain ⟨qa, hqa⟩ : ∃ b, w1.heap.size = b := ⟨_, rfl⟩
  have wqa : W.heap.size ≤ qa := by rw [← hqa]; exact b1.out.size
  obtain ⟨w2, hw2⟩ : ∃ w2, w1.alloc (.cells (pt p.x p.y p.z p.t true) 42) = w2 := ⟨_, rfl⟩
  have kqa := kept (show hget w2 (w1.heap.size) = some (.cells (pt p.x p.y p.z p.t true) 42) by rw [← hw2]; clear hw2; go_simp)
  have b2 : Hid (Below W.heap.size W w2) := by rw [← hw2]; repeat (first | exact Below.refl _ _ | exact below_new _ | exact b1.out | assumption | refine Below.drew ?_ | refine Below.drewN ?_ _ | refine below_alloc ?_ _ | refine below_blk' ?_ (by omega) _)
  rw [hw2]
  clear hw2
  try clear gqa lqa nqa mqa
  try clear jqa
  have jqa := kqa.later
  obtain ⟨gqa, lqa, nqa, mqa⟩ := kqa
  clear b1
  rw [hqa] at *
  clear hqa
  go_wp2_with fail
  try clear jqa
  refine (D2.out _).mono ?_
  rintro e w3 ⟨rfl, hb3⟩
  have kqa := Kept.on (kept (b := qa) (o := .cells (pt p.x p.y p.z p.t true) 42 (0, 0)) (by go_simp)) hb3
  have b3 : Hid (Below W.heap.size W w3) := below_to (by repeat (first | exact Below.refl _ _ | exact below_new _ | exact b2.out | assumption | refine Below.drew ?_ | refine Below.drewN ?_ _ | refine below_alloc ?_ _ | refine below_blk' ?_ (by omega) _)) hb3
  clear hb3
  try clear gqa lqa nqa mqa
  obtain ⟨gqa, lqa, nqa, mqa⟩ := kqa
  clear b2
  go_upto_region 3 with (fail)
  obtain ⟨qb, hqb⟩ : ∃ b, w3.heap.size = b := ⟨_, rfl⟩
  have wqb : W.heap.size ≤ qb := by rw [← hqb]; exact b3.out.size
  have eqaqb : (qa = qb) = False := by rw [← hqb]; exact nqa
  have eqbqa : (qb = qa) = False := by rw [← hqb]; exact mqa
  obtain ⟨w4, hw4⟩ : ∃ w4, w3.alloc (.cells (pt q.x q.y q.z q.t true) 42) = w4 := ⟨_, rfl⟩
  have kqa := kept (show hget w4 (qa) = some (.cells (pt p.x p.y p.z p.t true) 42 (0, 0)) by rw [← hw4]; clear hw4; go_simp)
  have kqb := kept (show hget w4 (w3.heap.size) = some (.cells (pt q.x q.y q.z q.t true) 42) by rw [← hw4]; clear hw4; go_simp)
  have b4 : Hid (Below W.heap.size W w4) := by rw [← hw4]; repeat (first | exact Below.refl _ _ | exact below_new _ | exact b3.out | assumption | refine Below.drew ?_ | refine Below.drewN ?_ _ | refine below_alloc ?_ _ | refine below_blk' ?_ (by omega) _)
  rw [hw4]
  clear hw4
  try clear gqa lqa nqa mqa
  try clear jqa
  have jqa := kqa.later
  obtain ⟨gqa, lqa, nqa, mqa⟩ := kqa
  try clear gqb lqb nqb mqb
  try clear jqb
  have jqb := kqb.later
  obtain ⟨gqb, lqb, nqb, mqb⟩ := kqb
  clear b3
  rw [hqb] at *
  clear hqb
  go_wp2_with fail
  try clear jqa jqb
  refine (D3.out _).mono ?_
  rintro e w5 ⟨rfl, hb5⟩
  have kqa := Kept.on (kept (b := qa) (o := .cells (pt p.x p.y p.z p.t true) 42 (0, 0)) (by go_simp)) hb5
  have kqb := Kept.on (kept (b := qb) (o := .cells (pt q.x q.y q.z q.t true) 42 (0, 0)) (by go_simp)) hb5
  have b5 : Hid (Below W.heap.size W w5) := below_to (by repeat (first | exact Below.refl _ _ | exact below_new _ | exact b4.out | assumption | refine Below.drew ?_ | refine Below.drewN ?_ _ | refine below_alloc ?_ _ | refine below_blk' ?_ (by omega) _)) hb5
  clear hb5
  try clear gqa lqa nqa mqa
  obtain ⟨gqa, lqa, nqa, mqa⟩ := kqa
  try clear gqb lqb nqb mqb
  obtain ⟨gqb, lqb, nqb, mqb⟩ := kqb
  clear b4
  go_upto_region 4 with (fail)
  obtain ⟨qc, hqc⟩ : ∃ b, w5.heap.size = b := ⟨_, rfl⟩
  have wqc : W.heap.size ≤ qc := by rw [← hqc]; exact b5.out.size
  have eqaqc : (qa = qc) = False := by rw [← hqc]; exact nqa
  have eqcqa : (qc = qa) = False := by rw [← hqc]; exact mqa
  have eqbqc : (qb = qc) = False := by rw [← hqc]; exact nqb
  have eqcqb : (qc = qb) = False := by rw [← hqc]; exact mqb
  obtain ⟨w6, hw6⟩ : ∃ w6, w5.alloc (.cells (pt u.x u.y u.z u.t true) 42) = w6 := ⟨_, rfl⟩
  have kqa := kept (show hget w6 (qa) = some (.cells (pt p.x p.y p.z p.t true) 42 (0, 0)) by rw [← hw6]; clear hw6; go_simp)
  have kqb := kept (show hget w6 (qb) = some (.cells (pt q.x q.y q.z q.t true) 42 (0, 0)) by rw [← hw6]; clear hw6; go_simp)
  have kqc := kept (show hget w6 (w5.heap.size) = some (.cells (pt u.x u.y u.z u.t true) 42) by rw [← hw6]; clear hw6; go_simp)
  have b6 : Hid (Below W.heap.size W w6) := by rw [← hw6]; repeat (first | exact Below.refl _ _ | exact below_new _ | exact b5.out | assumption | refine Below.drew ?_ | refine Below.drewN ?_ _ | refine below_alloc ?_ _ | refine below_blk' ?_ (by omega) _)
  rw [hw6]
  clear hw6
  try clear gqa lqa nqa mqa
  try clear jqa
  have jqa := kqa.later
  obtain ⟨gqa, lqa, nqa, mqa⟩ := kqa
  try clear gqb lqb nqb mqb
  try clear jqb
  have jqb := kqb.later
  obtain ⟨gqb, lqb, nqb, mqb⟩ := kqb
  try clear gqc lqc nqc mqc
  try clear jqc
  have jqc := kqc.later
  obtain ⟨gqc, lqc, nqc, mqc⟩ := kqc
  clear b5
  rw [hqc] at *
  clear hqc
  go_upto_region 5 with (fail)
  refine wp_region_later (by kernel_rfl) (by kernel_rfl) ?_
  repeat ((go_big_quiet_step ((first | (go_at_call 27; first | with_reducible exact calls_later (G1.out _) | with_reducible exact calls_later (G2.out _) | with_reducible exact calls_later (G3.out _) | with_reducible exact calls_later (G4.out _) | with_reducible exact calls_later (G5.out _) | with_reducible exact calls_later (G6.out _) | with_reducible exact calls_later (G8.out _)) | (go_at_call 29; with_reducible exact calls_later (G7.out _)) | (go_at_call 36; with_reducible exact calls_later (GZ.out _)) | (go_at_call 24; first | with_reducible exact calls_later (I1.out _) | with_reducible exact calls_later (I2.out _) | with_reducible exact calls_later (I3.out _) | with_reducible exact calls_later (I4.out _))))))
  refine wpQuiet_nil ?_
  intro wL hwL
  obtain ⟨⟨w8, hL⟩, e8⟩ := hwL
  change wL = w8 at e8
  subst e8
  have b20 := hid (below_to b6.out hL)
  clear hL G1 G2 G3 G4 G5 G6 G7 G8 GZ I1 I2 I3 I4 D1 D2 D3
  try clear gqa lqa nqa mqa
  try clear jqa
  try clear gqb lqb nqb mqb
  try clear jqb
  try clear gqc lqc nqc mqc
  try clear jqc
  try clear b6
  generalize wL = w20 at *
  skip
  go_upto_region 7 with (fail)
  go_wp2_with fail
  skip
  refine (O1.out _).mono ?_
  rintro e w21 ⟨rfl, hb21⟩
  have b21 : Hid (Below W.heap.size W w21) := below_to (by repeat (first | exact Below.refl _ _ | exact below_new _ | exact b20.out | assumption | refine Below.drew ?_ | refine Below.drewN ?_ _ | refine below_alloc ?_ _ | refine below_blk' ?_ (by omega) _)) hb21
  clear hb21
  clear b20
  go_upto_region 8 with (fail)
  obtain ⟨qd, hqd⟩ : ∃ b, w21.heap.size = b := ⟨_, rfl⟩
  have wqd : W.heap.size ≤ qd := by rw [← hqd]; exact b21.out.size
  obtain ⟨w22, hw22⟩ : ∃ w22, w21.alloc (.cells (quad a) 59) = w22 := ⟨_, rfl⟩
  have kqd := kept (show hget w22 (w21.heap.size) = some (.cells (quad a) 59) by rw [← hw22]; clear hw22; go_simp)
  have b22 : Hid (Below W.heap.size W w22) := by rw [← hw22]; repeat (first | exact Below.refl _ _ | exact below_new _ | exact b21.out | assumption | refine Below.drew ?_ | refine Below.drewN ?_ _ | refine below_alloc ?_ _ | refine below_blk' ?_ (by omega) _)
  rw [hw22]
  clear hw22
  try clear gqd lqd nqd mqd
  try clear jqd
  have jqd := kqd.later
  obtain ⟨gqd, lqd, nqd, mqd⟩ := kqd
  clear b21
  rw [hqd] at *
  clear hqd
  go_wp2_with fail
  try clear jqd
  refine (O2.out _).mono ?_
  rintro e w23 ⟨rfl, hb23⟩
  have kqd := Kept.on (kept (b := qd) (o := .cells (quad a) 59 (0, 0)) (by go_simp)) hb23
  have b23 : Hid (Below W.heap.size W w23) := below_to (by repeat (first | exact Below.refl _ _ | exact below_new _ | exact b22.out | assumption | refine Below.drew ?_ | refine Below.drewN ?_ _ | refine below_alloc ?_ _ | refine below_blk' ?_ (by omega) _)) hb23
  clear hb23
  try clear gqd lqd nqd mqd
  obtain ⟨gqd, lqd, nqd, mqd⟩ := kqd
  clear b22
  go_upto_region 9 with (fail)
  obtain ⟨qe, hqe⟩ : ∃ b, w23.heap.size = b := ⟨_, rfl⟩
  have wqe : W.heap.size ≤ qe := by rw [← hqe]; exact b23.out.size
  have eqdqe : (qd = qe) = False := by rw [← hqe]; exact nqd
  have eqeqd : (qe = qd) = False := by rw [← hqe]; exact mqd
  obtain ⟨w24, hw24⟩ : ∃ w24, w23.alloc (.cells (quad b) 59) = w24 := ⟨_, rfl⟩
  have kqd := kept (show hget w24 (qd) = some (.cells (quad a) 59 (0, 0)) by rw [← hw24]; clear hw24; go_simp)
  have kqe := kept (show hget w24 (w23.heap.size) = some (.cells (quad b) 59) by rw [← hw24]; clear hw24; go_simp)
  have b24 : Hid (Below W.heap.size W w24) := by rw [← hw24]; repeat (first | exact Below.refl _ _ | exact below_new _ | exact b23.out | assumption | refine Below.drew ?_ | refine Below.drewN ?_ _ | refine below_alloc ?_ _ | refine below_blk' ?_ (by omega) _)
  rw [hw24]
  clear hw24
  try clear gqd lqd nqd mqd
  try clear jqd
  have jqd := kqd.later
  obtain ⟨gqd, lqd, nqd, mqd⟩ := kqd
  try clear gqe lqe nqe mqe
  try clear jqe
  have jqe := kqe.later
  obtain ⟨gqe, lqe, nqe, mqe⟩ := kqe
  clear b23
  rw [hqe] at *
  clear hqe
  obtain ⟨t4, ht4⟩ : ∃ t, (c4 != 0) = t := ⟨_, rfl⟩
  obtain ⟨t5, ht5⟩ : ∃ t, (c5 != 0) = t := ⟨_, rfl⟩
  skip
  cases t4
  · cases t5
    · go_upto_region 11 with (fail)
      go_wp2_with fail
      rw [zero_eq31]
      try clear jqd jqe
      refine (OO.out _).mono ?_
      rintro e w25 ⟨rfl, hb25⟩
      have kqd := Kept.on (kept (b := qd) (o := .cells (quad a) 59 (0, 0)) (by go_simp)) hb25
      have kqe := Kept.on (kept (b := qe) (o := .cells (quad b) 59 (0, 0)) (by go_simp)) hb25
      have b25 : Hid (Below W.heap.size W w25) := below_to (by repeat (first | exact Below.refl _ _ | exact below_new _ | exact b24.out | assumption | refine Below.drew ?_ | refine Below.drewN ?_ _ | refine below_alloc ?_ _ | refine below_blk' ?_ (by omega) _)) hb25
      clear hb25
      try clear gqd lqd nqd mqd
      obtain ⟨gqd, lqd, nqd, mqd⟩ := kqd
      try clear gqe lqe nqe mqe
      obtain ⟨gqe, lqe, nqe, mqe⟩ := kqe
      clear b24
      go_upto_region 12 with (fail)
      obtain ⟨qf, hqf⟩ : ∃ b, w25.heap.size = b := ⟨_, rfl⟩
      have wqf : W.heap.size ≤ qf := by rw [← hqf]; exact b25.out.size
      have eqdqf : (qd = qf) = False := by rw [← hqf]; exact nqd
      have eqfqd : (qf = qd) = False := by rw [← hqf]; exact mqd
      have eqeqf : (qe = qf) = False := by rw [← hqf]; exact nqe
      have eqfqe : (qf = qe) = False := by rw [← hqf]; exact mqe
      obtain ⟨w26, hw26⟩ : ∃ w26, w25.alloc (.cells (quad 1) 59) = w26 := ⟨_, rfl⟩
      have kqd := kept (show hget w26 (qd) = some (.cells (quad a) 59 (0, 0)) by rw [← hw26]; clear hw26; go_simp)
      have kqe := kept (show hget w26 (qe) = some (.cells (quad b) 59 (0, 0)) by rw [← hw26]; clear hw26; go_simp)
      have kqf := kept (show hget w26 (w25.heap.size) = some (.cells (quad 1) 59) by rw [← hw26]; clear hw26; go_simp)
      have b26 : Hid (Below W.heap.size W w26) := by rw [← hw26]; repeat (first | exact Below.refl _ _ | exact below_new _ | exact b25.out | assumption | refine Below.drew ?_ | refine Below.drewN ?_ _ | refine below_alloc ?_ _ | refine below_blk' ?_ (by omega) _)
      rw [hw26]
      clear hw26
      try clear gqd lqd nqd mqd
      try clear jqd
      have jqd := kqd.later
      obtain ⟨gqd, lqd, nqd, mqd⟩ := kqd
      try clear gqe lqe nqe mqe
      try clear jqe
      have jqe := kqe.later
      obtain ⟨gqe, lqe, nqe, mqe⟩ := kqe
      try clear gqf lqf nqf mqf
      try clear jqf
      have jqf := kqf.later
      obtain ⟨gqf, lqf, nqf, mqf⟩ := kqf
      clear b25
      rw [hqf] at *
      clear hqf
      go_wp2_with fail
      rw [zero_eq15]
      try clear jqd jqe jqf
      refine (OL.out _).mono ?_
      rintro e w27 ⟨rfl, hb27⟩
      have kqd := Kept.on (kept (b := qd) (o := .cells (quad a) 59 (0, 0)) (by go_simp)) hb27
      have kqe := Kept.on (kept (b := qe) (o := .cells (quad b) 59 (0, 0)) (by go_simp)) hb27
      have kqf := Kept.on (kept (b := qf) (o := .cells (quad 1) 59 (0, 0)) (by go_simp)) hb27
      have b27 : Hid (Below W.heap.size W w27) := below_to (by repeat (first | exact Below.refl _ _ | exact below_new _ | exact b26.out | assumption | refine Below.drew ?_ | refine Below.drewN ?_ _ | refine below_alloc ?_ _ | refine below_blk' ?_ (by omega) _)) hb27
      clear hb27
      try clear gqd lqd nqd mqd
      obtain ⟨gqd, lqd, nqd, mqd⟩ := kqd
      try clear gqe lqe nqe mqe
      obtain ⟨gqe, lqe, nqe, mqe⟩ := kqe
      try clear gqf lqf nqf mqf
      obtain ⟨gqf, lqf, nqf, mqf⟩ := kqf
      clear b26
      go_upto_region 13 with (fail)
      obtain ⟨qg, hqg⟩ : ∃ b, w27.heap.size = b := ⟨_, rfl⟩
      have wqg : W.heap.size ≤ qg := by rw [← hqg]; exact b27.out.size
      have eqdqg : (qd = qg) = False := by rw [← hqg]; exact nqd
      have eqgqd : (qg = qd) = False := by rw [← hqg]; exact mqd
      have eqeqg : (qe = qg) = False := by rw [← hqg]; exact nqe
      have eqgqe : (qg = qe) = False := by rw [← hqg]; exact mqe
      have eqfqg : (qf = qg) = False := by rw [← hqg]; exact nqf
      have eqgqf : (qg = qf) = False := by rw [← hqg]; exact mqf
      obtain ⟨w28, hw28⟩ : ∃ w28, w27.alloc (.cells (quad le) 59) = w28 := ⟨_, rfl⟩
      have kqd := kept (show hget w28 (qd) = some (.cells (quad a) 59 (0, 0)) by rw [← hw28]; clear hw28; go_simp)
      have kqe := kept (show hget w28 (qe) = some (.cells (quad b) 59 (0, 0)) by rw [← hw28]; clear hw28; go_simp)
      have kqf := kept (show hget w28 (qf) = some (.cells (quad 1) 59 (0, 0)) by rw [← hw28]; clear hw28; go_simp)
      have kqg := kept (show hget w28 (w27.heap.size) = some (.cells (quad le) 59) by rw [← hw28]; clear hw28; go_simp)
      have b28 : Hid (Below W.heap.size W w28) := by rw [← hw28]; repeat (first | exact Below.refl _ _ | exact below_new _ | exact b27.out | assumption | refine Below.drew ?_ | refine Below.drewN ?_ _ | refine below_alloc ?_ _ | refine below_blk' ?_ (by omega) _)
      rw [hw28]
      clear hw28
      try clear gqd lqd nqd mqd
      try clear jqd
      have jqd := kqd.later
      obtain ⟨gqd, lqd, nqd, mqd⟩ := kqd
      try clear gqe lqe nqe mqe
      try clear jqe
      have jqe := kqe.later
      obtain ⟨gqe, lqe, nqe, mqe⟩ := kqe
      try clear gqf lqf nqf mqf
      try clear jqf
      have jqf := kqf.later
      obtain ⟨gqf, lqf, nqf, mqf⟩ := kqf
      try clear gqg lqg nqg mqg
      try clear jqg
      have jqg := kqg.later
      obtain ⟨gqg, lqg, nqg, mqg⟩ := kqg
      clear b27
      rw [hqg] at *
      clear hqg
      go_upto_region 14 with (fail)
      obtain ⟨qh, hqh⟩ : ∃ b, w28.heap.size = b := ⟨_, rfl⟩
      have wqh : W.heap.size ≤ qh := by rw [← hqh]; exact b28.out.size
      have eqdqh : (qd = qh) = False := by rw [← hqh]; exact nqd
      have eqhqd : (qh = qd) = False := by rw [← hqh]; exact mqd
      have eqeqh : (qe = qh) = False := by rw [← hqh]; exact nqe
      have eqhqe : (qh = qe) = False := by rw [← hqh]; exact mqe
      have eqfqh : (qf = qh) = False := by rw [← hqh]; exact nqf
      have eqhqf : (qh = qf) = False := by rw [← hqh]; exact mqf
      have eqgqh : (qg = qh) = False := by rw [← hqh]; exact nqg
      have eqhqg : (qh = qg) = False := by rw [← hqh]; exact mqg
      obtain ⟨w29, hw29⟩ : ∃ w29, w28.alloc (.cells (quad 0) 59) = w29 := ⟨_, rfl⟩
      have kqd := kept (show hget w29 (qd) = some (.cells (quad a) 59 (0, 0)) by rw [← hw29]; clear hw29; go_simp)
      have kqe := kept (show hget w29 (qe) = some (.cells (quad b) 59 (0, 0)) by rw [← hw29]; clear hw29; go_simp)
      have kqf := kept (show hget w29 (qf) = some (.cells (quad 1) 59 (0, 0)) by rw [← hw29]; clear hw29; go_simp)
      have kqg := kept (show hget w29 (qg) = some (.cells (quad le) 59 (0, 0)) by rw [← hw29]; clear hw29; go_simp)
      have kqh := kept (show hget w29 (w28.heap.size) = some (.cells (quad 0) 59) by rw [← hw29]; clear hw29; go_simp)
      have b29 : Hid (Below W.heap.size W w29) := by rw [← hw29]; repeat (first | exact Below.refl _ _ | exact below_new _ | exact b28.out | assumption | refine Below.drew ?_ | refine Below.drewN ?_ _ | refine below_alloc ?_ _ | refine below_blk' ?_ (by omega) _)
      rw [hw29]
      clear hw29
      try clear gqd lqd nqd mqd
      try clear jqd
      have jqd := kqd.later
      obtain ⟨gqd, lqd, nqd, mqd⟩ := kqd
      try clear gqe lqe nqe mqe
      try clear jqe
      have jqe := kqe.later
      obtain ⟨gqe, lqe, nqe, mqe⟩ := kqe
      try clear gqf lqf nqf mqf
      try clear jqf
      have jqf := kqf.later
      obtain ⟨gqf, lqf, nqf, mqf⟩ := kqf
      try clear gqg lqg nqg mqg
      try clear jqg
      have jqg := kqg.later
      obtain ⟨gqg, lqg, nqg, mqg⟩ := kqg
      try clear gqh lqh nqh mqh
      try clear jqh
      have jqh := kqh.later
      obtain ⟨gqh, lqh, nqh, mqh⟩ := kqh
      clear b28
      rw [hqh] at *
      clear hqh
      go_wp2_with fail
      try clear jqd jqe jqf jqg jqh
      refine (HB.out _).mono ?_
      rintro e w30 ⟨rfl, hb30⟩
      have kqd := Kept.on (kept (b := qd) (o := .cells (quad a) 59 (0, 0)) (by go_simp)) hb30
      have kqe := Kept.on (kept (b := qe) (o := .cells (quad b) 59 (0, 0)) (by go_simp)) hb30
      have kqf := Kept.on (kept (b := qf) (o := .cells (quad 1) 59 (0, 0)) (by go_simp)) hb30
      have kqg := Kept.on (kept (b := qg) (o := .cells (quad le) 59 (0, 0)) (by go_simp)) hb30
      have kqh := Kept.on (kept (b := qh) (o := .cells (quad 0) 59 (0, 0)) (by go_simp)) hb30
      have b30 : Hid (Below W.heap.size W w30) := below_to (by repeat (first | exact Below.refl _ _ | exact below_new _ | exact b29.out | assumption | refine Below.drew ?_ | refine Below.drewN ?_ _ | refine below_alloc ?_ _ | refine below_blk' ?_ (by omega) _)) hb30
      clear hb30
      try clear gqd lqd nqd mqd
      obtain ⟨gqd, lqd, nqd, mqd⟩ := kqd
      try clear gqe lqe nqe mqe
      obtain ⟨gqe, lqe, nqe, mqe⟩ := kqe
      try clear gqf lqf nqf mqf
      obtain ⟨gqf, lqf, nqf, mqf⟩ := kqf
      try clear gqg lqg nqg mqg
      obtain ⟨gqg, lqg, nqg, mqg⟩ := kqg
      try clear gqh lqh nqh mqh
      obtain ⟨gqh, lqh, nqh, mqh⟩ := kqh
      clear b29
      go_upto_region 15 with (fail)
      obtain ⟨qi, hqi⟩ : ∃ b, w30.heap.size = b := ⟨_, rfl⟩
      have wqi : W.heap.size ≤ qi := by rw [← hqi]; exact b30.out.size
      have eqdqi : (qd = qi) = False := by rw [← hqi]; exact nqd
      have eqiqd : (qi = qd) = False := by rw [← hqi]; exact mqd
      have eqeqi : (qe = qi) = False := by rw [← hqi]; exact nqe
      have eqiqe : (qi = qe) = False := by rw [← hqi]; exact mqe
      have eqfqi : (qf = qi) = False := by rw [← hqi]; exact nqf
      have eqiqf : (qi = qf) = False := by rw [← hqi]; exact mqf
      have eqgqi : (qg = qi) = False := by rw [← hqi]; exact nqg
      have eqiqg : (qi = qg) = False := by rw [← hqi]; exact mqg
      have eqhqi : (qh = qi) = False := by rw [← hqi]; exact nqh
      have eqiqh : (qi = qh) = False := by rw [← hqi]; exact mqh
      obtain ⟨w31, hw31⟩ : ∃ w31, w30.alloc (.cells (pt B.x B.y B.z B.t true) 42) = w31 := ⟨_, rfl⟩
      have kqd := kept (show hget w31 (qd) = some (.cells (quad a) 59 (0, 0)) by rw [← hw31]; clear hw31; go_simp)
      have kqe := kept (show hget w31 (qe) = some (.cells (quad b) 59 (0, 0)) by rw [← hw31]; clear hw31; go_simp)
      have kqf := kept (show hget w31 (qf) = some (.cells (quad 1) 59 (0, 0)) by rw [← hw31]; clear hw31; go_simp)
      have kqg := kept (show hget w31 (qg) = some (.cells (quad le) 59 (0, 0)) by rw [← hw31]; clear hw31; go_simp)
      have kqh := kept (show hget w31 (qh) = some (.cells (quad 0) 59 (0, 0)) by rw [← hw31]; clear hw31; go_simp)
      have kqi := kept (show hget w31 (w30.heap.size) = some (.cells (pt B.x B.y B.z B.t true) 42) by rw [← hw31]; clear hw31; go_simp)
      have b31 : Hid (Below W.heap.size W w31) := by rw [← hw31]; repeat (first | exact Below.refl _ _ | exact below_new _ | exact b30.out | assumption | refine Below.drew ?_ | refine Below.drewN ?_ _ | refine below_alloc ?_ _ | refine below_blk' ?_ (by omega) _)
      rw [hw31]
      clear hw31
      try clear gqd lqd nqd mqd
      try clear jqd
      have jqd := kqd.later
      obtain ⟨gqd, lqd, nqd, mqd⟩ := kqd
      try clear gqe lqe nqe mqe
      try clear jqe
      have jqe := kqe.later
      obtain ⟨gqe, lqe, nqe, mqe⟩ := kqe
      try clear gqf lqf nqf mqf
      try clear jqf
      have jqf := kqf.later
      obtain ⟨gqf, lqf, nqf, mqf⟩ := kqf
      try clear gqg lqg nqg mqg
      try clear jqg
      have jqg := kqg.later
      obtain ⟨gqg, lqg, nqg, mqg⟩ := kqg
      try clear gqh lqh nqh mqh
      try clear jqh
      have jqh := kqh.later
      obtain ⟨gqh, lqh, nqh, mqh⟩ := kqh
      try clear gqi lqi nqi mqi
      try clear jqi
      have jqi := kqi.later
      obtain ⟨gqi, lqi, nqi, mqi⟩ := kqi
      clear b30
      rw [hqi] at *
      clear hqi
      go_wp2_with fail
      try clear jqd jqe jqf jqg jqh jqi
      refine (MX.out _).mono ?_
      rintro e w32 ⟨rfl, hb32⟩
      have kqd := Kept.on (kept (b := qd) (o := .cells (quad a) 59 (0, 0)) (by go_simp)) hb32
      have kqe := Kept.on (kept (b := qe) (o := .cells (quad b) 59 (0, 0)) (by go_simp)) hb32
      have kqf := Kept.on (kept (b := qf) (o := .cells (quad 1) 59 (0, 0)) (by go_simp)) hb32
      have kqg := Kept.on (kept (b := qg) (o := .cells (quad le) 59 (0, 0)) (by go_simp)) hb32
      have kqh := Kept.on (kept (b := qh) (o := .cells (quad 0) 59 (0, 0)) (by go_simp)) hb32
      have kqi := Kept.on (kept (b := qi) (o := .cells (pt B.x B.y B.z B.t true) 42 (0, 0)) (by go_simp)) hb32
      have b32 : Hid (Below W.heap.size W w32) := below_to (by repeat (first | exact Below.refl _ _ | exact below_new _ | exact b31.out | assumption | refine Below.drew ?_ | refine Below.drewN ?_ _ | refine below_alloc ?_ _ | refine below_blk' ?_ (by omega) _)) hb32
      clear hb32
      try clear gqd lqd nqd mqd
      obtain ⟨gqd, lqd, nqd, mqd⟩ := kqd
      try clear gqe lqe nqe mqe
      obtain ⟨gqe, lqe, nqe, mqe⟩ := kqe
      try clear gqf lqf nqf mqf
      obtain ⟨gqf, lqf, nqf, mqf⟩ := kqf
      try clear gqg lqg nqg mqg
      obtain ⟨gqg, lqg, nqg, mqg⟩ := kqg
      try clear gqh lqh nqh mqh
      obtain ⟨gqh, lqh, nqh, mqh⟩ := kqh
      try clear gqi lqi nqi mqi
      obtain ⟨gqi, lqi, nqi, mqi⟩ := kqi
      clear b31
      go_upto_region 16 with (fail)
      obtain ⟨qj, hqj⟩ : ∃ b, w32.heap.size = b := ⟨_, rfl⟩
      have wqj : W.heap.size ≤ qj := by rw [← hqj]; exact b32.out.size
      have eqdqj : (qd = qj) = False := by rw [← hqj]; exact nqd
      have eqjqd : (qj = qd) = False := by rw [← hqj]; exact mqd
      have eqeqj : (qe = qj) = False := by rw [← hqj]; exact nqe
      have eqjqe : (qj = qe) = False := by rw [← hqj]; exact mqe
      have eqfqj : (qf = qj) = False := by rw [← hqj]; exact nqf
      have eqjqf : (qj = qf) = False := by rw [← hqj]; exact mqf
      have eqgqj : (qg = qj) = False := by rw [← hqj]; exact nqg
      have eqjqg : (qj = qg) = False := by rw [← hqj]; exact mqg
      have eqhqj : (qh = qj) = False := by rw [← hqj]; exact nqh
      have eqjqh : (qj = qh) = False := by rw [← hqj]; exact mqh
      have eqiqj : (qi = qj) = False := by rw [← hqj]; exact nqi
      have eqjqi : (qj = qi) = False := by rw [← hqj]; exact mqi
      obtain ⟨w33, hw33⟩ : ∃ w33, w32.alloc (.cells (pt X.x X.y X.z X.t true) 42) = w33 := ⟨_, rfl⟩
      have kqd := kept (show hget w33 (qd) = some (.cells (quad a) 59 (0, 0)) by rw [← hw33]; clear hw33; go_simp)
      have kqe := kept (show hget w33 (qe) = some (.cells (quad b) 59 (0, 0)) by rw [← hw33]; clear hw33; go_simp)
      have kqf := kept (show hget w33 (qf) = some (.cells (quad 1) 59 (0, 0)) by rw [← hw33]; clear hw33; go_simp)
      have kqg := kept (show hget w33 (qg) = some (.cells (quad le) 59 (0, 0)) by rw [← hw33]; clear hw33; go_simp)
      have kqh := kept (show hget w33 (qh) = some (.cells (quad 0) 59 (0, 0)) by rw [← hw33]; clear hw33; go_simp)
      have kqi := kept (show hget w33 (qi) = some (.cells (pt B.x B.y B.z B.t true) 42 (0, 0)) by rw [← hw33]; clear hw33; go_simp)
      have kqj := kept (show hget w33 (w32.heap.size) = some (.cells (pt X.x X.y X.z X.t true) 42) by rw [← hw33]; clear hw33; go_simp)
      have b33 : Hid (Below W.heap.size W w33) := by rw [← hw33]; repeat (first | exact Below.refl _ _ | exact below_new _ | exact b32.out | assumption | refine Below.drew ?_ | refine Below.drewN ?_ _ | refine below_alloc ?_ _ | refine below_blk' ?_ (by omega) _)
      rw [hw33]
      clear hw33
      try clear gqd lqd nqd mqd
      try clear jqd
      have jqd := kqd.later
      obtain ⟨gqd, lqd, nqd, mqd⟩ := kqd
      try clear gqe lqe nqe mqe
      try clear jqe
      have jqe := kqe.later
      obtain ⟨gqe, lqe, nqe, mqe⟩ := kqe
      try clear gqf lqf nqf mqf
      try clear jqf
      have jqf := kqf.later
      obtain ⟨gqf, lqf, nqf, mqf⟩ := kqf
      try clear gqg lqg nqg mqg
      try clear jqg
      have jqg := kqg.later
      obtain ⟨gqg, lqg, nqg, mqg⟩ := kqg
      try clear gqh lqh nqh mqh
      try clear jqh
      have jqh := kqh.later
      obtain ⟨gqh, lqh, nqh, mqh⟩ := kqh
      try clear gqi lqi nqi mqi
      try clear jqi
      have jqi := kqi.later
      obtain ⟨gqi, lqi, nqi, mqi⟩ := kqi
      try clear gqj lqj nqj mqj
      try clear jqj
      have jqj := kqj.later
      obtain ⟨gqj, lqj, nqj, mqj⟩ := kqj
      clear b32
      rw [hqj] at *
      clear hqj
      go_wp2_with fail
      try clear jqd jqe jqf jqg jqh jqi jqj
      refine (MY.out _).mono ?_
      rintro e w34 ⟨rfl, hb34⟩
      have kqd := Kept.on (kept (b := qd) (o := .cells (quad a) 59 (0, 0)) (by go_simp)) hb34
      have kqe := Kept.on (kept (b := qe) (o := .cells (quad b) 59 (0, 0)) (by go_simp)) hb34
      have kqf := Kept.on (kept (b := qf) (o := .cells (quad 1) 59 (0, 0)) (by go_simp)) hb34
      have kqg := Kept.on (kept (b := qg) (o := .cells (quad le) 59 (0, 0)) (by go_simp)) hb34
      have kqh := Kept.on (kept (b := qh) (o := .cells (quad 0) 59 (0, 0)) (by go_simp)) hb34
      have kqi := Kept.on (kept (b := qi) (o := .cells (pt B.x B.y B.z B.t true) 42 (0, 0)) (by go_simp)) hb34
      have kqj := Kept.on (kept (b := qj) (o := .cells (pt X.x X.y X.z X.t true) 42 (0, 0)) (by go_simp)) hb34
      have b34 : Hid (Below W.heap.size W w34) := below_to (by repeat (first | exact Below.refl _ _ | exact below_new _ | exact b33.out | assumption | refine Below.drew ?_ | refine Below.drewN ?_ _ | refine below_alloc ?_ _ | refine below_blk' ?_ (by omega) _)) hb34
      clear hb34
      try clear gqd lqd nqd mqd
      obtain ⟨gqd, lqd, nqd, mqd⟩ := kqd
      try clear gqe lqe nqe mqe
      obtain ⟨gqe, lqe, nqe, mqe⟩ := kqe
      try clear gqf lqf nqf mqf
      obtain ⟨gqf, lqf, nqf, mqf⟩ := kqf
      try clear gqg lqg nqg mqg
      obtain ⟨gqg, lqg, nqg, mqg⟩ := kqg
      try clear gqh lqh nqh mqh
      obtain ⟨gqh, lqh, nqh, mqh⟩ := kqh
      try clear gqi lqi nqi mqi
      obtain ⟨gqi, lqi, nqi, mqi⟩ := kqi
      try clear gqj lqj nqj mqj
      obtain ⟨gqj, lqj, nqj, mqj⟩ := kqj
      clear b33
      go_upto_region 17 with (fail)
      obtain ⟨qk, hqk⟩ : ∃ b, w34.heap.size = b := ⟨_, rfl⟩
      have wqk : W.heap.size ≤ qk := by rw [← hqk]; exact b34.out.size
      have eqdqk : (qd = qk) = False := by rw [← hqk]; exact nqd
      have eqkqd : (qk = qd) = False := by rw [← hqk]; exact mqd
      have eqeqk : (qe = qk) = False := by rw [← hqk]; exact nqe
      have eqkqe : (qk = qe) = False := by rw [← hqk]; exact mqe
      have eqfqk : (qf = qk) = False := by rw [← hqk]; exact nqf
      have eqkqf : (qk = qf) = False := by rw [← hqk]; exact mqf
      have eqgqk : (qg = qk) = False := by rw [← hqk]; exact nqg
      have eqkqg : (qk = qg) = False := by rw [← hqk]; exact mqg
      have eqhqk : (qh = qk) = False := by rw [← hqk]; exact nqh
      have eqkqh : (qk = qh) = False := by rw [← hqk]; exact mqh
      have eqiqk : (qi = qk) = False := by rw [← hqk]; exact nqi
      have eqkqi : (qk = qi) = False := by rw [← hqk]; exact mqi
      have eqjqk : (qj = qk) = False := by rw [← hqk]; exact nqj
      have eqkqj : (qk = qj) = False := by rw [← hqk]; exact mqj
      obtain ⟨w35, hw35⟩ : ∃ w35, w34.alloc (.cells (pt Y.x Y.y Y.z Y.t true) 42) = w35 := ⟨_, rfl⟩
      have kqd := kept (show hget w35 (qd) = some (.cells (quad a) 59 (0, 0)) by rw [← hw35]; clear hw35; go_simp)
      have kqe := kept (show hget w35 (qe) = some (.cells (quad b) 59 (0, 0)) by rw [← hw35]; clear hw35; go_simp)
      have kqf := kept (show hget w35 (qf) = some (.cells (quad 1) 59 (0, 0)) by rw [← hw35]; clear hw35; go_simp)
      have kqg := kept (show hget w35 (qg) = some (.cells (quad le) 59 (0, 0)) by rw [← hw35]; clear hw35; go_simp)
      have kqh := kept (show hget w35 (qh) = some (.cells (quad 0) 59 (0, 0)) by rw [← hw35]; clear hw35; go_simp)
      have kqi := kept (show hget w35 (qi) = some (.cells (pt B.x B.y B.z B.t true) 42 (0, 0)) by rw [← hw35]; clear hw35; go_simp)
      have kqj := kept (show hget w35 (qj) = some (.cells (pt X.x X.y X.z X.t true) 42 (0, 0)) by rw [← hw35]; clear hw35; go_simp)
      have kqk := kept (show hget w35 (w34.heap.size) = some (.cells (pt Y.x Y.y Y.z Y.t true) 42) by rw [← hw35]; clear hw35; go_simp)
      have b35 : Hid (Below W.heap.size W w35) := by rw [← hw35]; repeat (first | exact Below.refl _ _ | exact below_new _ | exact b34.out | assumption | refine Below.drew ?_ | refine Below.drewN ?_ _ | refine below_alloc ?_ _ | refine below_blk' ?_ (by omega) _)
      rw [hw35]
      clear hw35
      try clear gqd lqd nqd mqd
      try clear jqd
      have jqd := kqd.later
      obtain ⟨gqd, lqd, nqd, mqd⟩ := kqd
      try clear gqe lqe nqe mqe
      try clear jqe
      have jqe := kqe.later
      obtain ⟨gqe, lqe, nqe, mqe⟩ := kqe
      try clear gqf lqf nqf mqf
      try clear jqf
      have jqf := kqf.later
      obtain ⟨gqf, lqf, nqf, mqf⟩ := kqf
      try clear gqg lqg nqg mqg
      try clear jqg
      have jqg := kqg.later
      obtain ⟨gqg, lqg, nqg, mqg⟩ := kqg
      try clear gqh lqh nqh mqh
      try clear jqh
      have jqh := kqh.later
      obtain ⟨gqh, lqh, nqh, mqh⟩ := kqh
      try clear gqi lqi nqi mqi
      try clear jqi
      have jqi := kqi.later
      obtain ⟨gqi, lqi, nqi, mqi⟩ := kqi
      try clear gqj lqj nqj mqj
      try clear jqj
      have jqj := kqj.later
      obtain ⟨gqj, lqj, nqj, mqj⟩ := kqj
      try clear gqk lqk nqk mqk
      try clear jqk
      have jqk := kqk.later
      obtain ⟨gqk, lqk, nqk, mqk⟩ := kqk
      clear b34
      rw [hqk] at *
      clear hqk
      refine wp_region_later (by kernel_rfl) (by kernel_rfl) ?_
      repeat ((go_big_quiet_step ((first | (go_at_call 27; with_reducible exact calls_later (A1.out _)) | (go_at_call 31; first | with_reducible exact calls_later (M1.out _) | with_reducible exact calls_later (M2.out _) | with_reducible exact calls_later (M3.out _) | with_reducible exact calls_later (M4.out _) | with_reducible exact calls_later (M5.out _)) | (go_at_call 37; first | with_reducible exact calls_later (K1.out _) | with_reducible exact calls_later (K2.out _)) | (go_at_call 24; first | with_reducible exact calls_later (S1.out _) | with_reducible exact calls_later (S2.out _) | with_reducible exact calls_later (S3.out _) | with_reducible exact calls_later (S4.out _)) | (go_at_call 36; with_reducible exact calls_later (Z1.out _)) | (go_at_call 18; with_reducible exact calls_later (L1.out _))))))
      refine wpQuiet_nil ?_
      intro wL hwL
      obtain ⟨⟨w8, hL⟩, e8⟩ := hwL
      change wL = w8 at e8
      subst e8
      have bZ := hid (below_to b35.out hL)
      go_wp2_with fail
      go_ret
      exact ⟨rfl, bZ.out⟩
    · skip
      go_wp2_with fail
      try clear jqd jqe
      refine (L1.out _).mono ?_
      rintro e w25 ⟨rfl, hb25⟩
      have kqd := Kept.on (kept (b := qd) (o := .cells (quad a) 59 (0, 0)) (by go_simp)) hb25
      have kqe := Kept.on (kept (b := qe) (o := .cells (quad b) 59 (0, 0)) (by go_simp)) hb25
      have b25 : Hid (Below W.heap.size W w25) := below_to (by repeat (first | exact Below.refl _ _ | exact below_new _ | exact b24.out | assumption | refine Below.drew ?_ | refine Below.drewN ?_ _ | refine below_alloc ?_ _ | refine below_blk' ?_ (by omega) _)) hb25
      clear hb25
      try clear gqd lqd nqd mqd
      obtain ⟨gqd, lqd, nqd, mqd⟩ := kqd
      try clear gqe lqe nqe mqe
      obtain ⟨gqe, lqe, nqe, mqe⟩ := kqe
      clear b24
      go_wp2_with fail
      go_ret
      exact ⟨rfl, b25.out⟩
  · skip
    go_wp2_with fail
    try clear jqd jqe
    refine (L1.out _).mono ?_
    rintro e w25 ⟨rfl, hb25⟩
    have kqd := Kept.on (kept (b := qd) (o := .cells (quad a) 59 (0, 0)) (by go_simp)) hb25
    have kqe := Kept.on (kept (b := qe) (o := .cells (quad b) 59 (0, 0)) (by go_simp)) hb25
    have b25 : Hid (Below W.heap.size W w25) := below_to (by repeat (first | exact Below.refl _ _ | exact below_new _ | exact b24.out | assumption | refine Below.drew ?_ | refine Below.drewN ?_ _ | refine below_alloc ?_ _ | refine below_blk' ?_ (by omega) _)) hb25
    clear hb25
    try clear gqd lqd nqd mqd
    obtain ⟨gqd, lqd, nqd, mqd⟩ := kqd
    try clear gqe lqe nqe mqe
    obtain ⟨gqe, lqe, nqe, mqe⟩ := kqe
    clear b24
    go_wp2_with fail
    go_ret
    exact ⟨rfl, b25.out⟩

set_option maxRecDepth 100000 in
theorem elaws_any (r s t m n : ByteArray) (W : World) (hr : r.size ≤ 9223372036854775807) (hs : s.size ≤ 9223372036854775807) (ht : t.size ≤ 9223372036854775807) (hm : m.size ≤ 9223372036854775807) (hn : n.size ≤ 9223372036854775807) :
    Calls Try.prog 10 #[.string r, .string s, .string t, .string m, .string n] W fun e w' => e = .returned (.bool true) ∧ Below W.heap.size W w' := by
  obtain ⟨a, b, le, d1, d2, c4, c5, B, X, Y, S, T1, T2, T3, T4, T5, Z, H⟩ := half_any m n hm hn
  by_cases h : dOk r = true ∧ dOk s = true ∧ dOk t = true
  · obtain ⟨h1, h2, h3⟩ := h
    have p1 := dP_ok h1
    have p2 := dP_ok h2
    have p3 := dP_ok h3
    obtain ⟨l1, l2, l3, l4⟩ := law_points p1 p2 p3
    exact elaws_ok r s t m n (dP r) (dP s) (dP t) _ _ _ _ _ _ _ _ _ a b le d1 d2 c4 c5 B X Y S T1 T2 T3 T4 T5 Z W (by unfold decV; rw [if_pos h1]) (by unfold decV; rw [if_pos h2]) (by unfold decV; rw [if_pos h3]) hr hs ht H p1.bd p2.bd p3.bd rfl rfl rfl rfl rfl rfl rfl rfl rfl l1 l2 l3 l4
  · obtain ⟨x, y, z, k, i, c1, h1, hc1⟩ := decV_form r
    obtain ⟨x', y', z', k', i', c2, h2, hc2⟩ := decV_form s
    obtain ⟨x'', y'', z'', k'', i'', c3, h3, hc3⟩ := decV_form t
    refine elaws_bad r s t m n x y z k x' y' z' k' x'' y'' z'' k'' a b le d1 d2 i i' i'' c1 c2 c3 c4 c5 B X Y S T1 T2 T3 T4 T5 Z W h1 h2 h3 hr hs ht H ?_
    rw [Bool.eq_false_iff]
    intro hh
    rw [Bool.and_eq_true, Bool.and_eq_true] at hh
    exact h ⟨hc1.1 (by rw [bne, hh.1]; rfl), hc2.1 (by rw [bne, hh.2.1]; rfl), hc3.1 (by rw [bne, hh.2.2]; rfl)⟩

end Go.Proofs.Ytceljjnohjnepaa

namespace Go.Proofs.Ytceljjnohjnepaa
open Go.RowKit Go.Deep

namespace edwLaws
open Go.ChangeShapes Go.WideShapes Go.ChangeAt Go.RowKit
open Go.ChangeMaps (open_string shut_string)
set_option maxRecDepth 100000 in
theorem own : ownKnob Try.prog.godebug = none := by kernel_rfl
set_option maxRecDepth 100000 in
theorem laidOut : laidOutB Try.prog = true := by kernel_rfl
set_option maxRecDepth 100000 in
theorem lifted (os : Os) (started : os.Started) (H : Type) (enc : TypeId × Value → H) :
    ReturnsInHanded {} Try.checked os 10 .any (Rows.edwLawsSpec.pre6 enc Try.prog Try.f10 Rows.edwLawsRow.domain false) (Rows.edwLawsSpec.post enc Try.prog Try.f10 false true false false) := by
  refine returnsInHanded_of_change (C := Try.checked) own started (by kernel_rfl) Try.func10
    (ChangeSpec.witness6 (enc := enc) (C := Try.checked) false ⟨#[], #[.string ByteArray.empty, .string ByteArray.empty, .string ByteArray.empty, .string ByteArray.empty, .string ByteArray.empty], []⟩ 8 (by kernel_rfl) (by kernel_rfl) (by kernel_rfl) (by kernel_rfl)) ?_
  intro W base args ds gs before hval0 hW hcnd _
  have hval : ∀ (j : Nat) t v, Try.f10.params[j]? = some t → args[j]? = some v → Value.okWide Try.prog W .any base t v := hval0
  have hW' := hW
  obtain ⟨p, q, hA0, hV, rfl, hfz, hnd⟩ := hW
  have hA : DataW.TrodAll enc Try.prog W 0 (fun _ => true) true Try.f10.params.toList args.toList ds p := hA0
  rw [Try.params10] at hA hval
  obtain ⟨v0, vs0, d0, ds0, p0, q0, hargs, rfl, rfl, h0, r0⟩ := trodAll_cons hA
  obtain ⟨v1, vs1, d1, ds1, p1, q1, rfl, rfl, rfl, h1, r1⟩ := trodAll_cons r0
  obtain ⟨v2, vs2, d2, ds2, p2, q2, rfl, rfl, rfl, h2, r2⟩ := trodAll_cons r1
  obtain ⟨v3, vs3, d3, ds3, p3, q3, rfl, rfl, rfl, h3, r3⟩ := trodAll_cons r2
  obtain ⟨v4, vs4, d4, ds4, p4, q4, rfl, rfl, rfl, h4, r4⟩ := trodAll_cons r3
  obtain ⟨rfl, rfl, rfl⟩ := trodAll_nil r4
  obtain rfl : args = #[v0, v1, v2, v3, v4] := by cases args; simp_all
  obtain ⟨rfl, rfl⟩ := trodVars_none hV
  have k0 := h0
  have lt0 : ∀ x ∈ p0, x.block < W.heap.size := by obtain ⟨m, hm⟩ := k0; exact DataW.trod_lt m _ _ _ hm
  obtain ⟨a0, rfl, rfl, rfl, w0⟩ := open_string Try.underlying9 (hval 0 9 v0 rfl rfl) h0
  have k1 := h1
  have lt1 : ∀ x ∈ p1, x.block < W.heap.size := by obtain ⟨m, hm⟩ := k1; exact DataW.trod_lt m _ _ _ hm
  obtain ⟨a1, rfl, rfl, rfl, w1⟩ := open_string Try.underlying9 (hval 1 9 v1 rfl rfl) h1
  have k2 := h2
  have lt2 : ∀ x ∈ p2, x.block < W.heap.size := by obtain ⟨m, hm⟩ := k2; exact DataW.trod_lt m _ _ _ hm
  obtain ⟨a2, rfl, rfl, rfl, w2⟩ := open_string Try.underlying9 (hval 2 9 v2 rfl rfl) h2
  have k3 := h3
  have lt3 : ∀ x ∈ p3, x.block < W.heap.size := by obtain ⟨m, hm⟩ := k3; exact DataW.trod_lt m _ _ _ hm
  obtain ⟨a3, rfl, rfl, rfl, w3⟩ := open_string Try.underlying9 (hval 3 9 v3 rfl rfl) h3
  have k4 := h4
  have lt4 : ∀ x ∈ p4, x.block < W.heap.size := by obtain ⟨m, hm⟩ := k4; exact DataW.trod_lt m _ _ _ hm
  obtain ⟨a4, rfl, rfl, rfl, w4⟩ := open_string Try.underlying9 (hval 4 9 v4 rfl rfl) h4
  clear hA0 hval0
  refine Calls.mono (R := fun e w' => e = .returned (.bool true) ∧ Below W.heap.size W w') ?_ fun e W' ⟨he, bel⟩ => ?_
  · exact elaws_any a0 a1 a2 a3 a4 W w0 w1 w2 w3 w4
  subst he
  exact ⟨_, rfl, _, _, _, [], _, [], hW', trodAll_mk1 (shut_bool Try.underlying4 _), (trodAll_cons_mk (Below.trod laidOut (by kernel_rfl) (of_decide_eq_true (by kernel_rfl)) k0 bel lt0) (trodAll_cons_mk (Below.trod laidOut (by kernel_rfl) (of_decide_eq_true (by kernel_rfl)) k1 bel lt1) (trodAll_cons_mk (Below.trod laidOut (by kernel_rfl) (of_decide_eq_true (by kernel_rfl)) k2 bel lt2) (trodAll_cons_mk (Below.trod laidOut (by kernel_rfl) (of_decide_eq_true (by kernel_rfl)) k3 bel lt3) (trodAll_cons_mk (Below.trod laidOut (by kernel_rfl) (of_decide_eq_true (by kernel_rfl)) k4 bel lt4) trodAll_mk0))))), rfl, bel.frame _, fun h => by cases h⟩

set_option maxRecDepth 100000 in
theorem over : Rows.edwLawsRow.holds Try.pinned (OpenSpec.ofChange Rows.edwLawsSpec) :=
  OpenClaim.holds_of_wide 10 Try.f10 rfl rfl rfl rfl rfl rfl rfl ⟨rfl, rfl, rfl, rfl, rfl⟩ rfl rfl rfl rfl rfl (by kernel_rfl) Try.func10 (by kernel_rfl)
    (of_decide_eq_true (by kernel_rfl)) (by unfold Func.isWrapper; first | (rw [if_pos (by decide +kernel)]; kernel_rfl) | (rw [if_neg (by decide +kernel)]; exact ⟨rfl, rfl⟩))
    (fun os started H enc _ => lifted os started H enc)
end edwLaws
set_option maxRecDepth 100000 in
/-- The given statement. -/
theorem edwLaws_proved : Rows.EdwLawsSaid := edwLaws.over
#print axioms edwLaws_proved

end Go.Proofs.Ytceljjnohjnepaa
