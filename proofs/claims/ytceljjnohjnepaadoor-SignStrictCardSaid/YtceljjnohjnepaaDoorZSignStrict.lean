/- The law SignStrict: for every input it returns true and leaves its arguments as they were; the table of constants is tied to the program's text. -/
import Derived.Test.YtceljjnohjnepaaDoorM15
import Derived.Test.YtceljjnohjnepaaDoorM13
import Derived.Test.YtceljjnohjnepaaDoorM07
import Derived.Test.YtceljjnohjnepaaDoorM16
import Derived.Test.YtceljjnohjnepaaDoorCards
import Derived.Test.YtceljjnohjnepaaDoorTie
import Derived.SevenTiedAt
namespace Go.Proofs.YtceljjnohjnepaaDoor
open Go Go.RowKit DG EG
set_option maxRecDepth 100000 in
theorem info_ONum : (Tryd.prog.info? 29).map (·.size) = some 32 := by kernel_rfl
                       theorem exl_ONum {r : Operand → Value} {dst : Option Nat} {x : Operand} {t : TypeId} {pos : String} {af : Array Edge} {g : Option (Nat × Bool)} : execOp r ⟨dst, .load 29 x, t, pos, af, g⟩ = (do let v ← loadRow 29 (r x); pure (Next.value v)) := rfl
                       theorem exs_ONum {r : Operand → Value} {dst : Option Nat} {x y : Operand} {t : TypeId} {pos : String} {af : Array Edge} {g : Option (Nat × Bool)} : execOp r ⟨dst, .store 29 x y, t, pos, af, g⟩ = (do storeRow 29 (r x) (r y); pure Next.skip) := rfl
                       theorem ldr_ONum (b : Nat) (w : World) : (loadRow 29 (.pointer (some ⟨b, 0, none⟩))).run Tryd.prog w = match hget w b with | some (.cells c _ _) => if c.size = 32 then .ok (.agg c) w else stuckL Tryd.prog 29 b w | _ => stuckL Tryd.prog 29 b w := loadRow_run Tryd.underlying29 rfl info_ONum b w
                       theorem str_ONum (b : Nat) (c' : Array Value) (w : World) : (storeRow 29 (.pointer (some ⟨b, 0, none⟩)) (.agg c')).run Tryd.prog w = match hget w b with | some (.cells c T (0, 0)) => if c.size = 32 then (if c'.size = 32 then (if ones c' = true then .ok () (blk w b (.cells c' T (0, 0))) else stuckS Tryd.prog 29 b (.agg c') w) else stuckS Tryd.prog 29 b (.agg c') w) else stuckS Tryd.prog 29 b (.agg c') w | _ => stuckS Tryd.prog 29 b (.agg c') w := storeRow_run info_ONum b c' w

/-- A number of the document's. -/
def on32 (n : Nat) : Array Value := ints .u8 (digs 256 n 32)
set_option maxRecDepth 100000 in
@[go_sem] theorem on32_size (n : Nat) : (on32 n).size = 32 := by unfold on32; rw [ints_size, digs_length]
set_option maxRecDepth 100000 in
@[go_sem] theorem on32_one (n : Nat) : ones (on32 n) = true := rows_one _ _
set_option maxRecDepth 100000 in
theorem on_zero : (#[.int .u8 0, .int .u8 0, .int .u8 0, .int .u8 0, .int .u8 0, .int .u8 0, .int .u8 0, .int .u8 0, .int .u8 0, .int .u8 0, .int .u8 0, .int .u8 0, .int .u8 0, .int .u8 0, .int .u8 0, .int .u8 0, .int .u8 0, .int .u8 0, .int .u8 0, .int .u8 0, .int .u8 0, .int .u8 0, .int .u8 0, .int .u8 0, .int .u8 0, .int .u8 0, .int .u8 0, .int .u8 0, .int .u8 0, .int .u8 0, .int .u8 0, .int .u8 0] : Array Value) = on32 0 := by kernel_rfl
def zs31 : ByteArray := ⟨(List.replicate 31 0).toArray⟩
set_option maxRecDepth 100000 in
theorem skm31 (w : World) : (Instr.makeSlice 27 (.int .i64 31) (.int .i64 31)).run Tryd.prog w = .ok (.slice (some ⟨w.heap.size, 0, none⟩) 31 31) (w.alloc (.cells (ints .u8 (List.replicate 31 0)) 5)) := by kernel_rfl
set_option maxRecDepth 100000 in
theorem skc31 (w : World) : (convert 27 9 (.slice (some ⟨w.heap.size, 0, none⟩) 31 31)).run Tryd.prog (w.alloc (.cells (ints .u8 [0, 0, 0, 0, 0, 0, 0, 0, 0, 0, 0, 0, 0, 0, 0, 0, 0, 0, 0, 0, 0, 0, 0, 0, 0, 0, 0, 0, 0, 0, 0]) 5)) = .ok (.string zs31) (w.alloc (.cells (ints .u8 [0, 0, 0, 0, 0, 0, 0, 0, 0, 0, 0, 0, 0, 0, 0, 0, 0, 0, 0, 0, 0, 0, 0, 0, 0, 0, 0, 0, 0, 0, 0]) 5)) := skconv 31 _ _ (alloc_at _ _)
attribute [local go_sem ↓] exl_ONum exs_ONum
                                                                                                                                                                                                                                                                                                                                                                                                                                attribute [local go_sem] ldr_ONum str_ONum on_zero skc31 skm31 skc32
set_option maxRecDepth 100000 in
theorem one_eq : (⟨#[1]⟩ : ByteArray) ++ zs31 = oneB := by decide +kernel
/-- The step of a sum, byte by byte. -/
def cy (x y i : Nat) : Nat := (x % 256 ^ i + y % 256 ^ i) / 256 ^ i
set_option maxRecDepth 100000 in
theorem cy_lt (x y i : Nat) : cy x y i < 2 := by
  unfold cy
  have hB : 0 < 256 ^ i := Nat.pow_pos (by decide)
  have h1 := Nat.mod_lt x hB
  have h2 := Nat.mod_lt y hB
  rw [Nat.div_lt_iff_lt_mul hB]
  omega
set_option maxRecDepth 100000 in
theorem cy_step (x y i : Nat) : (x / 256 ^ i % 256 + y / 256 ^ i % 256 + cy x y i) % 256 = (x + y) / 256 ^ i % 256 ∧ (x / 256 ^ i % 256 + y / 256 ^ i % 256 + cy x y i) / 256 = cy x y (i + 1) := by
  unfold cy
  have hB : 0 < 256 ^ i := Nat.pow_pos (by decide)
  have e1 : ∀ n : Nat, n % 256 ^ (i + 1) = n % 256 ^ i + 256 ^ i * (n / 256 ^ i % 256) := fun n => by rw [Nat.pow_succ, Nat.mod_mul]
  rw [e1, e1, Nat.pow_succ]
  have hx := Nat.div_add_mod x (256 ^ i)
  have hy := Nat.div_add_mod y (256 ^ i)
  generalize 256 ^ i = B at *
  have h1 : (x % B + B * (x / B % 256) + (y % B + B * (y / B % 256))) / B = (x % B + y % B) / B + (x / B % 256 + y / B % 256) := by
    rw [show x % B + B * (x / B % 256) + (y % B + B * (y / B % 256)) = (x % B + y % B) + B * (x / B % 256 + y / B % 256) by rw [Nat.mul_add]; omega, Nat.add_mul_div_left _ _ hB]
  have h2 : (x + y) / B = (x % B + y % B) / B + (x / B + y / B) := by
    have : x + y = (x % B + y % B) + B * (x / B + y / B) := by rw [Nat.mul_add]; omega
    rw [this, Nat.add_mul_div_left _ _ hB]
  constructor
  · rw [h2]; omega
  · rw [← Nat.div_div_eq_div_mul, h1]
    congr 1
    omega
set_option maxRecDepth 100000 in
theorem nb_getD (n i : Nat) (h : i < 32) : ((natBytes n 32).getD i 0).toNat = n / 256 ^ i % 256 := by rw [natBytes_getD n 32 i h, digs_getD n h]
set_option maxRecDepth 100000 in
theorem nb_byte (n i : Nat) (h : i < 32) : (natBytes n 32).getD i 0 = UInt8.ofNat (n / 256 ^ i % 256) := by
  apply UInt8.toNat_inj.1
  rw [nb_getD n i h]
  exact (Nat.mod_eq_of_lt (Nat.mod_lt _ (by decide))).symm
set_option maxRecDepth 100000 in
theorem strict_far (k s : ByteArray) (W : World) (hT : Tab W) (h : ¬ (k.size = 32 ∧ s.size ≤ 1024)) : Calls Tryd.prog 3 #[.string k, .string s] W fun e w' => e = .returned (.bool true) ∧ Below W.heap.size W w' := by
  have L1 := hid (salive_any W hT)
  clear hT
  go_enter Tryd.func3, Tryd.ntmps3
  by_cases hk : k.size = 32
  · have h1 : ((k.size : Int) != 32) = false := by rw [bne_eq_false_iff_eq]; omega
    have h2 : decide (1024 < (s.size : Int)) = true := decide_eq_true (by omega)
    clear h hk
    go_wp2_with fail
    refine L1.out.mono ?_
    rintro e w1 ⟨rfl, hb1⟩
    go_wp2_with fail
    go_ret
    exact ⟨rfl, hb1⟩
  · have h1 : ((k.size : Int) != 32) = true := by rw [bne_iff_ne]; omega
    clear h hk
    go_wp2_with fail
    refine L1.out.mono ?_
    rintro e w1 ⟨rfl, hb1⟩
    go_wp2_with fail
    go_ret
    exact ⟨rfl, hb1⟩
set_option maxRecDepth 100000 in
theorem Laid.keep' {w w' : World} {b : Nat} {l : List UInt8} (h : Laid w b l) (hb : Below w.heap.size w w') : Laid w' b l := by
  obtain ⟨C, T, n, h1, h2, h3⟩ := h.ex
  exact ⟨⟨C, T, n, keepB hb h1, h2, h3⟩⟩
set_option maxRecDepth 100000 in
theorem sig_at (sec s : ByteArray) (j : Nat) (h : j < 32) : (sigB sec s).data.toList.getD (32 + j) 0 = (natBytes (sgS sec s) 32).getD j 0 := by
  unfold sigB
  rw [ByteArray.data_append, Array.toList_append]
  have hl : (sgQ sec s).data.toList.length = 32 := by have := sgQ_size sec s; simpa using this
  rw [List.getD_eq_getElem?_getD, List.getElem?_append_right (by omega), hl, Nat.add_sub_cancel_left, ← List.getD_eq_getElem?_getD]
  rfl
set_option maxRecDepth 100000 in
theorem strict_not {p s : ByteArray} {l : List UInt8} {S : Nat} (hl : l.length = 64) (hS : S < ordL) (h : ∀ j, j < 32 → l.getD (32 + j) 0 = (natBytes (S + ordL) 32).getD j 0) : ¬ vrOk p s ⟨l.toArray⟩ := by
  refine vr_big ?_
  have e : ((⟨l.toArray⟩ : ByteArray).extract 32 64).data.toList = natBytes (S + ordL) 32 := by
    rw [ByteArray.data_extract, Array.toList_extract, List.extract_eq_take_drop]
    refine List.ext_getElem (by simp [natBytes_length, hl]) ?_
    intro i h1 h2
    have hi : i < 32 := by rw [natBytes_length] at h2; exact h2
    have h3 := h i hi
    rw [List.getD_eq_getElem?_getD, List.getElem?_eq_getElem (by omega), Option.getD_some, List.getD_eq_getElem?_getD, List.getElem?_eq_getElem h2, Option.getD_some] at h3
    rw [← h3]
    simp
  rw [e, bytesNat_natBytes, Nat.mod_eq_of_lt (Nat.lt_of_lt_of_le (Nat.add_lt_add_right hS ordL) (by decide))]
  omega
set_option maxRecDepth 100000 in
set_option maxHeartbeats 2000000 in
theorem strict_core (k s p x : ByteArray) (S : Nat) (W : World) (hT : Tab W) (hk : k.size = 32) (hs : s.size ≤ 1024) (hp : pubB k = p) (hx : sigB k s = x) (hS : sgS k s = S) :
    Calls Tryd.prog 3 #[.string k, .string s] W fun e w' => e = .returned (.bool true) ∧ Below W.heap.size W w' := by
  have zp : p.size = 32 := hp ▸ pubB_size k
  have zx : x.size = 64 := hx ▸ sigB_size k s
  have lS : S < ordL := hS ▸ sgS_lt k s
  have hdig : ∀ j, j < 32 → x.data.toList.getD (32 + j) 0 = (natBytes S 32).getD j 0 := fun j hj => by rw [← hx, ← hS]; exact sig_at k s j hj
  have hzl : x.data.toList.length = 64 := by simpa using zx
  have P1 : ∀ w, Tab w → Calls Tryd.prog 5 #[.string k] w fun r w' => r = .returned (.tuple #[.string p, .int .i64 0]) ∧ Below w.heap.size w w' := fun w h => by
    have h1 := spublic_any k w h
    unfold spS spE at h1
    rw [if_pos hk, if_pos hk, hp] at h1
    exact h1
  have S1 : ∀ w, Tab w → Calls Tryd.prog 6 #[.string k, .string s] w fun r w' => r = .returned (.tuple #[.string x, .int .i64 0]) ∧ Below w.heap.size w w' := fun w h => by
    have h1 := ssign_any k s w h (by omega)
    unfold siS spE at h1
    rw [if_pos hk, if_pos hk, hx] at h1
    exact h1
  have V1 : ∀ w, Tab w → Calls Tryd.prog 8 #[.string p, .string s, .string x] w fun r w' => r = .returned (.bool true) ∧ Below w.heap.size w w' := fun w h => by
    have h1 := sverify_any p s x w h (by omega) (by omega)
    rw [vrB_true (by rw [← hp, ← hx]; exact vr_self k s)] at h1
    exact h1
  have V2 : ∀ l : List UInt8, l.length = 64 → (∀ j, j < 32 → l.getD (32 + j) 0 = (natBytes (S + ordL) 32).getD j 0) → ∀ w, Tab w → Calls Tryd.prog 8 #[.string p, .string s, .string ⟨l.toArray⟩] w fun r w' => r = .returned (.bool false) ∧ Below w.heap.size w w' := fun l hl h w hw => by
    have h1 := sverify_any p s ⟨l.toArray⟩ w hw (by omega) (by omega)
    rw [vrB_false (strict_not hl lS h)] at h1
    exact h1
  have V3 : ∀ y : ByteArray, ∀ w, Tab w → Calls Tryd.prog 8 #[.string oneB, .string s, .string y] w fun r w' => r = .returned (.bool false) ∧ Below w.heap.size w w' := fun y w hw => by
    have h1 := sverify_any oneB s y w hw (by decide +kernel) (by omega)
    rw [vrB_false (vr_one s y)] at h1
    exact h1
  have P1 := hid P1
  have S1 := hid S1
  have V1 := hid V1
  have V2 := hid V2
  have V3 := hid V3
  have HT := hid hT
  have HD := hid hdig
  have R1 : Hid (∀ w, Calls Tryd.prog 7 #[] w fun e w' => e = .returned (.agg (on32 ordL)) ∧ Below w.heap.size w w') := hid (fun w => ref_Order w)
  have L1 := hid salive_any
  have h1 : ((k.size : Int) != 32) = false := by rw [bne_eq_false_iff_eq]; omega
  have h2 : decide (1024 < (s.size : Int)) = false := decide_eq_false (by omega)
  clear hT hp hx hk hdig hS
  go_enter Tryd.func3, Tryd.ntmps3
  go_wp2_with fail
  refine (P1.out _ HT.out).mono ?_
  rintro e w1 ⟨rfl, hb1⟩
  have b1 := hid hb1
  clear hb1
  skip
  go_wp2_with fail
  have TB := HT.out.keep b1.out
  skip
  refine (S1.out _ TB).mono ?_
  rintro e w2 ⟨rfl, hb2⟩
  have b2 : Hid (Below W.heap.size W w2) := below_to (by repeat (first | exact Below.refl _ _ | exact below_new _ | exact b1.out | assumption | refine Below.drew ?_ | refine Below.drewN ?_ _ | refine below_alloc ?_ _ | refine below_blk' ?_ (by omega) _)) hb2
  clear hb2
  clear b1
  clear TB P1 S1
  go_upto_region 8 with (fail)
  have hL := laid_bytes w2 x
  have hB := hid (below_to b2.out (bytesWorld_below w2 5 x))
  have hw2 := b2.out.size
  have hNlt := lt_blk hL.ex.choose_spec.choose_spec.choose_spec.1
  generalize Lib.bytesWorld w2 5 x = w3 at *
  generalize grownCap w2 64 0 5 = cap at *
  generalize w2.heap.size = N at *
  clear b2
  obtain ⟨l, hl⟩ : ∃ l, x.data.toList = l := ⟨_, rfl⟩
  rw [hl] at hL hzl
  have HD2 := hid (hl ▸ HD.out)
  clear hl HD
  go_wp2_with fail
  refine (R1.out _).mono ?_
  rintro e w4 ⟨rfl, hb4⟩
  have hL4 := hL.keep' hb4
  have hN4 : N < w4.heap.size := Nat.lt_of_lt_of_le hNlt hb4.size
  have b4 := hid (below_to hB.out hb4)
  clear hb4 hL hB hNlt
  go_upto_region 9 with (fail)
  have hL5 := hL4.keep' (below_new (.cells (on32 ordL) 29))
  have gO := alloc_at w4 (.cells (on32 ordL) 29)
  have b5 := hid (below_to b4.out (below_new (.cells (on32 ordL) 29)))
  have hNO : N ≠ w4.heap.size := by omega
  have hOW : W.heap.size ≤ w4.heap.size := b4.out.size
  generalize w4.alloc (.cells (on32 ordL) 29) = w5 at *
  generalize w4.heap.size = O at *
  clear b4 hL4 hN4
  go_wp2_with fail
  go_loopw [12, 11] (fun i cv wr => ∃ (j : Nat) (m : List UInt8), j ≤ 32 ∧ i = .int .i64 (j : Int) ∧ cv = .int .i64 ((cy S ordL j : Nat) : Int) ∧ m.length = 64 ∧ (∀ q, q < 32 → m.getD (32 + q) 0 = if q < j then (natBytes (S + ordL) 32).getD q 0 else (natBytes S 32).getD q 0) ∧ Laid wr N m ∧ wr.heap[O]? = some (.cells (on32 ordL) 29 (0, 0)) ∧ Below W.heap.size W wr) (fun i _ _ => (32 - intOf i).toNat)
  case atStart => exact ⟨0, l, by omega, rfl, by unfold cy; rw [Nat.pow_zero, Nat.mod_one, Nat.mod_one]; rfl, hzl, fun q hq => by rw [if_neg (by omega)]; exact HD2.out q hq, hL5, gO, b5.out⟩
  case round =>
    clear hL5 gO b5 HD2 hzl
    obtain ⟨j, m, hj, rfl, rfl, hml, hq, hLm, gO, hb6⟩ := hrel
    have HQ := hid hq
    have b6 := hid hb6
    clear hq hb6
    by_cases hlt : j < 32
    · have d1 : decide ((j : Int) < 32) = true := decide_eq_true (by omega)
      obtain ⟨a, ha⟩ : ∃ a, S / 256 ^ j % 256 = a := ⟨_, rfl⟩
      obtain ⟨b, hb⟩ : ∃ b, ordL / 256 ^ j % 256 = b := ⟨_, rfl⟩
      obtain ⟨c, hc⟩ : ∃ c, cy S ordL j = c := ⟨_, rfl⟩
      have ca := hLm.cell (j := 32 + j) (by omega)
      rw [HQ.out j hlt, if_neg (by omega), nb_getD S j hlt, ha] at ca
      have cb : wr.cell? ⟨O, j, none⟩ = some (.int .u8 (b : Int)) := by
        rw [cell_at gO]
        unfold on32
        rw [ints_get _ _ (by rw [digs_length]; exact hlt), digs_getD _ hlt, hb]
      have fa := hLm.free (j := 32 + j) (by omega)
      have la : a < 256 := ha ▸ Nat.mod_lt _ (by decide)
      have lb : b < 256 := hb ▸ Nat.mod_lt _ (by decide)
      have lc : c < 2 := hc ▸ cy_lt S ordL j
      have st := cy_step S ordL j
      rw [ha, hb, hc] at st
      rw [hc]
      have HST := hid st
      have HA := hid ha
      have HB := hid hb
      have HC := hid hc
      clear st ha hb hc
      have jca := later_cell ca
      have jcb := later_cell cb
      have w1' : IntKind.i64.wrap (32 + (j : Int)) = ((32 + j : Nat) : Int) := (IntWalk.i64_in _ (by omega)).trans (by omega)
      have w2' : IntKind.i64.wrap ((a : Int) + (b : Int)) = (a : Int) + (b : Int) := IntWalk.i64_in _ (by omega)
      have w3' : IntKind.i64.wrap ((a : Int) + (b : Int) + (c : Int)) = (a : Int) + (b : Int) + (c : Int) := IntWalk.i64_in _ (by omega)
      go_wp2_with fail
      refine wp_region_later (by kernel_rfl) (by kernel_rfl) ?_
      repeat ((go_big_quiet_step ((fail))))
      refine wpQuiet_nil ?_
      intro wL hwL
      obtain ⟨⟨w8, hL⟩, e8⟩ := hwL
      change wL = w8 at e8
      subst e8
      have hLn := hLm.keep' hL
      have gN := keepB hL gO
      have b7 := hid (below_to b6.out hL)
      have fn := hLn.free (j := 32 + j) (by omega)
      have cn := hLn.cell (j := 32 + j) (by omega)
      clear hLm gO b6 ca cb fa jca jcb hL w2' w3'
      generalize wL = w7 at *
      obtain ⟨t, ht⟩ : ∃ t, a + b + c = t := ⟨_, rfl⟩
      have et : (a : Int) + (b : Int) + (c : Int) = (t : Int) := by omega
      rw [et]
      have hst := HST.out
      rw [ht] at hst
      have HST2 := hid hst
      obtain ⟨u, hu⟩ : ∃ u : UInt8, u.toNat = t % 256 := ⟨UInt8.ofNat (t % 256), Nat.mod_eq_of_lt (Nat.mod_lt _ (by decide))⟩
      have wt : IntKind.u8.wrap (t : Int) = (u.toNat : Int) := by rw [IntKind.wrap_u8', hu]; rfl
      have hlt2 : t < 1000 := by omega
      have hLs := hid (hLn.set (32 + j) u)
      have bS := hid (b7.out.setCell (p := ⟨N, 32 + j, none⟩) hw2 (.int .u8 (u.toNat : Int)))
      have GS := hid (at_setCell_other (p := ⟨N, 32 + j, none⟩) gN (show O ≠ N from fun e => hNO e.symm) (.int .u8 (u.toNat : Int)))
      have HU := hid hu
      have wc : IntKind.i64.wrap ((j : Int) + 1) = (j : Int) + 1 := IntWalk.i64_in _ (by omega)
      clear et ht hu hLn gN b7 la lb lc hst HST
      go_wp2_with fail
      refine ⟨⟨j + 1, m.set (32 + j) u, by omega, by rw [Int.natCast_add]; rfl, by rw [← HST2.out.2]; rfl, by rw [List.length_set]; exact hml, fun q hq => ?_, hLs.out, GS.out, bS.out⟩, by first | (simp [intOf]; done) | (simp [intOf]; omega)⟩
      by_cases hqj : q = j
      · subst hqj
        rw [if_pos (by omega), List.getD_eq_getElem?_getD, List.getElem?_set_self (by omega), Option.getD_some]
        apply UInt8.toNat_inj.1
        rw [nb_getD _ _ hq, HU.out, HST2.out.1]
      · rw [List.getD_eq_getElem?_getD, List.getElem?_set_ne (by omega), ← List.getD_eq_getElem?_getD, HQ.out q hq]
        by_cases hlt3 : q < j
        · rw [if_pos hlt3, if_pos (by omega)]
        · rw [if_neg hlt3, if_neg (by omega)]
    · obtain rfl : j = 32 := by omega
      have d1 : decide (((32 : Nat) : Int) < 32) = false := by decide
      have HV := hid (V2.out m hml (fun q hq => by rw [HQ.out q hq, if_pos hq]))
      have z31 : zs31.size = 31 := rfl
      have zO : oneB.size = 32 := by decide +kernel
      have zK : kZ.size = 32 := rfl
      have hone : (⟨#[1]⟩ : ByteArray) ++ zs31 = oneB := one_eq
      have hgK := grownCap_ge
      clear hgK V2 HQ R1
      have hL7 := hLm.keep' (below_new (.cells (ints .u8 (List.replicate 31 0)) 5))
      have b7 := hid (below_to b6.out (below_new (.cells (ints .u8 (List.replicate 31 0)) 5)))
      go_upto_region 17 with (fail)
      rw [show (List.replicate 31 0 : List Nat) = [0, 0, 0, 0, 0, 0, 0, 0, 0, 0, 0, 0, 0, 0, 0, 0, 0, 0, 0, 0, 0, 0, 0, 0, 0, 0, 0, 0, 0, 0, 0] from rfl] at hL7 b7
      generalize wr.alloc (.cells (ints .u8 [0, 0, 0, 0, 0, 0, 0, 0, 0, 0, 0, 0, 0, 0, 0, 0, 0, 0, 0, 0, 0, 0, 0, 0, 0, 0, 0, 0, 0, 0, 0]) 5) = w7 at *
      clear hLm gO b6
      go_wp2_with fail
      refine (V1.out _ (HT.out.keep b7.out)).mono ?_
      rintro e w8 ⟨rfl, hb8⟩
      simp only []
      have hL8 := hL7.keep' hb8
      have b8 := hid (below_to b7.out hb8)
      clear hb8 hL7 b7 V1
      have hconv := fun (cap : Nat) => oconv_string w8 N 0 64 cap m hml (fun j hj => by rw [Nat.zero_add]; exact hL8.cell (by rw [hml]; exact hj))
      go_wp2_with fail
      refine (HV.out _ (HT.out.keep b8.out)).mono ?_
      rintro e w9 ⟨rfl, hb9⟩
      simp only []
      have b9 := hid (below_to b8.out hb9)
      clear hb9 hL8 b8 HV hconv
      go_wp2_with fail
      have bA := hid (below_to b9.out (below_new (.cells (ints .u8 [0, 0, 0, 0, 0, 0, 0, 0, 0, 0, 0, 0, 0, 0, 0, 0, 0, 0, 0, 0, 0, 0, 0, 0, 0, 0, 0, 0, 0, 0, 0, 0]) 5)))
      refine (V3.out _ _ (HT.out.keep bA.out)).mono ?_
      rintro e wA ⟨rfl, hbA⟩
      simp only []
      have bB := hid (below_to bA.out hbA)
      clear hbA bA b9 V3
      go_wp2_with fail
      refine (L1.out _ (HT.out.keep bB.out)).mono ?_
      rintro e wB ⟨rfl, hbB⟩
      simp only []
      go_wp2_with fail
      go_ret
      exact ⟨rfl, below_to bB.out hbB⟩
set_option maxRecDepth 100000 in
theorem strict_any (k s : ByteArray) (W : World) (hT : Tab W) : Calls Tryd.prog 3 #[.string k, .string s] W fun e w' => e = .returned (.bool true) ∧ Below W.heap.size W w' := by
  by_cases h : k.size = 32 ∧ s.size ≤ 1024
  · exact strict_core k s _ _ _ W hT h.1 h.2 rfl rfl rfl
  · exact strict_far k s W hT h

end Go.Proofs.YtceljjnohjnepaaDoor

namespace Go.Proofs.YtceljjnohjnepaaDoor
open Go.RowKit

namespace signStrict
open Go.ChangeShapes Go.WideShapes Go.ChangeAt Go.RowKit
open Go.ChangeMaps (open_string shut_string)
set_option maxRecDepth 100000 in
theorem own : ownKnob Tryd.prog.godebug = none := by kernel_rfl
set_option maxRecDepth 100000 in
theorem laidOut : laidOutB Tryd.prog = true := by kernel_rfl
set_option maxRecDepth 100000 in
theorem lifted (os : Os) (started : os.Started) (H : Type) (enc : TypeId × Value → H) :
    ReturnsInHanded {} Tryd.checked os 3 .any (fun w args => (Rows.signStrictSpec.pre enc Tryd.prog Tryd.f3 [] false w args ∧ laidMetH Tryd.prog laidOne w) ∧ sizedMet enc Tryd.prog Tryd.f3 (OpenSpec.ofChange Rows.signStrictSpec) false w args) (Rows.signStrictSpec.post enc Tryd.prog Tryd.f3 false true false false) := by
  refine returnsInHanded_of_change_and (C := Tryd.checked) (X := fun w _ => laidMetH Tryd.prog laidOne w) (fun _ _ _ hh h => h.of_heap hh) own started (by kernel_rfl) Tryd.func3
    (ChangeSpec.witness_shaped (enc := enc) (C := Tryd.checked) (os := os) (X := fun w _ => laidMetH Tryd.prog laidOne w) false (World.doorLaid Tryd.prog 400 os) #[.string ByteArray.empty, .string ByteArray.empty] 8 rfl (World.shaped_of_RefB (by kernel_rfl) (by kernel_rfl)) (by kernel_rfl) (by kernel_rfl) (by kernel_rfl) (door_met os _)) ?_
  intro W base args ds gs before hval0 hW hcnd hsz hL _
  have hval : ∀ (j : Nat) t v, Tryd.f3.params[j]? = some t → args[j]? = some v → Value.okWide Tryd.prog W .any base t v := hval0
  have hW' := hW
  obtain ⟨p, q, hA0, hV, rfl, hfz, hnd⟩ := hW
  have hA : DataW.TrodAll enc Tryd.prog W 0 (fun _ => true) true Tryd.f3.params.toList args.toList ds p := hA0
  rw [Tryd.params3] at hA hval
  obtain ⟨v0, vs0, d0, ds0, p0, q0, hargs, rfl, rfl, h0, r0⟩ := trodAll_cons hA
  obtain ⟨v1, vs1, d1, ds1, p1, q1, rfl, rfl, rfl, h1, r1⟩ := trodAll_cons r0
  obtain ⟨rfl, rfl, rfl⟩ := trodAll_nil r1
  obtain rfl : args = #[v0, v1] := by cases args; simp_all
  obtain ⟨rfl, rfl⟩ := trodVars_none hV
  have z0 : ∀ n ∈ d0.weights Tryd.prog 9, n ≤ reachBytes := fun n hn => by simpa using List.all_eq_true.1 hsz n (DataW.weights_mem_each (j := 0) (t := 9) rfl rfl n hn)
  have z1 : ∀ n ∈ d1.weights Tryd.prog 9, n ≤ reachBytes := fun n hn => by simpa using List.all_eq_true.1 hsz n (DataW.weights_mem_each (j := 1) (t := 9) rfl rfl n hn)
  have k0 := h0
  have lt0 : ∀ x ∈ p0, x.block < W.heap.size := by obtain ⟨m, hm⟩ := k0; exact DataW.trod_lt m _ _ _ hm
  obtain ⟨a0, rfl, rfl, rfl, w0⟩ := open_string Tryd.underlying9 (hval 0 9 v0 rfl rfl) h0
  have k1 := h1
  have lt1 : ∀ x ∈ p1, x.block < W.heap.size := by obtain ⟨m, hm⟩ := k1; exact DataW.trod_lt m _ _ _ hm
  obtain ⟨a1, rfl, rfl, rfl, w1⟩ := open_string Tryd.underlying9 (hval 1 9 v1 rfl rfl) h1
  have s0 : a0.size ≤ 140737488351232 := by have h := z0 a0.size (by simp [DataW.weights]); exact h
  have s1 : a1.size ≤ 140737488351232 := by have h := z1 a1.size (by simp [DataW.weights]); exact h
  clear hA0 hval0
  refine Calls.mono (R := fun e w' => e = .returned (.bool true) ∧ Below W.heap.size W w') ?_ fun e W' ⟨he, bel⟩ => ?_
  · exact strict_any a0 a1 W (of_laid hL)
  subst he
  exact ⟨_, rfl, _, _, _, [], _, [], hW', trodAll_mk1 (shut_bool Tryd.underlying4 _), (trodAll_cons_mk (Below.trod laidOut (by kernel_rfl) (of_decide_eq_true (by kernel_rfl)) k0 bel lt0) (trodAll_cons_mk (Below.trod laidOut (by kernel_rfl) (of_decide_eq_true (by kernel_rfl)) k1 bel lt1) trodAll_mk0)), rfl, bel.frame _, fun h => by cases h⟩

set_option maxRecDepth 100000 in
theorem over : Rows.signStrictRow.holds Tryd.pinned (OpenSpec.ofChange Rows.signStrictSpec) :=
  OpenClaim.holds_of_wide 3 Tryd.f3 rfl rfl rfl rfl rfl rfl rfl ⟨rfl, rfl, rfl, rfl, rfl⟩ rfl rfl rfl rfl rfl (by kernel_rfl) Tryd.func3 (by kernel_rfl)
    (of_decide_eq_true (by kernel_rfl)) (by unfold Func.isWrapper; first | (rw [if_pos (by decide +kernel)]; kernel_rfl) | (rw [if_neg (by decide +kernel)]; exact ⟨rfl, rfl⟩))
    (fun os started H enc _ => lifted os started H enc)
end signStrict
open Go in
set_option maxRecDepth 100000 in
theorem signStrict_card : Rows.SignStrictCardSaid :=
  Claim7.holds_tied_plain_at .later [] [.data] true (true, "b61de1b4aa7f628d44512a69019469d8273d4cf19efc9a61dbd97491a2e99bc5") false
    signStrict.over (fun _ h => by cases h) (by kernel_rfl) (fun _ h => by cases h) signStrict_row_tie rfl ⟨rfl, rfl⟩ (by kernel_rfl) rfl
    (fun f fn hf hfn => by
      obtain rfl : f = 3 := Option.some.inj ((show Tryd.prog.funcNamed Rows.signStrictRow.func = some 3 by kernel_rfl).symm.trans hf) |>.symm
      obtain rfl : fn = Tryd.f3 := (Option.some.inj (Tryd.func3.symm.trans hfn)).symm
      exact ⟨by kernel_rfl, fun j t ht => by
        rw [Tryd.params3] at ht
        have hm : t ∈ [9, 9] := by simpa using Array.mem_of_getElem? ht
        have hall : ([9, 9].all fun u => !Tryd.prog.wantsStandIn u) = true := by kernel_rfl
        exact (show Tryd.prog.wantsStandIn t = false by simpa using List.all_eq_true.1 hall t hm)⟩)
    (by kernel_rfl)
set_option maxRecDepth 100000 in
/-- The given statement. -/
theorem signStrict_proved : Rows.SignStrictCardSaid := signStrict_card
#print axioms signStrict_proved

end Go.Proofs.YtceljjnohjnepaaDoor
