/- The law SignBack: for every input it returns true and leaves its arguments as they were; the table of constants is tied to the program's text. -/
import Derived.Test.YtceljjnohjnepaaGreatDoorM23
import Derived.Laws.BitsAllLaws
import Derived.Test.YtceljjnohjnepaaGreatDoorCards
import Derived.Test.YtceljjnohjnepaaGreatDoorTie
import Derived.SevenTiedAt
namespace Go.Proofs.YtceljjnohjnepaaGreatDoor
open Go Go.RowKit DG EG

set_option maxRecDepth 100000 in
theorem i64_and24 (n : Int) : bits .and .i64 n 16777215 = n % 16777216 := by
  have h127 : (BitVec.ofInt 64 16777215).toNat = 2 ^ 24 - 1 := by decide
  have key : (BitVec.ofInt 64 n &&& BitVec.ofInt 64 16777215).toNat = (n % ((2 ^ 64 : Nat) : Int)).toNat % 2 ^ 24 := by
    rw [BitVec.toNat_and, BitVec.toNat_ofInt, h127, Nat.and_two_pow_sub_one_eq_mod]
  show IntKind.i64.wrap ((BitVec.ofInt 64 n &&& BitVec.ofInt 64 16777215).toNat : Nat) = n % 16777216
  rw [key, IntKind.wrap_i64]
  omega
set_option maxRecDepth 100000 in
theorem Laid.keep' {w w' : World} {b : Nat} {l : List UInt8} (h : Laid w b l) (hb : Below w.heap.size w w') : Laid w' b l := by
  obtain ⟨C, T, n, h1, h2, h3⟩ := h.ex
  exact ⟨⟨C, T, n, keepB hb h1, h2, h3⟩⟩
set_option maxRecDepth 100000 in
/-- A part of the bytes, as a text. -/
theorem laid_text {w : World} {b : Nat} {l : List UInt8} (h : Laid w b l) (off len cap : Nat) (hle : off + len ≤ l.length) :
    (convert 32 9 (.slice (some ⟨b, off, none⟩) len cap)).run Tryz.prog w = .ok (.string ⟨((l.drop off).take len).toArray⟩) w :=
  oconv_string w b off len cap ((l.drop off).take len) (by rw [List.length_take, List.length_drop]; omega) (fun j hj => by
    rw [h.cell (j := off + j) (by omega)]
    congr 4
    rw [List.getD_eq_getElem?_getD, List.getD_eq_getElem?_getD, List.getElem?_take, if_pos hj, List.getElem?_drop])
set_option maxRecDepth 100000 in
theorem back_far (k s : ByteArray) (at_ : Int) (y : Nat) (W : World) (hT : Tab W) (h : ¬ (k.size = 32 ∧ s.size ≤ 1024)) : Calls Tryz.prog 5 #[.string k, .string s, .int .i64 at_, .int .u8 (y : Int)] W fun e w' => e = .returned (.bool true) ∧ Below W.heap.size W w' := by
  have L1 := hid (salive_any W hT)
  clear hT
  go_enter Tryz.func5, Tryz.ntmps5
  by_cases hk : k.size = 32
  · have h1 : ((k.size : Int) != 32) = false := by rw [bne_eq_false_iff_eq]; omega
    have h2 : decide (1024 < (s.size : Int)) = true := decide_eq_true (by omega)
    clear h hk
    go_wp2_with fail
    refine L1.out.mono ?_
    rintro e w1 ⟨rfl, hb1⟩
    go_wp2_with fail
    go_ret
    exact ⟨rfl, hb1⟩
  · have h1 : ((k.size : Int) != 32) = true := by rw [bne_iff_ne]; omega
    clear h hk
    go_wp2_with fail
    refine L1.out.mono ?_
    rintro e w1 ⟨rfl, hb1⟩
    go_wp2_with fail
    go_ret
    exact ⟨rfl, hb1⟩
set_option maxRecDepth 100000 in
set_option maxHeartbeats 2000000 in
theorem back_core (k s p x T : ByteArray) (at_ : Int) (y : UInt8) (W : World) (hT : Tab W) (hk : k.size = 32) (hs : s.size ≤ 1024) (hp : pubB k = p) (hx : sigB k s = x) (hTt : p ++ x ++ s = T) :
    Calls Tryz.prog 5 #[.string k, .string s, .int .i64 at_, .int .u8 (y.toNat : Int)] W fun e w' => e = .returned (.bool true) ∧ Below W.heap.size W w' := by
  have zp : p.size = 32 := hp ▸ pubB_size k
  have zx : x.size = 64 := hx ▸ sigB_size k s
  have zpx : (p ++ x).size = 96 := by rw [ByteArray.size_append]; omega
  have zT : T.size = 96 + s.size := by rw [← hTt, ByteArray.size_append]; omega
  have P1 : ∀ w, Tab w → Calls Tryz.prog 7 #[.string k] w fun r w' => r = .returned (.tuple #[.string p, .int .i64 0]) ∧ Below w.heap.size w w' := fun w h => by
    have h1 := spublic_any k w h
    unfold spS spE at h1
    rw [if_pos hk, if_pos hk, hp] at h1
    exact h1
  have S1 : ∀ w, Tab w → Calls Tryz.prog 9 #[.string k, .string s] w fun r w' => r = .returned (.tuple #[.string x, .int .i64 0]) ∧ Below w.heap.size w w' := fun w h => by
    have h1 := ssign_any k s w h (by omega)
    unfold siS spE at h1
    rw [if_pos hk, if_pos hk, hx] at h1
    exact h1
  have V1 : ∀ w, Tab w → Calls Tryz.prog 11 #[.string p, .string s, .string x] w fun r w' => r = .returned (.bool true) ∧ Below w.heap.size w w' := fun w h => by
    have h1 := sverify_any p s x w h (by omega) (by omega)
    rw [vrB_true (by rw [← hp, ← hx]; exact vr_self k s)] at h1
    exact h1
  have P1 := hid P1
  have S1 := hid S1
  have V1 := hid V1
  have HT := hid hT
  have L1 := hid salive_any
  have h1 : ((k.size : Int) != 32) = false := by rw [bne_eq_false_iff_eq]; omega
  have h2 : decide (1024 < (s.size : Int)) = false := decide_eq_false (by omega)
  clear hT hp hx hk
  go_enter Tryz.func5, Tryz.ntmps5
  go_wp2_with fail
  refine (P1.out _ HT.out).mono ?_
  rintro e w1 ⟨rfl, hb1⟩
  have b1 := hid hb1
  clear hb1
  skip
  go_wp2_with fail
  have TB := HT.out.keep b1.out
  skip
  refine (S1.out _ TB).mono ?_
  rintro e w2 ⟨rfl, hb2⟩
  have b2 : Hid (Below W.heap.size W w2) := below_to (by repeat (first | exact Below.refl _ _ | exact below_new _ | exact b1.out | assumption | refine Below.drew ?_ | refine Below.drewN ?_ _ | refine below_alloc ?_ _ | refine below_blk' ?_ (by omega) _)) hb2
  clear hb2
  clear b1
  clear TB
  go_wp2_with fail
  have TB := HT.out.keep b2.out
  skip
  refine (V1.out _ TB).mono ?_
  rintro e w3 ⟨rfl, hb3⟩
  have b3 : Hid (Below W.heap.size W w3) := below_to (by repeat (first | exact Below.refl _ _ | exact below_new _ | exact b2.out | assumption | refine Below.drew ?_ | refine Below.drewN ?_ _ | refine below_alloc ?_ _ | refine below_blk' ?_ (by omega) _)) hb3
  clear hb3
  clear b2
  clear TB P1 S1 V1
  by_cases hy : y = 0
  · have hy0 : ((y.toNat : Int) == 0) = true := by rw [hy]; rfl
    clear hy
    go_wp2_with fail
    have TB := HT.out.keep b3.out
    refine (L1.out _ TB).mono ?_
    rintro e w4 ⟨rfl, hb4⟩
    go_wp2_with fail
    go_ret
    exact ⟨rfl, below_to b3.out hb4⟩
  · have hy0 : ((y.toNat : Int) == 0) = false := by
      rw [beq_eq_false_iff_ne]
      intro h
      have h0 : (0 : UInt8).toNat = 0 := rfl
      exact hy (UInt8.toNat_inj.1 (by omega))
    clear hy
    go_upto_region 10 with (fail)
    obtain ⟨m, hm, hm24⟩ : ∃ m : Nat, bits .and .i64 at_ 16777215 = (m : Int) ∧ m < 16777216 := ⟨(at_ % 16777216).toNat, by rw [i64_and24]; omega, by omega⟩
    have hL := laid_bytes w3 T
    have hB := hid (below_to b3.out (bytesWorld_below w3 5 T))
    have hg := grownCap_ge w3 (96 + s.size) 0 5
    have hw3 := b3.out.size
    generalize Lib.bytesWorld w3 5 T = w4 at *
    generalize grownCap w3 (96 + s.size) 0 5 = cap at *
    generalize w3.heap.size = N at *
    clear b3
    obtain ⟨n, hn⟩ : ∃ n, n = 96 + s.size := ⟨_, rfl⟩
    rw [← hn] at hg zT
    rw [← hn]
    have hn96 : 96 ≤ n := by omega
    have hnlt : n ≤ 2000 := by omega
    obtain ⟨l, hl⟩ : ∃ l, T.data.toList = l := ⟨_, rfl⟩
    have hll : l.length = n := by rw [← hl, ← zT]; simp
    rw [hl] at hL
    have hml : m % n < n := Nat.mod_lt _ (by omega)
    obtain ⟨j, hj⟩ : ∃ j, m % n = j := ⟨_, rfl⟩
    have hjI : ((m : Int) % (n : Int)) = (j : Int) := by rw [← hj]; rfl
    rw [hj] at hml
    have c1 := hL.cell (j := j) (by omega)
    have f1 := hL.free (j := j) (by omega)
    obtain ⟨z, hz⟩ : ∃ z, l.getD j 0 = z := ⟨_, rfl⟩
    rw [hz] at c1
    have HT2 := HT
    clear hTt hn hl zpx zp zx hs hj hz h1 h2
    go_upto_region 12 with (fail)
    have x1 : bits .xor .u8 (z.toNat : Int) (y.toNat : Int) = ((z ^^^ y).toNat : Int) := by rw [u8_xor_nat _ _ z.toNat_lt y.toNat_lt, UInt8.toNat_xor]
    rw [x1]
    have hL5 := hL.set j (z ^^^ y)
    have hB5 := hid (hB.out.setCell (p := ⟨N, j, none⟩) hw3 (.int .u8 ((z ^^^ y).toNat : Int)))
    have hl5 : (l.set j (z ^^^ y)).length = n := by rw [List.length_set]; exact hll
    generalize l.set j (z ^^^ y) = l5 at *
    generalize w4.setCell ⟨N, j, none⟩ (.int .u8 ((z ^^^ y).toNat : Int)) = w5 at *
    clear c1 f1 x1 hL hB hml hm hm24 hy0
    have q1 : ∀ (x : Later w5) (cap : Nat), (convert 32 9 (.slice (some ⟨N, 0, none⟩) 32 cap)).run Tryz.prog x.w' = .ok (.string ⟨((l5.drop 0).take 32).toArray⟩) x.w' := fun x cap => laid_text (hL5.keep' x.h) 0 32 cap (by omega)
    have q2 : ∀ (x : Later w5) (cap' : Nat), (convert 32 9 (.slice (if cap = 96 then some ⟨N, 0, none⟩ else some ⟨N, 96, none⟩) (n - 96) cap')).run Tryz.prog x.w' = .ok (.string ⟨((l5.drop 96).take (n - 96)).toArray⟩) x.w' := fun x cap' => by
      by_cases hc : cap = 96
      · rw [if_pos hc, show n - 96 = 0 by omega]
        exact laid_text (hL5.keep' x.h) 0 0 cap' (by omega)
      · rw [if_neg hc]
        exact laid_text (hL5.keep' x.h) 96 (n - 96) cap' (by omega)
    have q3 : ∀ (x : Later w5) (cap : Nat), (convert 32 9 (.slice (some ⟨N, 32, none⟩) 64 cap)).run Tryz.prog x.w' = .ok (.string ⟨((l5.drop 32).take 64).toArray⟩) x.w' := fun x cap => laid_text (hL5.keep' x.h) 32 64 cap (by omega)
    have zA : (⟨((l5.drop 0).take 32).toArray⟩ : ByteArray).size = 32 := by show (List.toArray _).size = 32; simp; omega
    have zS : (⟨((l5.drop 96).take (n - 96)).toArray⟩ : ByteArray).size ≤ 2000 := by show (List.toArray _).size ≤ 2000; simp; omega
    generalize (⟨((l5.drop 0).take 32).toArray⟩ : ByteArray) = A at *
    generalize (⟨((l5.drop 96).take (n - 96)).toArray⟩ : ByteArray) = S at *
    generalize (⟨((l5.drop 32).take 64).toArray⟩ : ByteArray) = X at *
    have hT5 := HT.out.keep hB5.out
    have V2 := fun w h => sverify_any A S X w h (by omega) (by omega)
    have V3 := fun w => rver_any A S X w (by omega) (by omega)
    generalize vrB A S X = V at *
    have V2 := hid V2
    have V3 := hid V3
    have hV : (V == V) = true := beq_self_eq_true _
    clear hL5 hl5 zA zS hll
    refine wp_region_later (by kernel_rfl) (by kernel_rfl) ?_
    repeat ((go_big_quiet_step ((first | (go_at_call 11; with_reducible exact calls_later (V2.out _ (hT5.keep (Later.h _)))) | (go_at_call 12; with_reducible exact calls_later (V3.out _)) | (go_at_call 6; with_reducible exact calls_later (L1.out _ (hT5.keep (Later.h _))))))))
    refine wpQuiet_nil ?_
    intro wL hwL
    obtain ⟨⟨w8, hL⟩, e8⟩ := hwL
    change wL = w8 at e8
    subst e8
    go_wp2_with fail
    all_goals
      go_ret
      exact ⟨rfl, below_to hB5.out hL⟩
set_option maxRecDepth 100000 in
theorem back_any (k s : ByteArray) (at_ : Int) (y : Nat) (W : World) (hT : Tab W) (hy : y < 256) : Calls Tryz.prog 5 #[.string k, .string s, .int .i64 at_, .int .u8 (y : Int)] W fun e w' => e = .returned (.bool true) ∧ Below W.heap.size W w' := by
  by_cases h : k.size = 32 ∧ s.size ≤ 1024
  · have ey : y = (UInt8.ofNat y).toNat := (Nat.mod_eq_of_lt hy).symm
    rw [ey]
    exact back_core k s _ _ _ at_ (UInt8.ofNat y) W hT h.1 h.2 rfl rfl rfl
  · exact back_far k s at_ y W hT h

end Go.Proofs.YtceljjnohjnepaaGreatDoor

namespace Go.Proofs.YtceljjnohjnepaaGreatDoor
open Go.RowKit

namespace signBack
open Go.ChangeShapes Go.WideShapes Go.ChangeAt Go.RowKit
open Go.ChangeMaps (open_string shut_string)
set_option maxRecDepth 100000 in
theorem own : ownKnob Tryz.prog.godebug = none := by kernel_rfl
set_option maxRecDepth 100000 in
theorem laidOut : laidOutB Tryz.prog = true := by kernel_rfl
set_option maxRecDepth 100000 in
theorem lifted (os : Os) (started : os.Started) (H : Type) (enc : TypeId × Value → H) :
    ReturnsInHanded {} Tryz.checked os 5 .any (fun w args => (Rows.signBackSpec.pre enc Tryz.prog Tryz.f5 [] false w args ∧ laidMetH Tryz.prog laidOne w) ∧ sizedMet enc Tryz.prog Tryz.f5 (OpenSpec.ofChange Rows.signBackSpec) false w args) (Rows.signBackSpec.post enc Tryz.prog Tryz.f5 false true false false) := by
  refine returnsInHanded_of_change_and (C := Tryz.checked) (X := fun w _ => laidMetH Tryz.prog laidOne w) (fun _ _ _ hh h => h.of_heap hh) own started (by kernel_rfl) Tryz.func5
    (ChangeSpec.witness_shaped (enc := enc) (C := Tryz.checked) (os := os) (X := fun w _ => laidMetH Tryz.prog laidOne w) false (World.doorLaid Tryz.prog 400 os) #[.string ByteArray.empty, .string ByteArray.empty, .int .i64 0, .int .u8 0] 8 rfl (World.shaped_of_RefB (by kernel_rfl) (by kernel_rfl)) (by kernel_rfl) (by kernel_rfl) (by kernel_rfl) (door_met os _)) ?_
  intro W base args ds gs before hval0 hW hcnd hsz hL _
  have hval : ∀ (j : Nat) t v, Tryz.f5.params[j]? = some t → args[j]? = some v → Value.okWide Tryz.prog W .any base t v := hval0
  have hW' := hW
  obtain ⟨p, q, hA0, hV, rfl, hfz, hnd⟩ := hW
  have hA : DataW.TrodAll enc Tryz.prog W 0 (fun _ => true) true Tryz.f5.params.toList args.toList ds p := hA0
  rw [Tryz.params5] at hA hval
  obtain ⟨v0, vs0, d0, ds0, p0, q0, hargs, rfl, rfl, h0, r0⟩ := trodAll_cons hA
  obtain ⟨v1, vs1, d1, ds1, p1, q1, rfl, rfl, rfl, h1, r1⟩ := trodAll_cons r0
  obtain ⟨v2, vs2, d2, ds2, p2, q2, rfl, rfl, rfl, h2, r2⟩ := trodAll_cons r1
  obtain ⟨v3, vs3, d3, ds3, p3, q3, rfl, rfl, rfl, h3, r3⟩ := trodAll_cons r2
  obtain ⟨rfl, rfl, rfl⟩ := trodAll_nil r3
  obtain rfl : args = #[v0, v1, v2, v3] := by cases args; simp_all
  obtain ⟨rfl, rfl⟩ := trodVars_none hV
  have z0 : ∀ n ∈ d0.weights Tryz.prog 9, n ≤ reachBytes := fun n hn => by simpa using List.all_eq_true.1 hsz n (DataW.weights_mem_each (j := 0) (t := 9) rfl rfl n hn)
  have z1 : ∀ n ∈ d1.weights Tryz.prog 9, n ≤ reachBytes := fun n hn => by simpa using List.all_eq_true.1 hsz n (DataW.weights_mem_each (j := 1) (t := 9) rfl rfl n hn)
  have z2 : ∀ n ∈ d2.weights Tryz.prog 3, n ≤ reachBytes := fun n hn => by simpa using List.all_eq_true.1 hsz n (DataW.weights_mem_each (j := 2) (t := 3) rfl rfl n hn)
  have z3 : ∀ n ∈ d3.weights Tryz.prog 5, n ≤ reachBytes := fun n hn => by simpa using List.all_eq_true.1 hsz n (DataW.weights_mem_each (j := 3) (t := 5) rfl rfl n hn)
  have k0 := h0
  have lt0 : ∀ x ∈ p0, x.block < W.heap.size := by obtain ⟨m, hm⟩ := k0; exact DataW.trod_lt m _ _ _ hm
  obtain ⟨a0, rfl, rfl, rfl, w0⟩ := open_string Tryz.underlying9 (hval 0 9 v0 rfl rfl) h0
  have k1 := h1
  have lt1 : ∀ x ∈ p1, x.block < W.heap.size := by obtain ⟨m, hm⟩ := k1; exact DataW.trod_lt m _ _ _ hm
  obtain ⟨a1, rfl, rfl, rfl, w1⟩ := open_string Tryz.underlying9 (hval 1 9 v1 rfl rfl) h1
  have k2 := h2
  have lt2 : ∀ x ∈ p2, x.block < W.heap.size := by obtain ⟨m, hm⟩ := k2; exact DataW.trod_lt m _ _ _ hm
  obtain ⟨a2, rfl, rfl, rfl, w2⟩ := open_int Tryz.underlying3 (hval 2 3 v2 rfl rfl) h2
  have k3 := h3
  have lt3 : ∀ x ∈ p3, x.block < W.heap.size := by obtain ⟨m, hm⟩ := k3; exact DataW.trod_lt m _ _ _ hm
  obtain ⟨a3, rfl, rfl, rfl, w3⟩ := open_int Tryz.underlying5 (hval 3 5 v3 rfl rfl) h3
  have s0 : a0.size ≤ 140737488351232 := by have h := z0 a0.size (by simp [DataW.weights]); exact h
  have s1 : a1.size ≤ 140737488351232 := by have h := z1 a1.size (by simp [DataW.weights]); exact h
  clear hA0 hval0
  refine Calls.mono (R := fun e w' => e = .returned (.bool true) ∧ Below W.heap.size W w') ?_ fun e W' ⟨he, bel⟩ => ?_
  · have b3 := bounds_u8 w3
    obtain ⟨n, rfl⟩ := Int.eq_ofNat_of_zero_le b3.1
    exact back_any a0 a1 a2 n W (of_laid hL) (by omega)
  subst he
  exact ⟨_, rfl, _, _, _, [], _, [], hW', trodAll_mk1 (shut_bool Tryz.underlying4 _), (trodAll_cons_mk (Below.trod laidOut (by kernel_rfl) (of_decide_eq_true (by kernel_rfl)) k0 bel lt0) (trodAll_cons_mk (Below.trod laidOut (by kernel_rfl) (of_decide_eq_true (by kernel_rfl)) k1 bel lt1) (trodAll_cons_mk (Below.trod laidOut (by kernel_rfl) (of_decide_eq_true (by kernel_rfl)) k2 bel lt2) (trodAll_cons_mk (Below.trod laidOut (by kernel_rfl) (of_decide_eq_true (by kernel_rfl)) k3 bel lt3) trodAll_mk0)))), rfl, bel.frame _, fun h => by cases h⟩

set_option maxRecDepth 100000 in
theorem over : Rows.signBackRow.holds Tryz.pinned (OpenSpec.ofChange Rows.signBackSpec) :=
  OpenClaim.holds_of_wide 5 Tryz.f5 rfl rfl rfl rfl rfl rfl rfl ⟨rfl, rfl, rfl, rfl, rfl⟩ rfl rfl rfl rfl rfl (by kernel_rfl) Tryz.func5 (by kernel_rfl)
    (of_decide_eq_true (by kernel_rfl)) (by unfold Func.isWrapper; first | (rw [if_pos (by decide +kernel)]; kernel_rfl) | (rw [if_neg (by decide +kernel)]; exact ⟨rfl, rfl⟩))
    (fun os started H enc _ => lifted os started H enc)
end signBack
open Go in
set_option maxRecDepth 100000 in
theorem signBack_card : Rows.SignBackCardSaid :=
  Claim7.holds_tied_plain_at .later [] [.data] true (true, "a71611b507132bb18852c0f1e0908328bb4d9ea3676ff0e7825b4b408e309293") false
    signBack.over (fun _ h => by cases h) (by kernel_rfl) (fun _ h => by cases h) signBack_row_tie rfl ⟨rfl, rfl⟩ (by kernel_rfl) rfl
    (fun f fn hf hfn => by
      obtain rfl : f = 5 := Option.some.inj ((show Tryz.prog.funcNamed Rows.signBackRow.func = some 5 by kernel_rfl).symm.trans hf) |>.symm
      obtain rfl : fn = Tryz.f5 := (Option.some.inj (Tryz.func5.symm.trans hfn)).symm
      exact ⟨by kernel_rfl, fun j t ht => by
        rw [Tryz.params5] at ht
        have hm : t ∈ [9, 9, 3, 5] := by simpa using Array.mem_of_getElem? ht
        have hall : ([9, 9, 3, 5].all fun u => !Tryz.prog.wantsStandIn u) = true := by kernel_rfl
        exact (show Tryz.prog.wantsStandIn t = false by simpa using List.all_eq_true.1 hall t hm)⟩)
    (by kernel_rfl)
set_option maxRecDepth 100000 in
/-- The given statement. -/
theorem signBack_proved : Rows.SignBackCardSaid := signBack_card
#print axioms signBack_proved

end Go.Proofs.YtceljjnohjnepaaGreatDoor
