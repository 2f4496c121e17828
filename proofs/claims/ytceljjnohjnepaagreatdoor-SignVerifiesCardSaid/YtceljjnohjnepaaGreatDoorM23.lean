/- Signatures, the laws: signatures are the document's; so is what is verified. The digest's table, laid: what the condition on the variable gives. -/
import Derived.Test.YtceljjnohjnepaaGreatDoorM22
import Derived.Test.YtceljjnohjnepaaGreatDoorM17
import Derived.ProofKit
import Derived.LaidMore
import Derived.OpenShut
import Derived.Stop.Joined
namespace Go.Proofs.YtceljjnohjnepaaGreatDoor
open Go Go.RowKit DG EG

set_option maxRecDepth 100000 in
set_option maxHeartbeats 1000000 in
theorem signs_any (k s : ByteArray) (W : World) (hT : Tab W) (hk : k.size ≤ 140737488351232) (hs : s.size ≤ 140737488351232) : Calls Tryz.prog 3 #[.string k, .string s] W fun e w' => e = .returned (.bool true) ∧ Below W.heap.size W w' := by
  have L1 := hid salive_any
  have HT := hid hT
  have hw : IntKind.i64.wrap ((k.size : Int) + (s.size : Int)) = (k.size : Int) + (s.size : Int) := IntWalk.i64_in _ (by omega)
  go_enter Tryz.func3, Tryz.ntmps3
  by_cases h : k.size + s.size ≤ 2048
  · have hd : decide (2048 < (k.size : Int) + (s.size : Int)) = false := decide_eq_false (by omega)
    have P1 := fun w h => spublic_any k w h
    have P2 := fun w => rpub_any k w
    have S1 := fun w h => ssign_any k s w h (by omega)
    have S2 := fun w => rsig_any k s w (by omega)
    generalize spS k = A at *
    generalize spE k = c at *
    generalize siS k s = B at *
    have P1 := hid P1
    have P2 := hid P2
    have S1 := hid S1
    have S2 := hid S2
    have hA : (A.toList == A.toList) = true := beq_self_eq_true _
    have hB : (B.toList == B.toList) = true := beq_self_eq_true _
    have hc : (c == c) = true := beq_self_eq_true _
    clear hT h
    go_wp2_with fail
    refine (P1.out _ HT.out).mono ?_
    rintro e w1 ⟨rfl, hb1⟩
    have b1 := hid hb1
    clear hb1
    skip
    go_wp2_with fail
    skip
    refine (P2.out _).mono ?_
    rintro e w2 ⟨rfl, hb2⟩
    have b2 : Hid (Below W.heap.size W w2) := below_to (by repeat (first | exact Below.refl _ _ | exact below_new _ | exact b1.out | assumption | refine Below.drew ?_ | refine Below.drewN ?_ _ | refine below_alloc ?_ _ | refine below_blk' ?_ (by omega) _)) hb2
    clear hb2
    clear b1
    go_wp2_with fail
    have TB := HT.out.keep b2.out
    skip
    refine (S1.out _ TB).mono ?_
    rintro e w3 ⟨rfl, hb3⟩
    have b3 : Hid (Below W.heap.size W w3) := below_to (by repeat (first | exact Below.refl _ _ | exact below_new _ | exact b2.out | assumption | refine Below.drew ?_ | refine Below.drewN ?_ _ | refine below_alloc ?_ _ | refine below_blk' ?_ (by omega) _)) hb3
    clear hb3
    clear b2
    clear TB
    go_wp2_with fail
    skip
    refine (S2.out _).mono ?_
    rintro e w4 ⟨rfl, hb4⟩
    have b4 : Hid (Below W.heap.size W w4) := below_to (by repeat (first | exact Below.refl _ _ | exact below_new _ | exact b3.out | assumption | refine Below.drew ?_ | refine Below.drewN ?_ _ | refine below_alloc ?_ _ | refine below_blk' ?_ (by omega) _)) hb4
    clear hb4
    clear b3
    go_wp2_with fail
    have TB := HT.out.keep b4.out
    skip
    refine (L1.out _ TB).mono ?_
    rintro e w5 ⟨rfl, hb5⟩
    have b5 : Hid (Below W.heap.size W w5) := below_to (by repeat (first | exact Below.refl _ _ | exact below_new _ | exact b4.out | assumption | refine Below.drew ?_ | refine Below.drewN ?_ _ | refine below_alloc ?_ _ | refine below_blk' ?_ (by omega) _)) hb5
    clear hb5
    clear b4
    clear TB
    go_wp2_with fail
    go_ret
    exact ⟨rfl, b5.out⟩
  · have hd : decide (2048 < (k.size : Int) + (s.size : Int)) = true := decide_eq_true (by omega)
    clear hT h
    go_wp2_with fail
    refine (L1.out _ HT.out).mono ?_
    rintro e w1 ⟨rfl, hb1⟩
    go_wp2_with fail
    go_ret
    exact ⟨rfl, hb1⟩
set_option maxRecDepth 100000 in
set_option maxHeartbeats 1000000 in
theorem verifies_any (p s x : ByteArray) (W : World) (hT : Tab W) (hp : p.size ≤ 140737488351232) (hs : s.size ≤ 140737488351232) (hx : x.size ≤ 140737488351232) : Calls Tryz.prog 4 #[.string p, .string s, .string x] W fun e w' => e = .returned (.bool true) ∧ Below W.heap.size W w' := by
  have L1 := hid salive_any
  have HT := hid hT
  have hw : IntKind.i64.wrap ((p.size : Int) + (s.size : Int)) = (p.size : Int) + (s.size : Int) := IntWalk.i64_in _ (by omega)
  have hw2 : IntKind.i64.wrap ((p.size : Int) + (s.size : Int) + (x.size : Int)) = (p.size : Int) + (s.size : Int) + (x.size : Int) := IntWalk.i64_in _ (by omega)
  go_enter Tryz.func4, Tryz.ntmps4
  by_cases h : p.size + s.size + x.size ≤ 2048
  · have hd : decide (2048 < (p.size : Int) + (s.size : Int) + (x.size : Int)) = false := decide_eq_false (by omega)
    have V1 := fun w h => sverify_any p s x w h (by omega) (by omega)
    have V2 := fun w => rver_any p s x w (by omega) (by omega)
    generalize vrB p s x = V at *
    have V1 := hid V1
    have V2 := hid V2
    have hV : (V == V) = true := beq_self_eq_true _
    clear hT h
    go_wp2_with fail
    refine (V1.out _ HT.out).mono ?_
    rintro e w1 ⟨rfl, hb1⟩
    have b1 := hid hb1
    clear hb1
    skip
    go_wp2_with fail
    skip
    refine (V2.out _).mono ?_
    rintro e w2 ⟨rfl, hb2⟩
    have b2 : Hid (Below W.heap.size W w2) := below_to (by repeat (first | exact Below.refl _ _ | exact below_new _ | exact b1.out | assumption | refine Below.drew ?_ | refine Below.drewN ?_ _ | refine below_alloc ?_ _ | refine below_blk' ?_ (by omega) _)) hb2
    clear hb2
    clear b1
    go_wp2_with fail
    have TB := HT.out.keep b2.out
    skip
    refine (L1.out _ TB).mono ?_
    rintro e w3 ⟨rfl, hb3⟩
    have b3 : Hid (Below W.heap.size W w3) := below_to (by repeat (first | exact Below.refl _ _ | exact below_new _ | exact b2.out | assumption | refine Below.drew ?_ | refine Below.drewN ?_ _ | refine below_alloc ?_ _ | refine below_blk' ?_ (by omega) _)) hb3
    clear hb3
    clear b2
    clear TB
    go_wp2_with fail
    go_ret
    exact ⟨rfl, b3.out⟩
  · have hd : decide (2048 < (p.size : Int) + (s.size : Int) + (x.size : Int)) = true := decide_eq_true (by omega)
    clear hT h
    go_wp2_with fail
    refine (L1.out _ HT.out).mono ?_
    rintro e w1 ⟨rfl, hb1⟩
    go_wp2_with fail
    go_ret
    exact ⟨rfl, hb1⟩

end Go.Proofs.YtceljjnohjnepaaGreatDoor

namespace Go.Proofs.YtceljjnohjnepaaGreatDoor
open Go.ChangeShapes Go.WideShapes Go.ChangeAt Go.WideMaps Go.WideElems Go.RowKit

def laidOne {H : Type} : List (String × DataW H) := [("pharos/sha.constants", Rows.laid_pharos_sha_constants)]
set_option maxRecDepth 100000 in
theorem gK : Tryz.prog.globalNamed "pharos/sha.constants" = some 0 := by kernel_rfl
set_option maxRecDepth 100000 in
theorem tK : (Tryz.prog.globals[0]?).map (·.type) = some 119 := by kernel_rfl
set_option maxRecDepth 100000 in
theorem door_met (os : Os) (args : Array Value) : laidMetH Tryz.prog laidOne ((World.doorLaid Tryz.prog 400 os).forCall (fun _ _ => 0) ⟨#[], args, []⟩).memory :=
  laidMetH_of_parts3 (fuel := 8) (laidMet_of_run' 8 (by kernel_rfl) (by kernel_rfl)) (by kernel_rfl) (by kernel_rfl)
set_option maxRecDepth 100000 in
theorem of_laid {W : World} (h : laidMetH Tryz.prog laidOne W) : Tab W := by
  rw [MakeChecks.laidMetH_plain _ _ _ (by kernel_rfl)] at h
  obtain ⟨ps, ⟨g0, t0, cs0, f0, p0, q0, hg0, ht0, hv0, hd0, _, _⟩, _, _⟩ := h
  obtain rfl := Option.some.inj (gK.symm.trans hg0)
  obtain rfl := Option.some.inj (tK.symm.trans ht0)
  obtain ⟨xs, m1, hcs, hx1, hlen, hn3, hel⟩ := DataW.trod_array Tryz.underlying119 hd0
  have c1 : Tryz.prog.cellsOf 34 = 1 := by kernel_rfl
  have c80 : Tryz.prog.cellsOf 119 = 80 := by kernel_rfl
  rw [c80] at hlen
  rw [c1] at hel
  have hxs : xs.map (·.1) = SH.K.map fun x => DataW.lit (.int .u64 (UW x)) := by
    have h1 := (Prod.mk.inj hx1).1
    have h2 : (Rows.laid_pharos_sha_constants : DataW Unit) = .agg (SH.K.map fun x => DataW.lit (.int .u64 (UW x))) := by kernel_rfl
    rw [h2] at h1
    exact (DataW.agg.inj h1).symm
  have hk : SH.K.length = 80 := rfl
  have hcs0 : cs0 = wrow SH.K := by
    apply Array.ext'
    unfold wrow
    simp only []
    apply List.ext_getElem
    · rw [hlen, List.length_map, hk]
    · intro i h1 h2
      have hi : i < 80 := by rw [hlen] at h1; exact h1
      have ht := hel i hi
      have e1 : (cs0.toList.drop (i * 1)).take 1 = [cs0.toList[i]] := by
        rw [Nat.mul_one, List.drop_eq_getElem_cons h1]; rfl
      rw [e1, List.getElem?_eq_getElem (by rw [hn3]; exact hi)] at ht
      obtain ⟨k, a1, a2, _⟩ := DataW.trod_int Tryz.underlying34 ht
      have a3 : cs0.toList[i] = .int .u64 k := by simpa using a1
      have a4 : (xs[i]'(by rw [hn3]; exact hi)).1 = DataW.lit (.int .u64 k) := by rw [a2]
      have a5 : (xs.map (·.1))[i]'(by rw [List.length_map, hn3]; exact hi) = (xs[i]'(by rw [hn3]; exact hi)).1 := List.getElem_map ..
      have a6 : (SH.K.map fun x => (DataW.lit (.int .u64 (UW x)) : DataW Unit))[i]'(by rw [List.length_map, hk]; exact hi) = DataW.lit (.int .u64 (UW (SH.K[i]'(by rw [hk]; exact hi)))) := List.getElem_map ..
      have a7 : DataW.lit (.int .u64 k) = (DataW.lit (.int .u64 (UW (SH.K[i]'(by rw [hk]; exact hi)))) : DataW Unit) := by
        rw [← a4, ← a5, ← a6]
        congr 1
      rw [a3, List.getElem_map]
      injection a7 with a8
      injection a8 with _ a9
      rw [a9]
  unfold World.var? at hv0
  rw [hg0, Option.bind_some] at hv0
  cases hh : W.heap[0]? with
  | none => simp [hh] at hv0
  | some o =>
    rw [hh] at hv0
    cases o with
    | cells c T fz =>
      simp at hv0
      subst hv0
      rw [hcs0] at hh
      exact ⟨T, fz, hh⟩
    | _ => simp at hv0

end Go.Proofs.YtceljjnohjnepaaGreatDoor
