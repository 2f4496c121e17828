/- The digest's table, laid: what the condition on the variable gives. -/
import Derived.Test.YtceljjnohjnepaaDoorM13
import Derived.ProofKit
import Derived.LaidMore
import Derived.OpenShut
import Derived.Stop.Joined
namespace Go.Proofs.YtceljjnohjnepaaDoor
open Go.ChangeShapes Go.WideShapes Go.ChangeAt Go.WideMaps Go.WideElems Go.RowKit

def laidOne {H : Type} : List (String × DataW H) := [("pharos/sha.constants", Rows.laid_pharos_sha_constants)]
set_option maxRecDepth 100000 in
theorem gK : Tryd.prog.globalNamed "pharos/sha.constants" = some 0 := by kernel_rfl
set_option maxRecDepth 100000 in
theorem tK : (Tryd.prog.globals[0]?).map (·.type) = some 90 := by kernel_rfl
set_option maxRecDepth 100000 in
theorem door_met (os : Os) (args : Array Value) : laidMetH Tryd.prog laidOne ((World.doorLaid Tryd.prog 400 os).forCall (fun _ _ => 0) ⟨#[], args, []⟩).memory :=
  laidMetH_of_parts3 (fuel := 8) (laidMet_of_run' 8 (by kernel_rfl) (by kernel_rfl)) (by kernel_rfl) (by kernel_rfl)
set_option maxRecDepth 100000 in
theorem of_laid {W : World} (h : laidMetH Tryd.prog laidOne W) : Tab W := by
  rw [MakeChecks.laidMetH_plain _ _ _ (by kernel_rfl)] at h
  obtain ⟨ps, ⟨g0, t0, cs0, f0, p0, q0, hg0, ht0, hv0, hd0, _, _⟩, _, _⟩ := h
  obtain rfl := Option.some.inj (gK.symm.trans hg0)
  obtain rfl := Option.some.inj (tK.symm.trans ht0)
  obtain ⟨xs, m1, hcs, hx1, hlen, hn3, hel⟩ := DataW.trod_array Tryd.underlying90 hd0
  have c1 : Tryd.prog.cellsOf 34 = 1 := by kernel_rfl
  have c80 : Tryd.prog.cellsOf 90 = 80 := by kernel_rfl
  rw [c80] at hlen
  rw [c1] at hel
  have hxs : xs.map (·.1) = SH.K.map fun x => DataW.lit (.int .u64 (UW x)) := by
    have h1 := (Prod.mk.inj hx1).1
    have h2 : (Rows.laid_pharos_sha_constants : DataW Unit) = .agg (SH.K.map fun x => DataW.lit (.int .u64 (UW x))) := by kernel_rfl
    rw [h2] at h1
    exact (DataW.agg.inj h1).symm
  have hk : SH.K.length = 80 := rfl
  have hcs0 : cs0 = wrow SH.K := by
    apply Array.ext'
    unfold wrow
    simp only []
    apply List.ext_getElem
    · rw [hlen, List.length_map, hk]
    · intro i h1 h2
      have hi : i < 80 := by rw [hlen] at h1; exact h1
      have ht := hel i hi
      have e1 : (cs0.toList.drop (i * 1)).take 1 = [cs0.toList[i]] := by
        rw [Nat.mul_one, List.drop_eq_getElem_cons h1]; rfl
      rw [e1, List.getElem?_eq_getElem (by rw [hn3]; exact hi)] at ht
      obtain ⟨k, a1, a2, _⟩ := DataW.trod_int Tryd.underlying34 ht
      have a3 : cs0.toList[i] = .int .u64 k := by simpa using a1
      have a4 : (xs[i]'(by rw [hn3]; exact hi)).1 = DataW.lit (.int .u64 k) := by rw [a2]
      have a5 : (xs.map (·.1))[i]'(by rw [List.length_map, hn3]; exact hi) = (xs[i]'(by rw [hn3]; exact hi)).1 := List.getElem_map ..
      have a6 : (SH.K.map fun x => (DataW.lit (.int .u64 (UW x)) : DataW Unit))[i]'(by rw [List.length_map, hk]; exact hi) = DataW.lit (.int .u64 (UW (SH.K[i]'(by rw [hk]; exact hi)))) := List.getElem_map ..
      have a7 : DataW.lit (.int .u64 k) = (DataW.lit (.int .u64 (UW (SH.K[i]'(by rw [hk]; exact hi)))) : DataW Unit) := by
        rw [← a4, ← a5, ← a6]
        congr 1
      rw [a3, List.getElem_map]
      injection a7 with a8
      injection a8 with _ a9
      rw [a9]
  unfold World.var? at hv0
  rw [hg0, Option.bind_some] at hv0
  cases hh : W.heap[0]? with
  | none => simp [hh] at hv0
  | some o =>
    rw [hh] at hv0
    cases o with
    | cells c T fz =>
      simp at hv0
      subst hv0
      rw [hcs0] at hh
      exact ⟨T, fz, hh⟩
    | _ => simp at hv0

end Go.Proofs.YtceljjnohjnepaaDoor
