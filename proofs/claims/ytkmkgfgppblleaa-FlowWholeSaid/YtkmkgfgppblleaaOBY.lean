/- Openers for arguments: a slice of bytes. -/
import Derived.Test.YtkmkgfgppblleaaB
import Derived.ProofKit
import Derived.OpenShut
import Derived.Deep.Strs
namespace Go.Proofs.Ytkmkgfgppblleaa
open Go.RowKit Go.ChangeShapes Go.WideShapes Go.Deep

section
variable {H : Type} {enc : TypeId × Value → H} {P : Program} {w : World} {base : Nat} {held : Bool}
/-- The bytes of a slice of bytes that came in. -/
theorem slice_bytes_at {t e : TypeId} {fuel : Nat} {a : Option Addr} {len cap : Nat} {x : DataW H × List MemPlace} (ht : P.underlying t = some (.slice e)) (he : P.underlying e = some (.int .u8)) (hC : P.cellsOf e = 1)
    (h : DataW.trod enc P w base (fun _ => true) held fuel t [.slice a len cap] = some x) :
    len ≤ maxLen ∧ ∃ ks : List UInt8, ks.length = len ∧ (len = 0 ∨ ∃ b off, a = some ⟨b, off, none⟩ ∧ b < w.heap.size ∧
      ∀ j, j < len → w.cell? ⟨b, off + j, none⟩ = some (.int .u8 ((ks.getD j 0).toNat : Int))) := by
  rcases open_slice1 ht hC h with ⟨hcs, _⟩ | ⟨a', l, c, m, n, V, D, Pl, hcs, _, hl, hm, hmm, _, hi⟩
  · simp only [List.cons.injEq, Value.slice.injEq, and_true] at hcs
    obtain ⟨rfl, rfl, rfl⟩ := hcs
    exact ⟨Nat.zero_le _, [], rfl, .inl rfl⟩
  · simp only [List.cons.injEq, Value.slice.injEq, and_true] at hcs
    obtain ⟨rfl, rfl, rfl⟩ := hcs
    have hmc : m = cap := by simpa using hmm
    obtain ⟨s, hs⟩ := choose_lt (α := UInt8) (n := len) (p := fun k c => w.cell? (a'.add k) = some (.int .u8 (c.toNat : Int))) (fun k hk => by
      obtain ⟨hc, htr⟩ := hi k (by omega)
      obtain ⟨n0, e0, _, f0⟩ := DataW.trod_int he htr
      have hb := bounds_u8 f0
      obtain ⟨q, rfl⟩ := Int.eq_ofNat_of_zero_le hb.1
      have e1 : V k = .int .u8 (q : Int) := by simpa using e0
      exact ⟨UInt8.ofNat q, by rw [hc, e1, UInt8.toNat_ofNat', Nat.mod_eq_of_lt (by have := hb.2; omega)]⟩)
    have hg : ∀ j, j < len → ((List.range len).map s).getD j 0 = s j := fun j hj => by simp [hj]
    refine ⟨by omega, (List.range len).map s, by simp, ?_⟩
    by_cases h0 : len = 0
    · exact .inl h0
    · right
      have hc := hs 0 (by omega)
      obtain ⟨b, off, spot⟩ := a'
      have hspot : spot = none := by simpa [Addr.add] using World.cell?_spot hc
      subst hspot
      refine ⟨b, off, rfl, by simpa [add_plain] using World.block_lt_of_cell? w _ hc, fun j hj => ?_⟩
      rw [hg j hj]
      have := hs j hj
      rwa [add_plain] at this
end

end Go.Proofs.Ytkmkgfgppblleaa
