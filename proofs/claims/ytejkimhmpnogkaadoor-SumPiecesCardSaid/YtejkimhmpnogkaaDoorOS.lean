/- Openers for arguments: a slice of strings. -/
import Derived.Test.YtejkimhmpnogkaaDoorB
import Derived.ProofKit
import Derived.OpenShut
import Derived.ShutString
import Derived.Deep.Strs
namespace Go.Proofs.YtejkimhmpnogkaaDoor
open Go.RowKit Go.ChangeShapes Go.WideShapes Go.Deep

section
variable {H : Type} {enc : TypeId × Value → H} {P : Program} {w : World} {base : Nat} {held : Bool}
/-- The texts of a slice of strings that came in. -/
theorem slice_strs_at {t e : TypeId} {fuel : Nat} {a : Option Addr} {len cap : Nat} {x : DataW H × List MemPlace} (ht : P.underlying t = some (.slice e)) (he : P.underlying e = some .string) (hC : P.cellsOf e = 1)
    (h : DataW.trod enc P w base (fun _ => true) held fuel t [.slice a len cap] = some x) :
    len ≤ maxLen ∧ ∃ ss : List ByteArray, ss.length = len ∧ (∀ j, j < len → (ss.getD j ByteArray.empty).size ≤ maxLen) ∧ (len = 0 ∨ ∃ b off, a = some ⟨b, off, none⟩ ∧ b < w.heap.size ∧
      ∀ j, j < len → w.cell? ⟨b, off + j, none⟩ = some (.string (ss.getD j ByteArray.empty))) := by
  rcases open_strs ht he hC h with ⟨hcs, _⟩ | ⟨a', l, c, m, Sx, hcs, _, hl, hm, hmm, _, hi⟩
  · simp only [List.cons.injEq, Value.slice.injEq, and_true] at hcs
    obtain ⟨rfl, rfl, rfl⟩ := hcs
    exact ⟨Nat.zero_le _, [], rfl, fun j hj => absurd hj (Nat.not_lt_zero _), .inl rfl⟩
  · simp only [List.cons.injEq, Value.slice.injEq, and_true] at hcs
    obtain ⟨rfl, rfl, rfl⟩ := hcs
    have hmc : m = cap := by simpa using hmm
    have hg : ∀ j, j < len → ((List.range len).map Sx).getD j ByteArray.empty = Sx j := fun j hj => by simp [hj]
    refine ⟨by omega, (List.range len).map Sx, by simp, fun j hj => by rw [hg j hj]; exact (hi j (by omega)).2, ?_⟩
    by_cases h0 : len = 0
    · exact .inl h0
    · right
      have hc := (hi 0 (by omega)).1
      obtain ⟨b, off, spot⟩ := a'
      have hspot : spot = none := by simpa [Addr.add] using World.cell?_spot hc
      subst hspot
      refine ⟨b, off, rfl, by simpa [add_plain] using World.block_lt_of_cell? w _ hc, fun j hj => ?_⟩
      rw [hg j hj]
      have := (hi j (by omega)).1
      rwa [add_plain] at this
end

end Go.Proofs.YtejkimhmpnogkaaDoor
