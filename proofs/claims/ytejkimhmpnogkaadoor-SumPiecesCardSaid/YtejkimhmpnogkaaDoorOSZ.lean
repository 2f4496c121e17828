/- A slice of texts that came in: what they weigh. -/
import Derived.Test.YtejkimhmpnogkaaDoorOS
import Derived.SizedLaws
namespace Go.Proofs.YtejkimhmpnogkaaDoor
open Go.RowKit Go.ChangeShapes Go.WideShapes Go.Deep

section
variable {H : Type} {enc : TypeId × Value → H} {P : Program} {w : World} {base : Nat} {held : Bool}
theorem weights_mem_all' {e : TypeId} {d : DataW H} {n : Nat} : ∀ {l : List (DataW H)}, d ∈ l → n ∈ d.weights P e → n ∈ DataW.weightsAll P e l
  | x :: l, hm, hn => by
    simp only [DataW.weightsAll, List.mem_append]
    rcases List.mem_cons.1 hm with rfl | h
    · exact .inl hn
    · exact .inr (weights_mem_all' h hn)
theorem slice_strs_sized {t e : TypeId} {fuel : Nat} {a : Option Addr} {len cap : Nat} {x : DataW H × List MemPlace} (ht : P.underlying t = some (.slice e)) (he : P.underlying e = some .string) (hC : P.cellsOf e = 1)
    (h : DataW.trod enc P w base (fun _ => true) held fuel t [.slice a len cap] = some x) (hz : ∀ n ∈ x.1.weights P t, n ≤ reachBytes) :
    len ≤ maxLen ∧ ∃ ss : List ByteArray, ss.length = len ∧ (∀ j, j < len → (ss.getD j ByteArray.empty).size ≤ 140737488351232) ∧ (len = 0 ∨ ∃ b off, a = some ⟨b, off, none⟩ ∧ b < w.heap.size ∧
      ∀ j, j < len → w.cell? ⟨b, off + j, none⟩ = some (.string (ss.getD j ByteArray.empty))) := by
  rcases open_strs ht he hC h with ⟨hcs, _⟩ | ⟨a', l, c, m, Sx, hcs, _, hl, hm, hmm, rfl, hi⟩
  · simp only [List.cons.injEq, Value.slice.injEq, and_true] at hcs
    obtain ⟨rfl, rfl, rfl⟩ := hcs
    exact ⟨Nat.zero_le _, [], rfl, fun j hj => absurd hj (Nat.not_lt_zero _), .inl rfl⟩
  · simp only [List.cons.injEq, Value.slice.injEq, and_true] at hcs
    obtain ⟨rfl, rfl, rfl⟩ := hcs
    have hg : ∀ j, j < len → ((List.range len).map Sx).getD j ByteArray.empty = Sx j := fun j hj => by simp [hj]
    refine ⟨by omega, (List.range len).map Sx, by simp, fun j hj => ?_, ?_⟩
    · rw [hg j hj]
      have := hz (Sx j).data.toList.length (by
        simp only [DataW.weights, ht, List.mem_cons, List.mem_append]
        refine .inr (.inl (weights_mem_all' (d := .lit (.string (Sx j).data.toList)) (List.mem_map.2 ⟨j, List.mem_range.2 hj, rfl⟩) ?_))
        simp [DataW.weights])
      have e : (Sx j).data.toList.length = (Sx j).size := by simp
      rw [e] at this
      exact this
    · by_cases h0 : len = 0
      · exact .inl h0
      · right
        have hmc : m = cap := by simpa using hmm
        have hc := (hi 0 (by omega)).1
        obtain ⟨b, off, spot⟩ := a'
        have hspot : spot = none := by simpa [Addr.add] using World.cell?_spot hc
        subst hspot
        refine ⟨b, off, rfl, by simpa [add_plain] using World.block_lt_of_cell? w _ hc, fun j hj => ?_⟩
        rw [hg j hj]
        have := (hi j (by omega)).1
        rwa [add_plain] at this
end

end Go.Proofs.YtejkimhmpnogkaaDoor
