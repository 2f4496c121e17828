/- The law SumPieces, whatever comes. -/
import Derived.Test.YtejkimhmpnogkaaDoorSumL3
namespace Go.Proofs.YtejkimhmpnogkaaDoor
open Go.RowKit

set_option maxRecDepth 100000 in
set_option maxHeartbeats 1000000 in
theorem pieces_any (ss : List ByteArray) (copies : Int) (hcp : 0 ≤ copies ∧ copies < 18446744073709551616) (other : ByteArray) (a : Option Addr) (cap : Nat) (W : World) (hT : Tab W) (hm : ss.length ≤ 9223372036854775807) (hsz : ∀ j, j < ss.length → (ss.getD j ByteArray.empty).size ≤ 140737488351232) (ho : other.size ≤ 140737488351232)
    (ha : ss.length = 0 ∨ ∃ b off, a = some ⟨b, off, none⟩ ∧ b < W.heap.size ∧ ∀ j, j < ss.length → W.cell? ⟨b, off + j, none⟩ = some (.string (ss.getD j ByteArray.empty))) :
    Calls Tryd.prog 5 #[.slice a ss.length cap, .int .u64 copies, .string other] W fun e w' => e = .returned (.bool true) ∧ Below W.heap.size W w' := by
  by_cases hs : wsum ss ≤ 2048
  · by_cases hs2 : 8 + other.size ≤ 2048
    · exact pieces_near ss copies hcp other a cap W hT hm hsz ho ha hs hs2
    · have hsm := small_any ss a cap W hm hsz (by
        rcases ha with h | ⟨b, off, h1, _, h2⟩
        · exact .inl h
        · exact .inr ⟨b, off, h1, h2⟩)
      rw [decide_eq_true hs] at hsm
      have hso := small_one other W.heap.size _ ho (cell_at (alloc_at W (.cells #[.string other] 9)) 0)
      rw [decide_eq_false hs2] at hso
      have T1 := hid (hT.keep (below_new (w := W) (.cells #[.string other] 9)))
      have B1 := hid (below_new (w := W) (.cells #[.string other] 9))
      have HSM := hid hsm
      have HSO := hid hso
      clear hT ha hsz hsm hso hs
      generalize ss.length = len at *
      go_enter Tryd.func5, Tryd.ntmps5
      go_wp2_with fail
      refine HSM.out.mono ?_
      rintro e w' ⟨rfl, rfl⟩
      go_wp2_with fail
      refine HSO.out.mono ?_
      rintro e w' ⟨rfl, rfl⟩
      go_wp2_with fail
      refine (alive_any _ T1.out).mono ?_
      rintro e w8 ⟨rfl, hb8⟩
      go_wp2_with fail
      go_ret
      exact ⟨rfl, below_to B1.out hb8⟩
  · have hsm := small_any ss a cap W hm hsz (by
      rcases ha with h | ⟨b, off, h1, _, h2⟩
      · exact .inl h
      · exact .inr ⟨b, off, h1, h2⟩)
    rw [decide_eq_false hs] at hsm
    have T1 := hid hT
    have HSM := hid hsm
    clear hT ha hsz hsm hs
    generalize ss.length = len at *
    go_enter Tryd.func5, Tryd.ntmps5
    go_wp2_with fail
    refine HSM.out.mono ?_
    rintro e w' ⟨rfl, rfl⟩
    go_wp2_with fail
    refine (alive_any _ T1.out).mono ?_
    rintro e w8 ⟨rfl, hb8⟩
    go_wp2_with fail
    go_ret
    exact ⟨rfl, hb8⟩

end Go.Proofs.YtejkimhmpnogkaaDoor
