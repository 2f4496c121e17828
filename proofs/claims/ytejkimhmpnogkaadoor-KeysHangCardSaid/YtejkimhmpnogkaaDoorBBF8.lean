/- A bytes.Buffer in a struct's fields: what Bytes shows, as one value. -/
import Derived.Test.YtejkimhmpnogkaaDoorBBF7
namespace Go.Proofs.YtejkimhmpnogkaaDoor
open Go Go.RowKit

set_option maxHeartbeats 400000 in
theorem bbytes_fix {w : World} {P k : Nat} {T : TypeId} {cs : Array Value} {v : Value} {o : Nat} {r : Int} {l : List UInt8} (h : BufAt w P k T cs v o r l) :
    ∃ a ca, l.length ≤ ca ∧ ca ≤ 9223372036854775807 ∧ (0 < l.length → ∃ g o', a = some ⟨g, o', none⟩ ∧ v.ownBlock = some g ∧ ∀ j, j < l.length → w.cell? ⟨g, o' + j, none⟩ = some (.int .u8 ((l.getD j 0).toNat : Int))) ∧
      ∀ w2, BufAt w2 P k T cs v o r l → Calls Tryd.prog 44 #[.pointer (some ⟨P, k, none⟩)] w2 fun e w' => e = .returned (.slice a l.length ca) ∧ Dr w2 w' := by
  rcases h.own with ⟨rfl, rfl, rfl⟩ | ⟨g, cap, cur, rfl, h2, h3, h4, h5, h6, h7⟩
  · refine ⟨none, 0, by simp, by omega, fun h => absurd h (by simp), fun w2 hb => ?_⟩
    have c0 := hb.c0
    have c1 := hb.c1
    clear h hb
    go_enter Tryd.func44, Tryd.ntmps44
    go_wp2_with fail
    go_quiet (fail)
    go_wp2_with fail
    go_ret
    exact ⟨rfl, ⟨_, rfl⟩⟩
  · by_cases hc : o = cap
    · have hl0 : l.length = 0 := by omega
      obtain rfl := List.eq_nil_of_length_eq_zero hl0
      subst hc
      refine ⟨some ⟨g, 0, none⟩, 0, by simp, by omega, fun h => absurd h (by simp), fun w2 hb => ?_⟩
      have c0 := hb.c0
      have c1 := hb.c1
      clear h hb hl0 h2 h6
      simp only [List.length_nil, Nat.add_zero] at c0 h3
      go_enter Tryd.func44, Tryd.ntmps44
      go_wp2_with fail
      go_quiet (fail)
      go_wp2_with fail
      go_ret
      exact ⟨rfl, ⟨_, rfl⟩⟩
    · have hlt : o < cap := by omega
      refine ⟨some ⟨g, o, none⟩, cap - o, by omega, by omega, fun _ => ⟨g, o, rfl, rfl, fun j hj => own_cell h2 h6 hj⟩, fun w2 hb => ?_⟩
      have c0 := hb.c0
      have c1 := hb.c1
      clear h hb h2 h6
      generalize l.length = n at *
      go_enter Tryd.func44, Tryd.ntmps44
      go_wp2_with fail
      go_quiet (fail)
      go_wp2_with fail
      go_ret
      exact ⟨rfl, ⟨_, rfl⟩⟩

end Go.Proofs.YtejkimhmpnogkaaDoor
