/- The law NumRows: for every input it returns true and leaves its arguments as they were. -/
import Derived.Test.YtoaihbmicdbaiaaO
import Derived.Test.YtoaihbmicdbaiaaNumL6
namespace Go.Proofs.Ytoaihbmicdbaiaa
open Go.RowKit Go.Deep

section
variable {H : Type} {enc : TypeId × Value → H} {w : World} {base : Nat} {held : Bool}
theorem steps_open {fuel : Nat} {a : Option Addr} {len cap : Nat} {x : DataW H × List MemPlace} (h : DataW.trod enc Try.prog w base (fun _ => true) held fuel 50 [.slice a len cap] = some x) :
    len ≤ maxLen ∧ ∃ ds ss, StepsAt w a len ds ss := by
  obtain ⟨hm, h0 | ⟨b, off, rfl, hb, hc⟩⟩ := slice_fields_at Try.underlying50 Try.underlying52 (by kernel_rfl) (by kernel_rfl) (by decide) h
  · exact ⟨hm, fun _ => 0, fun _ => ByteArray.empty, .inl h0⟩
  · have hx : ∀ k, k < len → ∃ t : Int × ByteArray, w.cell? ⟨b, off + k * 2, none⟩ = some (.int .u8 t.1) ∧ w.cell? ⟨b, off + k * 2 + 1, none⟩ = some (.string t.2) ∧ t.2.size ≤ 9223372036854775807 := fun k hk => by
      obtain ⟨n, hf⟩ := hc k hk
      obtain ⟨v0, y0, c0, t0⟩ := hf 0 _ rfl
      obtain ⟨v1, y1, c1, t1⟩ := hf 1 _ rfl
      obtain ⟨n0, e0, _, _⟩ := DataW.trod_int Try.underlying5 t0
      obtain ⟨s1, e1, _, f1⟩ := DataW.trod_string Try.underlying9 t1
      simp only [List.cons.injEq, and_true] at e0 e1
      subst e0 e1
      exact ⟨(n0, s1), c0, c1, f1⟩
    refine ⟨hm, fun k => if hk : k < len then (Classical.choose (hx k hk)).1 else 0, fun k => if hk : k < len then (Classical.choose (hx k hk)).2 else ByteArray.empty, .inr ⟨b, off, rfl, hb, fun k hk => ?_⟩⟩
    have := Classical.choose_spec (hx k hk)
    simp only [hk, dif_pos]
    exact this
end

namespace numRows
open Go.ChangeShapes Go.WideShapes Go.ChangeAt Go.RowKit
open Go.ChangeMaps (open_string shut_string)
theorem own : ownKnob Try.prog.godebug = none := by kernel_rfl
theorem laidOut : laidOutB Try.prog = true := by kernel_rfl
set_option maxRecDepth 100000 in
theorem lifted (os : Os) (started : os.Started) (H : Type) (enc : TypeId × Value → H) :
    ReturnsInHanded {} Try.checked os 6 .any (Rows.numRowsSpec.pre6 enc Try.prog Try.f6 Rows.numRowsRow.domain false) (Rows.numRowsSpec.post enc Try.prog Try.f6 false true false false) := by
  refine returnsInHanded_of_change (C := Try.checked) own started (by kernel_rfl) Try.func6
    (ChangeSpec.witness6 (enc := enc) (C := Try.checked) false ⟨#[], #[.string ByteArray.empty, .slice none 0 0], []⟩ 8 (by kernel_rfl) (by kernel_rfl) (by kernel_rfl) (by kernel_rfl)) ?_
  intro W base args ds gs before hval0 hW hcnd _
  have hval : ∀ (j : Nat) t v, Try.f6.params[j]? = some t → args[j]? = some v → Value.okWide Try.prog W .any base t v := hval0
  have hW' := hW
  obtain ⟨p, q, hA0, hV, rfl, hfz, hnd⟩ := hW
  have hA : DataW.TrodAll enc Try.prog W 0 (fun _ => true) true Try.f6.params.toList args.toList ds p := hA0
  rw [Try.params6] at hA hval
  obtain ⟨v0, vs0, d0, ds0, p0, q0, hargs, rfl, rfl, h0, r0⟩ := trodAll_cons hA
  obtain ⟨v1, vs1, d1, ds1, p1, q1, rfl, rfl, rfl, h1, r1⟩ := trodAll_cons r0
  obtain ⟨rfl, rfl, rfl⟩ := trodAll_nil r1
  obtain rfl : args = #[v0, v1] := by cases args; simp_all
  obtain ⟨rfl, rfl⟩ := trodVars_none hV
  have k0 := h0
  have lt0 : ∀ x ∈ p0, x.block < W.heap.size := by obtain ⟨m, hm⟩ := k0; exact DataW.trod_lt m _ _ _ hm
  obtain ⟨a0, rfl, rfl, rfl, w0⟩ := open_string Try.underlying9 (hval 0 9 v0 rfl rfl) h0
  have k1 := h1
  have lt1 : ∀ x ∈ p1, x.block < W.heap.size := by obtain ⟨m, hm⟩ := k1; exact DataW.trod_lt m _ _ _ hm
  obtain ⟨a1, len1, cap1, rfl⟩ := okWide_slice Try.underlying50 (hval 1 50 v1 rfl rfl)
  obtain ⟨fuel1, hf1⟩ := h1
  clear hA0 hval0
  obtain ⟨hmax, ds, ss, hs⟩ := steps_open hf1
  unfold maxLen at hmax
  refine Calls.mono (R := fun e w' => e = .returned (.bool true) ∧ Below W.heap.size W w') ?_ fun e W' ⟨he, bel⟩ => ?_
  · by_cases h1 : a0.size = 32 ∧ len1 ≤ 100
    · exact rows_ok a0 a1 len1 cap1 ds ss W h1.1 h1.2 hs
    · exact rows_bad a0 a1 len1 cap1 W w0 (by omega) (by omega)
  subst he
  exact ⟨_, rfl, _, _, _, [], _, [], hW', trodAll_mk1 (shut_bool Try.underlying4 _), (trodAll_cons_mk (Below.trod laidOut (by kernel_rfl) (of_decide_eq_true (by kernel_rfl)) k0 bel lt0) (trodAll_cons_mk (Below.trod laidOut (by kernel_rfl) (of_decide_eq_true (by kernel_rfl)) k1 bel lt1) trodAll_mk0)), rfl, bel.frame _, fun h => by cases h⟩

theorem over : Rows.numRowsRow.holds Try.pinned (OpenSpec.ofChange Rows.numRowsSpec) :=
  OpenClaim.holds_of_wide 6 Try.f6 rfl rfl rfl rfl rfl rfl rfl ⟨rfl, rfl, rfl, rfl, rfl⟩ rfl rfl rfl rfl rfl (by kernel_rfl) Try.func6 (by kernel_rfl)
    (of_decide_eq_true (by kernel_rfl)) (by unfold Func.isWrapper; first | (rw [if_pos (by decide +kernel)]; kernel_rfl) | (rw [if_neg (by decide +kernel)]; exact ⟨rfl, rfl⟩))
    (fun os started H enc _ => lifted os started H enc)
end numRows
/-- The given statement. -/
theorem numRows_proved : Rows.NumRowsSaid := numRows.over
#print axioms numRows_proved

end Go.Proofs.Ytoaihbmicdbaiaa
