/- The law CongPlays of the congestion control: for every input it returns true and leaves its arguments as they were. -/
import Derived.Test.YtekjnljjhdochaaO
import Derived.Test.YtekjnljjhdochaaCongL1
namespace Go.Proofs.Ytekjnljjhdochaa
open Go.RowKit Go.Deep

instance : Inhabited Stp := ⟨⟨0, 0, 0⟩⟩

section
variable {H : Type} {enc : TypeId × Value → H} {w : World} {base : Nat} {held : Bool}
theorem steps_open {fuel : Nat} {a : Option Addr} {len cap : Nat} {x : DataW H × List MemPlace} (h : DataW.trod enc Try.prog w base (fun _ => true) held fuel 23 [.slice a len cap] = some x) :
    len ≤ maxLen ∧ ∃ s, StepsAt w a len s := by
  obtain ⟨hm, h0 | ⟨b, off, rfl, hb, hc⟩⟩ := slice_fields_at Try.underlying23 Try.underlying37 (by kernel_rfl) (by kernel_rfl) (by decide) h
  · exact ⟨hm, fun _ => ⟨0, 0, 0⟩, .inl h0⟩
  · obtain ⟨s, hs⟩ := choose_lt (α := Stp) (n := len) (p := fun k t => w.cell? ⟨b, off + k * 3, none⟩ = some (.int .i64 t.o) ∧ w.cell? ⟨b, off + k * 3 + 1, none⟩ = some (.int .u32 t.a) ∧
        w.cell? ⟨b, off + k * 3 + 2, none⟩ = some (.int .u32 t.b) ∧ (0 ≤ t.a ∧ t.a ≤ 4294967295) ∧ (0 ≤ t.b ∧ t.b ≤ 4294967295)) (fun k hk => by
      obtain ⟨n, hf⟩ := hc k hk
      obtain ⟨v0, y0, c0, t0⟩ := hf 0 _ rfl
      obtain ⟨v1, y1, c1, t1⟩ := hf 1 _ rfl
      obtain ⟨v2, y2, c2, t2⟩ := hf 2 _ rfl
      obtain ⟨n0, e0, _, _⟩ := DataW.trod_int Try.underlying3 t0
      obtain ⟨n1, e1, _, f1⟩ := DataW.trod_int Try.underlying22 t1
      obtain ⟨n2, e2, _, f2⟩ := DataW.trod_int Try.underlying22 t2
      simp only [List.cons.injEq, and_true] at e0 e1 e2
      subst e0 e1 e2
      have g1 := bounds_u32 f1
      have g2 := bounds_u32 f2
      exact ⟨⟨n0, n1, n2⟩, c0, c1, c2, by simp only; omega, by simp only; omega⟩)
    exact ⟨hm, s, .inr ⟨b, off, rfl, hb, hs⟩⟩
end

namespace congPlays
open Go.ChangeShapes Go.WideShapes Go.ChangeAt Go.RowKit
open Go.ChangeMaps (open_string shut_string)
theorem own : ownKnob Try.prog.godebug = none := by kernel_rfl
theorem laidOut : laidOutB Try.prog = true := by kernel_rfl
set_option maxRecDepth 100000 in
theorem lifted (os : Os) (started : os.Started) (H : Type) (enc : TypeId × Value → H) :
    ReturnsInHanded {} Try.checked os 3 .any (Rows.congPlaysSpec.pre6 enc Try.prog Try.f3 Rows.congPlaysRow.domain false) (Rows.congPlaysSpec.post enc Try.prog Try.f3 false true false false) := by
  refine returnsInHanded_of_change (C := Try.checked) own started (by kernel_rfl) Try.func3
    (ChangeSpec.witness6 (enc := enc) (C := Try.checked) false ⟨#[], #[.int .u32 0, .slice none 0 0], []⟩ 8 (by kernel_rfl) (by kernel_rfl) (by kernel_rfl) (by kernel_rfl)) ?_
  intro W base args ds gs before hval0 hW hcnd _
  have hval : ∀ (j : Nat) t v, Try.f3.params[j]? = some t → args[j]? = some v → Value.okWide Try.prog W .any base t v := hval0
  have hW' := hW
  obtain ⟨p, q, hA0, hV, rfl, hfz, hnd⟩ := hW
  have hA : DataW.TrodAll enc Try.prog W 0 (fun _ => true) true Try.f3.params.toList args.toList ds p := hA0
  rw [Try.params3] at hA hval
  obtain ⟨v0, vs0, d0, ds0, p0, q0, hargs, rfl, rfl, h0, r0⟩ := trodAll_cons hA
  obtain ⟨v1, vs1, d1, ds1, p1, q1, rfl, rfl, rfl, h1, r1⟩ := trodAll_cons r0
  obtain ⟨rfl, rfl, rfl⟩ := trodAll_nil r1
  obtain rfl : args = #[v0, v1] := by cases args; simp_all
  obtain ⟨rfl, rfl⟩ := trodVars_none hV
  have k0 := h0
  have lt0 : ∀ x ∈ p0, x.block < W.heap.size := by obtain ⟨m, hm⟩ := k0; exact DataW.trod_lt m _ _ _ hm
  obtain ⟨a0, rfl, rfl, rfl, w0⟩ := open_int Try.underlying22 (hval 0 22 v0 rfl rfl) h0
  have k1 := h1
  have lt1 : ∀ x ∈ p1, x.block < W.heap.size := by obtain ⟨m, hm⟩ := k1; exact DataW.trod_lt m _ _ _ hm
  obtain ⟨a1, len1, cap1, rfl⟩ := okWide_slice Try.underlying23 (hval 1 23 v1 rfl rfl)
  obtain ⟨fuel1, hf1⟩ := h1
  clear hA0 hval0
  obtain ⟨hmax, s, hs⟩ := steps_open hf1
  have b0 := bounds_u32 w0
  unfold maxLen at hmax
  refine Calls.mono (R := fun e w' => e = .returned (.bool true) ∧ Below W.heap.size W w') ?_ fun e W' ⟨he, bel⟩ => ?_
  · by_cases hl : len1 ≤ 300
    · exact plays_any a0 a1 len1 cap1 s W (by omega) hs hl
    · exact plays_far a0 a1 len1 cap1 W (by omega) (by omega)
  subst he
  exact ⟨_, rfl, _, _, _, [], _, [], hW', trodAll_mk1 (shut_bool Try.underlying4 _), (trodAll_cons_mk (Below.trod laidOut (by kernel_rfl) (of_decide_eq_true (by kernel_rfl)) k0 bel lt0) (trodAll_cons_mk (Below.trod laidOut (by kernel_rfl) (of_decide_eq_true (by kernel_rfl)) k1 bel lt1) trodAll_mk0)), rfl, bel.frame _, fun h => by cases h⟩

theorem over : Rows.congPlaysRow.holds Try.pinned (OpenSpec.ofChange Rows.congPlaysSpec) :=
  OpenClaim.holds_of_wide 3 Try.f3 rfl rfl rfl rfl rfl rfl rfl ⟨rfl, rfl, rfl, rfl, rfl⟩ rfl rfl rfl rfl rfl (by kernel_rfl) Try.func3 (by kernel_rfl)
    (of_decide_eq_true (by kernel_rfl)) (by unfold Func.isWrapper; first | (rw [if_pos (by decide +kernel)]; kernel_rfl) | (rw [if_neg (by decide +kernel)]; exact ⟨rfl, rfl⟩))
    (fun os started H enc _ => lifted os started H enc)
end congPlays
/-- The given statement. -/
theorem congPlays_proved : Rows.CongPlaysSaid := congPlays.over
#print axioms congPlays_proved

end Go.Proofs.Ytekjnljjhdochaa
