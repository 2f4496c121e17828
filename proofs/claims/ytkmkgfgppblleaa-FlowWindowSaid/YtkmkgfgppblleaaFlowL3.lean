/- A script in memory; heavy. -/
import Derived.Test.YtkmkgfgppblleaaFlowL1
import Derived.Test.YtkmkgfgppblleaaFlowQ
import Derived.Test.YtkmkgfgppblleaaO2
namespace Go.Proofs.Ytkmkgfgppblleaa
open Go.RowKit FL Go.Deep

/-- A step of a script. -/
structure Stp where
  seq : Nat
  data : ByteArray
  fin : Bool
  reads : Bool
  n : Int
/-- A script in memory. -/
def StepsAt (w : World) (a : Option Addr) (len : Nat) (f : Nat → Stp) : Prop :=
  len = 0 ∨ ∃ b off, a = some ⟨b, off, none⟩ ∧ b < w.heap.size ∧ ∀ k, k < len → w.cell? ⟨b, off + k * 5, none⟩ = some (.int .u32 ((f k).seq : Int)) ∧ w.cell? ⟨b, off + k * 5 + 1, none⟩ = some (.string (f k).data) ∧
    w.cell? ⟨b, off + k * 5 + 2, none⟩ = some (.bool (f k).fin) ∧ w.cell? ⟨b, off + k * 5 + 3, none⟩ = some (.bool (f k).reads) ∧ w.cell? ⟨b, off + k * 5 + 4, none⟩ = some (.int .i64 (f k).n) ∧
    (f k).seq < 4294967296 ∧ (f k).data.size ≤ reachBytes ∧ (-9223372036854775808 ≤ (f k).n ∧ (f k).n ≤ 9223372036854775807)
theorem StepsAt.below {w w' : World} {a : Option Addr} {len : Nat} {f : Nat → Stp} (h : StepsAt w a len f) (hb : Below w.heap.size w w') : StepsAt w' a len f := by
  rcases h with h | ⟨b, off, h1, h2, h3⟩
  · exact .inl h
  · refine .inr ⟨b, off, h1, Nat.lt_of_lt_of_le h2 hb.size, fun k hk => ?_⟩
    have hc : ∀ j, w'.cell? ⟨b, j, none⟩ = w.cell? ⟨b, j, none⟩ := fun j => hb.cell (p := ⟨b, j, none⟩) h2
    simp only [hc]
    exact h3 k hk

theorem bytes_Step : Try.prog.bytesOf 46 = 40 := by kernel_rfl
section
variable {H : Type} {enc : TypeId × Value → H} {w : World} {base : Nat} {held : Bool}
theorem steps_open {fuel : Nat} {a : Option Addr} {len cap : Nat} {x : DataW H × List MemPlace} (h : DataW.trod enc Try.prog w base (fun _ => true) held fuel 38 [.slice a len cap] = some x) (hz : ∀ n ∈ x.1.weights Try.prog 38, n ≤ reachBytes) :
    len ≤ reachBytes ∧ ∃ f, StepsAt w a len f := by
  obtain ⟨hl, hm, h0 | ⟨b, off, rfl, hb, hc⟩⟩ := slice_fields_sized Try.underlying38 Try.underlying46 (by kernel_rfl) (by kernel_rfl) (by decide) h hz
  · exact ⟨by omega, fun _ => ⟨0, ByteArray.empty, false, false, 0⟩, .inl h0⟩
  · have hx : ∀ k, k < len → ∃ t : Stp, w.cell? ⟨b, off + k * 5, none⟩ = some (.int .u32 (t.seq : Int)) ∧ w.cell? ⟨b, off + k * 5 + 1, none⟩ = some (.string t.data) ∧
        w.cell? ⟨b, off + k * 5 + 2, none⟩ = some (.bool t.fin) ∧ w.cell? ⟨b, off + k * 5 + 3, none⟩ = some (.bool t.reads) ∧ w.cell? ⟨b, off + k * 5 + 4, none⟩ = some (.int .i64 t.n) ∧
        t.seq < 4294967296 ∧ t.data.size ≤ reachBytes ∧ (-9223372036854775808 ≤ t.n ∧ t.n ≤ 9223372036854775807) := fun k hk => by
      obtain ⟨n, hf⟩ := hc k hk
      obtain ⟨v0, y0, c0, t0, _⟩ := hf 0 _ rfl
      obtain ⟨v1, y1, c1, t1, z1⟩ := hf 1 _ rfl
      obtain ⟨v2, y2, c2, t2, _⟩ := hf 2 _ rfl
      obtain ⟨v3, y3, c3, t3, _⟩ := hf 3 _ rfl
      obtain ⟨v4, y4, c4, t4, _⟩ := hf 4 _ rfl
      obtain ⟨n0, e0, _, f0⟩ := DataW.trod_int Try.underlying22 t0
      obtain ⟨s1, e1, x1, f1⟩ := DataW.trod_string Try.underlying9 t1
      obtain ⟨b2, e2, _⟩ := DataW.trod_bool Try.underlying4 t2
      obtain ⟨b3, e3, _⟩ := DataW.trod_bool Try.underlying4 t3
      obtain ⟨n4, e4, _, f4⟩ := DataW.trod_int Try.underlying3 t4
      simp only [List.cons.injEq, and_true] at e0 e1 e2 e3 e4
      subst e0 e1 e2 e3 e4
      obtain ⟨m0, rfl, hm0⟩ := key_wf f0
      have g4 : -9223372036854775808 ≤ n4 ∧ n4 ≤ 9223372036854775807 := by
        simp [Lit.wf, IntKind.min, IntKind.max, IntKind.signed, IntKind.bits] at f4
        omega
      have hsz := z1 s1.data.toList.length (by rw [x1]; simp [DataW.weights])
      have hsz' : s1.size ≤ reachBytes := by simpa using hsz
      exact ⟨⟨m0, s1, b2, b3, n4⟩, c0, c1, c2, c3, c4, hm0, hsz', g4⟩
    refine ⟨Nat.le_trans (Nat.le_mul_of_pos_right _ (by rw [bytes_Step]; decide)) hl, fun k => if hk : k < len then Classical.choose (hx k hk) else ⟨0, ByteArray.empty, false, false, 0⟩, .inr ⟨b, off, rfl, hb, fun k hk => ?_⟩⟩
    have := Classical.choose_spec (hx k hk)
    simp only [hk, dif_pos]
    exact this
end

/-- How many bytes the first k steps have. -/
def sumS (f : Nat → Stp) : Nat → Nat
  | 0 => 0
  | k + 1 => sumS f k + (f k).data.size
def heavyB (len : Nat) (f : Nat → Stp) : Bool := decide (100 < len) || decide (8192 < sumS f (min len 300))
theorem sumS_le {f : Nat → Stp} {len : Nat} (h : ∀ k, k < len → (f k).data.size ≤ reachBytes) (k : Nat) (hk : k ≤ len) : sumS f k ≤ k * reachBytes := by
  induction k with
  | zero => simp [sumS]
  | succ k ih =>
    have := ih (by omega)
    have h2 := h k (by omega)
    rw [sumS, Nat.succ_mul]; omega
theorem sumS_mono (f : Nat → Stp) {k m : Nat} (h : k ≤ m) : sumS f k ≤ sumS f m := by
  induction m with
  | zero => rw [show k = 0 by omega]; exact Nat.le_refl _
  | succ m ih =>
    by_cases hk : k = m + 1
    · rw [hk]; exact Nat.le_refl _
    · have := ih (by omega); rw [sumS]; omega
theorem light {len : Nat} {f : Nat → Stp} (h : heavyB len f = false) : len ≤ 100 ∧ ∀ k, k < len → (f k).data.size ≤ 8192 := by
  unfold heavyB at h
  rw [Bool.or_eq_false_iff, decide_eq_false_iff_not, decide_eq_false_iff_not] at h
  refine ⟨by omega, fun k hk => ?_⟩
  have h1 := sumS_mono f (k := k + 1) (m := min len 300) (by omega)
  rw [sumS] at h1
  omega

set_option maxHeartbeats 1000000 in
theorem heavy_any (a : Option Addr) (len cap : Nat) (f : Nat → Stp) (w : World) (hs : StepsAt w a len f) (hl : len ≤ reachBytes) : Calls Try.prog 13 #[.slice a len cap] w fun e w' => e = .returned (.bool (heavyB len f)) ∧ w = w' := by
  have HS := hid hs
  have hlen : len ≤ 140737488351232 := hl
  clear hs hl
  go_enter Try.func13, Try.ntmps13
  go_wp2_with fail
  go_loopw [3, 4] (fun n i wr => ∃ k : Nat, k ≤ len ∧ k ≤ 300 ∧ i = .int .i64 (k : Int) ∧ n = .int .i64 ((sumS f k : Nat) : Int) ∧ wr = w) (fun _ i _ => (len - intOf i).toNat)
  case atStart => exact ⟨0, by omega, by omega, rfl, rfl, rfl⟩
  case round =>
    obtain ⟨k, hk, hk3, rfl, rfl, rfl⟩ := hrel
    have hsum : sumS f k ≤ 300 * 140737488351232 := by
      rcases HS.out with h0 | ⟨b, off, _, _, hc⟩
      · have : k = 0 := by omega
        subst this; exact Nat.zero_le _
      · have := sumS_le (fun k hk => (hc k hk).2.2.2.2.2.2.1) k hk
        refine Nat.le_trans this ?_
        unfold reachBytes
        omega
    obtain ⟨S, hS⟩ : ∃ S, sumS f k = S := ⟨_, rfl⟩
    rw [hS] at hsum ⊢
    have HSS := hid hS
    clear hS
    by_cases hgo : k < len ∧ k < 300
    · obtain ⟨hkl, hk300⟩ := hgo
      have d1 : decide ((k : Int) < len) = true := decide_eq_true (by omega)
      have d2 : decide ((k : Int) < 300) = true := decide_eq_true (by omega)
      obtain h0 | ⟨b, off, rfl, hbW, hcs⟩ := HS.out
      · omega
      obtain ⟨_, c1, _, _, _, _, hz, _⟩ := hcs k hkl
      have hz' : (f k).data.size ≤ 140737488351232 := hz
      have hi0 : 0 ≤ (k : Int) := by omega
      have hi1 : (k : Int) < len := by omega
      clear hcs hz
      go_wp2_with fail
      have e1 : ((S : Int) + ((f k).data.size : Int)) = ((sumS f (k + 1) : Nat) : Int) := by rw [sumS, HSS.out]; omega
      rw [e1]
      exact ⟨⟨k + 1, by omega, by omega, by simp, rfl, trivial⟩, by simp only [intOf]; omega⟩
    · have hkm : k = min len 300 := by omega
      have hres : heavyB len f = (decide (100 < (len : Int)) || decide (8192 < (S : Int))) := by
        unfold heavyB
        rw [← hkm, HSS.out]
        congr 1
        · exact decide_eq_decide.2 (by omega)
        · exact decide_eq_decide.2 (by omega)
      have HR := hid hres
      clear hres hkm
      by_cases hkl : k < len
      · have d1 : decide ((k : Int) < len) = true := decide_eq_true (by omega)
        have d2 : decide ((k : Int) < 300) = false := decide_eq_false (by omega)
        have d3 : decide (100 < (len : Int)) = true := decide_eq_true (by omega)
        clear hk3 hgo
        go_wp2_with fail
        go_ret
        rw [HR.out, d3]
        exact ⟨rfl, rfl⟩
      · have d1 : decide ((k : Int) < len) = false := decide_eq_false (by omega)
        clear hk3 hgo
        by_cases h100 : 100 < len
        · have d3 : decide (100 < (len : Int)) = true := decide_eq_true (by omega)
          go_wp2_with fail
          go_ret
          rw [HR.out, d3]
          exact ⟨rfl, rfl⟩
        · have d3 : decide (100 < (len : Int)) = false := decide_eq_false (by omega)
          go_wp2_with fail
          go_ret
          rw [HR.out, d3]
          exact ⟨rfl, rfl⟩
end Go.Proofs.Ytkmkgfgppblleaa
