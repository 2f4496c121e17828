/- The walk of a segment's writing. -/
import Derived.Test.YtidkbphdihlbaaaSegW3
namespace Go.Proofs.Ytidkbphdihlbaaa
open Go.RowKit SG

/-- What is written of a segment. -/
def encRes (g : Sg) (src dst : Nat) : Value :=
  if g.bad then .tuple #[.string ⟨#[]⟩, .int .i64 2] else if 1460 < g.data.length then .tuple #[.string ⟨#[]⟩, .int .i64 4] else .tuple #[.string (bs (g.bytes src dst)), .int .i64 0]

set_option maxRecDepth 100000 in
set_option maxHeartbeats 2000000 in
theorem encode_bad (g : Sg) (src dst : Nat) (W : World) (hf : g.Fits) (hb : g.bad = true) :
    Calls Try.prog 7 #[.agg (sgv g), .int .u32 (src : Int), .int .u32 (dst : Int)] W fun e w' => e = .returned (.tuple #[.string ⟨#[]⟩, .int .i64 2]) ∧ Below W.heap.size W w' := by
  have hand := and_syn g.flags hf.flags
  obtain ⟨gs, gd, seq, ack, flags, wnd, mss, has, scale, data⟩ := g
  simp only [Sg.bad, Sg.extra] at hb hand
  unfold sgv
  simp only []
  by_cases h14 : 14 < scale
  · have t14 : decide ((scale : Int) > 14) = true := decide_eq_true (by omega)
    have t14' : decide (14 < (scale : Int)) = true := decide_eq_true (by omega)
    by_cases hm : mss = 0
    · have tm : ((mss : Int) != 0) = false := by rw [bne_eq_false_iff_eq]; omega
      go_enter Try.func7, Try.ntmps7
      go_wp2_with fail
      exact bodyPost_ret (v := .tuple #[.string ⟨#[]⟩, .int .i64 2]) (by simp [results, Try.results7, go_sem]) rfl ⟨rfl, below_new _⟩
    · have tm : ((mss : Int) != 0) = true := by rw [bne_iff_ne]; omega
      go_enter Try.func7, Try.ntmps7
      go_wp2_with fail
      exact bodyPost_ret (v := .tuple #[.string ⟨#[]⟩, .int .i64 2]) (by simp [results, Try.results7, go_sem]) rfl ⟨rfl, below_new _⟩
  · have t14 : decide ((scale : Int) > 14) = false := decide_eq_false (by omega)
    have t14' : decide (14 < (scale : Int)) = false := decide_eq_false (by omega)
    by_cases hs : scale ≠ 0 ∧ has = false
    · obtain ⟨hs0, rfl⟩ := hs
      have ts : ((scale : Int) != 0) = true := by rw [bne_iff_ne]; omega
      by_cases hm : mss = 0
      · have tm : ((mss : Int) != 0) = false := by rw [bne_eq_false_iff_eq]; omega
        go_enter Try.func7, Try.ntmps7
        go_wp2_with fail
        exact bodyPost_ret (v := .tuple #[.string ⟨#[]⟩, .int .i64 2]) (by simp [results, Try.results7, go_sem]) rfl ⟨rfl, below_new _⟩
      · have tm : ((mss : Int) != 0) = true := by rw [bne_iff_ne]; omega
        go_enter Try.func7, Try.ntmps7
        go_wp2_with fail
        exact bodyPost_ret (v := .tuple #[.string ⟨#[]⟩, .int .i64 2]) (by simp [results, Try.results7, go_sem]) rfl ⟨rfl, below_new _⟩
    · cases hsy : syn flags
      · rw [hsy, if_neg (by decide)] at hand
        by_cases hm : mss = 0
        · have tm : ((mss : Int) != 0) = false := by rw [bne_eq_false_iff_eq]; omega
          have hh : has = true := by
            cases has
            · simp [hm, hsy, h14] at hb hs; omega
            · rfl
          subst hh
          by_cases hs0 : scale = 0
          · have ts : ((scale : Int) != 0) = false := by rw [bne_eq_false_iff_eq]; omega
            go_enter Try.func7, Try.ntmps7
            go_wp2_with fail
            exact bodyPost_ret (v := .tuple #[.string ⟨#[]⟩, .int .i64 2]) (by simp [results, Try.results7, go_sem]) rfl ⟨rfl, below_new _⟩
          · have ts : ((scale : Int) != 0) = true := by rw [bne_iff_ne]; omega
            go_enter Try.func7, Try.ntmps7
            go_wp2_with fail
            exact bodyPost_ret (v := .tuple #[.string ⟨#[]⟩, .int .i64 2]) (by simp [results, Try.results7, go_sem]) rfl ⟨rfl, below_new _⟩
        · have tm : ((mss : Int) != 0) = true := by rw [bne_iff_ne]; omega
          by_cases hs0 : scale = 0
          · have ts : ((scale : Int) != 0) = false := by rw [bne_eq_false_iff_eq]; omega
            go_enter Try.func7, Try.ntmps7
            go_wp2_with fail
            exact bodyPost_ret (v := .tuple #[.string ⟨#[]⟩, .int .i64 2]) (by simp [results, Try.results7, go_sem]) rfl ⟨rfl, below_new _⟩
          · have ts : ((scale : Int) != 0) = true := by rw [bne_iff_ne]; omega
            have hh : has = true := by
              cases has
              · exact absurd ⟨hs0, rfl⟩ hs
              · rfl
            subst hh
            go_enter Try.func7, Try.ntmps7
            go_wp2_with fail
            exact bodyPost_ret (v := .tuple #[.string ⟨#[]⟩, .int .i64 2]) (by simp [results, Try.results7, go_sem]) rfl ⟨rfl, below_new _⟩
      · exfalso
        cases has
        · simp [hsy, h14] at hb hs; try omega
        · simp [hsy, h14] at hb; try omega

set_option maxRecDepth 100000 in
set_option maxHeartbeats 2000000 in
theorem encode_long (g : Sg) (src dst : Nat) (W : World) (hf : g.Fits) (hb : g.bad = false) (hl : 1460 < g.data.length) :
    Calls Try.prog 7 #[.agg (sgv g), .int .u32 (src : Int), .int .u32 (dst : Int)] W fun e w' => e = .returned (.tuple #[.string ⟨#[]⟩, .int .i64 4]) ∧ Below W.heap.size W w' := by
  have hand := and_syn g.flags hf.flags
  obtain ⟨gs, gd, seq, ack, flags, wnd, mss, has, scale, data⟩ := g
  simp only [Sg.bad, Sg.extra] at hb hand hl
  unfold sgv
  simp only []
  have hbz : (bs data).size = data.length := rfl
  have tl : decide ((data.length : Int) > 1460) = true := decide_eq_true (by omega)
  have tl' : decide (1460 < (data.length : Int)) = true := decide_eq_true (by omega)
  have h14 : ¬ 14 < scale := fun h => by simp [h] at hb
  have t14 : decide ((scale : Int) > 14) = false := decide_eq_false (by omega)
  have t14' : decide (14 < (scale : Int)) = false := decide_eq_false (by omega)
  have hsy : mss ≠ 0 ∨ has = true → syn flags = true := fun h => by
    cases hs : syn flags
    · rcases h with h | h
      · simp [hs, h] at hb
      · simp [hs, h] at hb
    · rfl
  have hz : has = false → scale = 0 := fun h => by simp [h] at hb; omega
  by_cases hm : mss = 0
  · have tm : ((mss : Int) != 0) = false := by rw [bne_eq_false_iff_eq]; omega
    cases has
    · have ts : ((scale : Int) != 0) = false := by rw [bne_eq_false_iff_eq]; have := hz rfl; omega
      go_enter Try.func7, Try.ntmps7
      go_wp2_with fail
      exact bodyPost_ret (v := .tuple #[.string ⟨#[]⟩, .int .i64 4]) (by simp [results, Try.results7, go_sem]) rfl ⟨rfl, below_new _⟩
    · rw [hsy (.inr rfl), if_pos rfl] at hand
      by_cases hs0 : scale = 0
      · have ts : ((scale : Int) != 0) = false := by rw [bne_eq_false_iff_eq]; omega
        go_enter Try.func7, Try.ntmps7
        go_wp2_with fail
        exact bodyPost_ret (v := .tuple #[.string ⟨#[]⟩, .int .i64 4]) (by simp [results, Try.results7, go_sem]) rfl ⟨rfl, below_new _⟩
      · have ts : ((scale : Int) != 0) = true := by rw [bne_iff_ne]; omega
        go_enter Try.func7, Try.ntmps7
        go_wp2_with fail
        exact bodyPost_ret (v := .tuple #[.string ⟨#[]⟩, .int .i64 4]) (by simp [results, Try.results7, go_sem]) rfl ⟨rfl, below_new _⟩
  · have tm : ((mss : Int) != 0) = true := by rw [bne_iff_ne]; omega
    rw [hsy (.inl hm), if_pos rfl] at hand
    cases has
    · have ts : ((scale : Int) != 0) = false := by rw [bne_eq_false_iff_eq]; have := hz rfl; omega
      go_enter Try.func7, Try.ntmps7
      go_wp2_with fail
      exact bodyPost_ret (v := .tuple #[.string ⟨#[]⟩, .int .i64 4]) (by simp [results, Try.results7, go_sem]) rfl ⟨rfl, below_new _⟩
    · by_cases hs0 : scale = 0
      · have ts : ((scale : Int) != 0) = false := by rw [bne_eq_false_iff_eq]; omega
        go_enter Try.func7, Try.ntmps7
        go_wp2_with fail
        exact bodyPost_ret (v := .tuple #[.string ⟨#[]⟩, .int .i64 4]) (by simp [results, Try.results7, go_sem]) rfl ⟨rfl, below_new _⟩
      · have ts : ((scale : Int) != 0) = true := by rw [bne_iff_ne]; omega
        go_enter Try.func7, Try.ntmps7
        go_wp2_with fail
        exact bodyPost_ret (v := .tuple #[.string ⟨#[]⟩, .int .i64 4]) (by simp [results, Try.results7, go_sem]) rfl ⟨rfl, below_new _⟩

end Go.Proofs.Ytidkbphdihlbaaa
