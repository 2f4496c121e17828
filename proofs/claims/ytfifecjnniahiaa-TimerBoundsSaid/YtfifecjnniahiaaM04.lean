/- Both pauses, at any words. A pause is long enough, at any rate. The walk of TimerBounds. Openers for arguments: a slice of structs of one-cell fields, at a plain address. The arguments of the timer's statements, opened. -/
import Derived.Test.YtfifecjnniahiaaM03
import Derived.Lib.MinMax
import Derived.Test.YtfifecjnniahiaaM01
import Derived.ProofKit
import Derived.OpenShut
import Derived.ShutString
import Derived.ChangeOld
import Derived.Deep.Slices
import Derived.Deep.Fields
import Derived.ChangeSame
import Derived.Laws.Cover2
namespace Go.Proofs.Ytfifecjnniahiaa
open Go Go.RowKit

theorem call_ceil_inf (w : World) : (callFunc 34 #[.float .f64 9218868437227405312]).run Try.prog w = .ok (.value (.float .f64 9218868437227405312)) w := by
  rw [run_callFunc_extern (e := Extern.MathFloor.toIntegral "math.archCeil" .up) Try.func34 (by kernel_rfl) (by kernel_rfl) (by kernel_rfl) (by kernel_rfl)]
  have hr := IE.read_inf
  have hd : FloatKind.f64.decode 9218868437227405312 = .infinity false := hr
  have e : Extern.MathFloor.toIntegral "math.archCeil" .up #[.float .f64 9218868437227405312] = pure (.float .f64 9218868437227405312) := by
    conv => lhs; whnf
    rw [hd]
    rfl
  rw [e]
  rfl
theorem ceil_inf_any (w : World) : Calls Try.prog 30 #[.float .f64 9218868437227405312] w fun e w' => e = .returned (.float .f64 9218868437227405312) ∧ w = w' := by
  have hc := fun w => call_ceil_inf w
  go_enter Try.func30, Try.ntmps30
  go_wp2_with fail
  go_ret
  exact ⟨rfl, rfl⟩
theorem inf_up (s : Nat) (b : Bool) (hm : (IE.D.order s 9218868437227405311 == some Ordering.gt) = b) (w : World) : Calls Try.prog 29 #[.float .f64 s, .int .i64 1] w fun e w' => e = .returned (.bool b) ∧ w = w' := by
  go_enter Try.func29, Try.ntmps29
  go_wp2_with fail
  cases b
  all_goals
    go_wp2_with fail
    go_ret
    exact ⟨by rw [← hm]; rfl, rfl⟩
theorem ord_iM : IE.D.order 9218868437227405312 4751297606875873280 = some .gt := by decide +kernel

set_option maxHeartbeats 1000000 in
theorem pause_word (n r : Nat) (hn : n < 18446744073709551616) (hp : IE.Pauses n r) (W : World) : Calls Try.prog 19 #[.int .u64 (n : Int), .float .f64 r] W fun e w' => e = .returned (.int .u64 ((IE.pauseV n r : Nat) : Int)) ∧ W = w' := by
  rcases hp with ⟨hr, hv⟩ | ⟨hr, h0, hv⟩ | ⟨h0, hr, hv⟩ | ⟨hr, h0, h, hm, hv⟩ | ⟨hr, h0, h1, h2, h, hv⟩
  · have hs := ord_self_nan hr
    rw [hv]
    go_enter Try.func19, Try.ntmps19
    go_wp2_with fail
    go_ret
    exact ⟨rfl, rfl⟩
  · have hs := IE.order_self hr
    rw [hv]
    subst h0
    go_enter Try.func19, Try.ntmps19
    go_wp2_with fail
    go_ret
    exact ⟨rfl, rfl⟩
  · rw [hv]
    rw [show IE.inf = 9218868437227405312 from rfl] at hr
    subst hr
    have hs : IE.D.order 9218868437227405312 9218868437227405312 = some .eq := IE.order_ii
    have hz : ((n : Int) == 0) = false := beq_eq_false_iff_ne.2 (by omega)
    go_enter Try.func19, Try.ntmps19
    go_wp2_with (go_at_call 29; refine (inf_up _ _ ord_imax _).mono ?_; rintro e w' ⟨rfl, rfl⟩)
    go_ret
    exact ⟨rfl, rfl⟩
  · rw [hv]
    have hs := IE.order_self hr
    have hz : ((n : Int) == 0) = false := beq_eq_false_iff_ne.2 (by omega)
    rcases h with h | h
    all_goals
      go_enter Try.func19, Try.ntmps19
      go_wp2_with (go_at_call 29; refine (inf_up _ _ hm _).mono ?_; rintro e w' ⟨rfl, rfl⟩)
      go_ret
      exact ⟨rfl, rfl⟩
  · have hs := IE.order_self hr
    have hz : ((n : Int) == 0) = false := beq_eq_false_iff_ne.2 (by omega)
    have hof := IE.ofN_eq n
    have hd := IE.div_rung (IE.ofN_big hn) h2 h1
    have hq := IE.quo_inf (IE.ofN n) r
    have hc := IE.pause_ceil hq
    have hI := fun W => inf_one r W h2
    rw [← hv] at hc
    rw [show IE.M32 = 4751297606875873280 from rfl] at hc
    generalize IE.quo (IE.ofN n) r = q at *
    generalize IE.ofN n = x at *
    generalize IE.pauseV n r = pv at *
    clear hv hn
    rcases hc with ⟨a1, a2, a3, a4, a5, a6⟩ | ⟨a1, a2, a3⟩ | ⟨a1, a2⟩
    · have hC := fun W => ceil_any q a1 W
      have h6 := fun w => floor_run a5 (by rw [a4]; omega) w
      rw [a4] at h6
      rw [a6]
      generalize IE.ceilN q = cq at *
      generalize IE.ofN cq = y at *
      go_enter Try.func19, Try.ntmps19
      go_wp2_with (first | (go_at_call 29; refine (hI _).mono ?_; rintro e w' ⟨rfl, rfl⟩) | (go_at_call 30; refine (hC _).mono ?_; rintro e w' ⟨rfl, rfl⟩))
      go_ret
      exact ⟨rfl, rfl⟩
    · have hC := fun W => ceil_any q a1 W
      rw [a3]
      generalize IE.ceilN q = cq at *
      generalize IE.ofN cq = y at *
      rcases a2 with a2 | a2
      all_goals
        go_enter Try.func19, Try.ntmps19
        go_wp2_with (first | (go_at_call 29; refine (hI _).mono ?_; rintro e w' ⟨rfl, rfl⟩) | (go_at_call 30; refine (hC _).mono ?_; rintro e w' ⟨rfl, rfl⟩))
        go_ret
        exact ⟨rfl, rfl⟩
    · have hM := ord_iM
      rw [a2]
      rw [show IE.inf = 9218868437227405312 from rfl] at a1
      subst a1
      go_enter Try.func19, Try.ntmps19
      go_wp2_with (first | (go_at_call 29; refine (hI _).mono ?_; rintro e w' ⟨rfl, rfl⟩) | (go_at_call 30; refine (ceil_inf_any _).mono ?_; rintro e w' ⟨rfl, rfl⟩))
      go_ret
      exact ⟨rfl, rfl⟩

set_option maxHeartbeats 1000000 in
theorem rpause_word (n r : Nat) (hn : n < 18446744073709551616) (hp : IE.Pauses n r) (W : World) : Calls Try.prog 20 #[.int .u64 (n : Int), .float .f64 r] W fun e w' => e = .returned (.int .u64 ((IE.pauseV n r : Nat) : Int)) ∧ Dr W w' := by
  rcases hp with ⟨hr, hv⟩ | ⟨hr, h0, hv⟩ | ⟨h0, hr, hv⟩ | ⟨hr, h0, h, hm, hv⟩ | ⟨hr, h0, h1, h2, h, hv⟩
  · rw [hv]
    go_enter Try.func20, Try.ntmps20
    go_wp2_with (go_at_call 26; refine (none_any _ _).mono ?_; rintro e w' ⟨rfl, rfl⟩)
    go_ret
    exact ⟨rfl, ⟨0, rfl⟩⟩
  · rw [hv]
    subst h0
    go_enter Try.func20, Try.ntmps20
    go_wp2_with (go_at_call 26; refine (none_any _ _).mono ?_; rintro e w' ⟨rfl, rfl⟩)
    go_ret
    exact ⟨rfl, ⟨0, rfl⟩⟩
  · rw [hv]
    rw [show IE.inf = 9218868437227405312 from rfl] at hr
    subst hr
    have hs : IE.D.order 9218868437227405312 0 = some .gt := by decide +kernel
    have hz : ((n : Int) == 0) = false := beq_eq_false_iff_ne.2 (by omega)
    have hnn : IE.nanB 9218868437227405312 = false := by decide +kernel
    go_enter Try.func20, Try.ntmps20
    go_wp2_with (first | (go_at_call 26; refine (none_any _ _).mono ?_; rintro e w' ⟨rfl, rfl⟩) | (go_at_call 31; refine (infinite_inf _).mono ?_; rintro e w' ⟨rfl, hd⟩; obtain ⟨nd, rfl⟩ := hd))
    go_ret
    exact ⟨rfl, ⟨nd, rfl⟩⟩
  · rw [hv]
    have hz : ((n : Int) == 0) = false := beq_eq_false_iff_ne.2 (by omega)
    rcases h with h | h
    all_goals
      go_enter Try.func20, Try.ntmps20
      go_wp2_with (go_at_call 26; refine (none_any _ _).mono ?_; rintro e w' ⟨rfl, rfl⟩)
      go_ret
      exact ⟨rfl, ⟨0, rfl⟩⟩
  · have hz : ((n : Int) == 0) = false := beq_eq_false_iff_ne.2 (by omega)
    have hof := IE.ofN_eq n
    have hd := IE.div_rung (IE.ofN_big hn) h2 h1
    have hq := IE.quo_inf (IE.ofN n) r
    have hc := IE.pause_floor hq
    have hI := fun W => infinite_fin r W h2
    rw [← hv] at hc
    rw [show IE.M32 = 4751297606875873280 from rfl] at hc
    generalize IE.quo (IE.ofN n) r = q at *
    generalize IE.ofN n = x at *
    generalize IE.pauseV n r = pv at *
    clear hv hn
    rcases hc with ⟨a2, a3⟩ | ⟨a1, a2, a3, ⟨a4, a5⟩ | ⟨a4, a5⟩⟩
    · rw [a3]
      rcases a2 with a2 | a2
      all_goals
        go_enter Try.func20, Try.ntmps20
        go_wp2_with (first | (go_at_call 26; refine (none_any _ _).mono ?_; rintro e w' ⟨rfl, rfl⟩) | (go_at_call 31; refine (hI _).mono ?_; rintro e w' ⟨rfl, rfl⟩))
        go_ret
        exact ⟨rfl, ⟨0, rfl⟩⟩
    · have h6 := fun w => floor_run a2 (by omega) w
      have ho2 := IE.ofN_eq (IE.floorN q)
      rw [a5]
      generalize IE.floorN q = fq at *
      generalize IE.ofN fq = y at *
      go_enter Try.func20, Try.ntmps20
      go_wp2_with (first | (go_at_call 26; refine (none_any _ _).mono ?_; rintro e w' ⟨rfl, rfl⟩) | (go_at_call 31; refine (hI _).mono ?_; rintro e w' ⟨rfl, rfl⟩))
      go_ret
      exact ⟨by push_cast; rfl, ⟨0, rfl⟩⟩
    · have h6 := fun w => floor_run a2 (by omega) w
      have ho2 := IE.ofN_eq (IE.floorN q)
      rw [a5]
      generalize IE.floorN q = fq at *
      generalize IE.ofN fq = y at *
      rcases a4 with a4 | a4
      all_goals
        go_enter Try.func20, Try.ntmps20
        go_wp2_with (first | (go_at_call 26; refine (none_any _ _).mono ?_; rintro e w' ⟨rfl, rfl⟩) | (go_at_call 31; refine (hI _).mono ?_; rintro e w' ⟨rfl, rfl⟩))
        go_ret
        exact ⟨rfl, ⟨0, rfl⟩⟩
end Go.Proofs.Ytfifecjnniahiaa

namespace Go.Proofs.Ytfifecjnniahiaa
namespace IE
open Go Ieee

theorem c0999_top : val 0 c0999 ≤ 2 ^ k74 := by
  have h := c0999_le
  have hp := Nat.two_pow_pos k74
  generalize val 0 c0999 = a at *
  generalize 2 ^ k74 = u at *
  omega
theorem low_inf {b : Nat} (hb : b ≤ 4294967296) : RN 1074 (val 0 (ofN b) * val 0 c0999) < inf := by
  refine Nat.lt_of_le_of_lt (RN_le (Nat.le_of_lt M32_inf) ?_) M32_inf
  have e : val 1074 M32 = val 0 M32 * 2 ^ k74 := val_shift 0 k74 M32
  rw [e]
  refine Nat.mul_le_mul ?_ c0999_top
  refine (val_mono (Nat.le_of_lt (ofN_val hb).2) (Nat.le_of_lt M32_inf)).2 ?_
  rw [M32_eq]
  exact ofN_mono hb
theorem mul_0i : D.mul (ofN 0) inf = none := by decide +kernel
theorem zero_val : val 0 (ofN 0) = 0 := by
  rw [(ofN_val (Nat.zero_le _)).1, Nat.zero_mul]
inductive Ends (b r : Nat) : Prop
  | no (h : D.order r 0 = none ∨ D.order r 0 = some .lt ∨ D.order r 0 = some .eq)
  | big (h : D.order r 0 = some .gt) (hv : pauseV b r = 4294967296)
  | ends (hr : r = inf) (hv : pauseV b r = 0) (hx : D.mul (ofN 0) r = none) (y : Nat) (hy : D.mul (ofN b) c0999 = some y)
  | good (h : D.order r 0 = some .gt) (hv : pauseV b r < 4294967296) (x y : Nat) (hx : D.mul (ofN (pauseV b r)) r = some x) (hy : D.mul (ofN b) c0999 = some y) (ho : D.order x y = some .eq ∨ D.order x y = some .gt)
theorem cmp_ge {x y : Nat} (hx : x ≤ inf) (hy : y < inf) (h : y ≤ x) : D.order x y = some .eq ∨ D.order x y = some .gt := by
  rw [order_le hx hy]
  rcases Nat.lt_or_ge y x with h1 | h1
  · right; rw [Nat.compare_eq_gt.2 h1]
  · left; rw [Nat.compare_eq_eq.2 (by omega)]
theorem ends {b r : Nat} (hb : b ≤ 4294967296) (hr : r < 18446744073709551616) : Ends b r := by
  have hy : D.mul (ofN b) c0999 = some (RN 1074 (val 0 (ofN b) * val 0 c0999)) := mul_eq (ofN_val hb).2 (by decide)
  rcases kinds hr with h1 | ⟨h1, h2⟩ | (h1 | h1) | ⟨q, h1, h2, h3⟩
  · exact .no (.inl (order_nan h1 0).1)
  · have h3 := order_pos h1 h2
    by_cases hi : r = inf
    · exact .ends hi (by unfold pauseV; rw [if_pos (.inr (.inr hi))]) (by rw [hi]; exact mul_0i) _ hy
    · have hlt : r < inf := Nat.lt_of_le_of_ne h2 hi
      rcases Nat.lt_or_ge (pauseV b r) 4294967296 with h4 | h4
      · refine .good h3 h4 _ _ (mul_eq (ofN_val (Nat.le_of_lt h4)).2 hlt) hy (cmp_ge (RN_inf _ _) (low_inf hb) ?_)
        rcases Nat.eq_zero_or_pos b with h0 | h0
        · rw [h0, zero_val, Nat.zero_mul]
          refine RN_mono (Nat.zero_le _)
        · have hn : nanB r = false := by rw [nan_pos (Nat.lt_of_le_of_lt h2 inf_lt_sgn), decide_eq_false (by omega)]
          have e : pauseV b r = pauseN (quo (ofN b) r) := by
            unfold pauseV
            rw [if_neg, if_pos h3]
            rintro (k | k | k)
            · rw [hn] at k; exact absurd k (by decide)
            · omega
            · exact hi k
          rw [e] at h4 ⊢
          have e2 : pauseN (quo (ofN b) r) = ceilN (quo (ofN b) r) := by unfold pauseN at *; omega
          rw [e2] at h4 ⊢
          exact long_enough h0 hb hlt h1 h4
      · have := pauseV_le b r
        exact .big h3 (by omega)
  · exact .no (.inr (.inr (by rw [h1]; exact order_00)))
  · exact .no (.inr (.inr (by rw [h1]; exact order_s0)))
  · exact .no (.inr (.inl (by rw [h3]; exact order_neg h1 h2)))

end IE
end Go.Proofs.Ytfifecjnniahiaa

namespace Go.Proofs.Ytfifecjnniahiaa
open Go Go.RowKit

theorem below_dr {B : Nat} {W w : World} (h : Below B W w) {w' : World} (hd : Dr w w') : Below B W w' := by
  obtain ⟨n, rfl⟩ := hd
  exact ⟨h.os, h.tape, h.output, h.size, h.block⟩
/-- More than the statement plays. -/
theorem bounds_far (l m n b r : Nat) (a : Option Addr) (len cap : Nat) (W : World) (hlen : 300 < len) (hmax : len ≤ 9223372036854775807) :
    Calls Try.prog 5 #[.int .u16 (l : Int), .int .u16 (m : Int), .slice a len cap, .int .u16 (n : Int), .int .u32 (b : Int), .float .f64 r] W fun e w' => e = .returned (.bool true) ∧ Below W.heap.size W w' := by
  have hl : (300 : Int) < (len : Int) := by omega
  go_enter Try.func5, Try.ntmps5
  go_wp2_with fail
  refine (works_any _).mono ?_
  rintro e w3 ⟨rfl, b1⟩
  go_wp2_with fail
  go_ret
  exact ⟨rfl, b1⟩

set_option maxRecDepth 100000 in
set_option maxHeartbeats 2000000 in
theorem bounds_any (l0 m0 n b r : Nat) (a : Option Addr) (len cap : Nat) (s : Nat → Stp) (W : World) (hlen : len ≤ 300) (h1 : l0 ≤ 65535) (h2 : m0 ≤ 65535) (h3 : n ≤ 65535) (h4 : b ≤ 4294967295) (h5 : r < 18446744073709551616) (hs : StepsAt W a len s) :
    Calls Try.prog 5 #[.int .u16 (l0 : Int), .int .u16 (m0 : Int), .slice a len cap, .int .u16 (n : Int), .int .u32 (b : Int), .float .f64 r] W fun e w' => e = .returned (.bool true) ∧ Below W.heap.size W w' := by
  have hl : (len : Int) ≤ 300 := by omega
  obtain ⟨l, el⟩ : ∃ l, l = l0 + 1 := ⟨_, rfl⟩
  obtain ⟨m, em⟩ : ∃ m, m = l0 + m0 + 1 := ⟨_, rfl⟩
  have e1 : (l0 : Int) + 1 = (l : Int) := by omega
  have e2 : (l0 : Int) + (m0 : Int) + 1 = (m : Int) := by omega
  have g1 : 1 ≤ l := by omega
  have g2 : l ≤ m := by omega
  have g3 : m ≤ 4294967296 := by omega
  have bA := (Below.refl W.heap.size W).alloc (Nat.le_refl _) (.cells #[.int .u64 (l : Int), .int .u64 (m : Int)] 24)
  have cC : (W.alloc (.cells #[.int .u64 (l : Int), .int .u64 (m : Int)] 24)).heap[W.heap.size]? = some (.cells #[.int .u64 (l : Int), .int .u64 (m : Int)] 24 (0, 0)) := alloc_at _ _
  have BA := hid bA
  have hf0 : (freshT l m).ok := ⟨Nat.zero_le _, Nat.zero_le _⟩
  have hf1 : l ≤ (freshT l m).val ∧ (freshT l m).val ≤ m := by
    show l ≤ IE.clampT l m 1000 ∧ IE.clampT l m 1000 ≤ m
    unfold IE.clampT; omega
  have HS := hid hs
  have HEL := hid (show l = l0 + 1 ∧ m = l0 + m0 + 1 from ⟨el, em⟩)
  clear bA hs el em
  go_enter Try.func5, Try.ntmps5
  go_wp2_with fail
  refine (new_any g1 g2 g3).mono ?_
  rintro e w1 ⟨P, hP, rfl, hT, b1⟩
  have hPW : W.heap.size ≤ P := Nat.le_trans BA.out.size hP
  have hPC : P ≠ W.heap.size := by rw [World.size_alloc] at hP; omega
  have cC1 := (b1.block _ (lt_blk cC)).trans cC
  have B1 := hid (BA.out.trans (b1.mono BA.out.size))
  clear b1 cC hP
  go_wp2_with fail
  go_loopw [16] (fun i wr => ∃ (k : Nat) (st : IE.TS), k ≤ len ∧ i = .int .i64 k ∧ st.ok ∧ (l ≤ st.val ∧ st.val ≤ m) ∧ TAt wr P 54 l m st ∧ wr.heap[W.heap.size]? = some (.cells #[.int .u64 (l : Int), .int .u64 (m : Int)] 24 (0, 0)) ∧ Below W.heap.size W wr)
    (fun i _ => len + 1 - (intOf i).toNat)
  case atStart => exact ⟨0, _, Nat.zero_le _, rfl, hf0, hf1, hT, cC1, B1.out⟩
  case round =>
    obtain ⟨k, st, hk, rfl, hok, hv, hr, hc, hb⟩ := hrel
    have HR := hid hr
    have HC := hid hc
    have HB := hid hb
    clear hr hc hb hf0 hf1 hT cC1 B1
    by_cases hlt : k < len
    · have hlt' : decide ((k : Int) < (len : Int)) = true := decide_eq_true (by omega)
      obtain h0 | ⟨bb, off, rfl, hbs, hx⟩ := HS.out
      · omega
      obtain ⟨x1, x2⟩ := hx k hlt
      have y1 := (HB.out.cell (p := ⟨bb, off + k * 2, none⟩) hbs).trans x1
      have y2 := (HB.out.cell (p := ⟨bb, off + k * 2 + 1, none⟩) hbs).trans x2
      clear x1 x2 hx
      generalize s k = tt at *
      obtain ⟨tdo, tn⟩ := tt
      simp only at y1 y2
      have step : ∀ (wM : World) (st2 : IE.TS), st2.ok → (l ≤ st2.val ∧ st2.val ≤ m) → TAt wM P 54 l m st2 → Out (· = P) wr wM →
          Hid (TAt wM P 54 l m st2) ∧ Hid (wM.heap[W.heap.size]? = some (.cells #[.int .u64 (l : Int), .int .u64 (m : Int)] 24 (0, 0))) ∧ Hid (Below W.heap.size W wM) := fun wM st2 _ _ hM oM =>
        ⟨hid hM, hid ((oM.block _ (lt_blk HC.out) (fun e => hPC e.symm)).trans HC.out), hid (HB.out.trans (oM.below (fun k e => by rw [e]; exact hPW) HB.out.size))⟩
      have STEP := hid step
      clear step
      go_wp2_with fail
      · refine (sample_any (n := tn) hok HR.out).mono ?_
        rintro e wM ⟨rfl, hM, oM⟩
        obtain ⟨HM, HCM, HBM⟩ := STEP.out wM _ (IE.TS.sample_ok hok _ _ _) (IE.sample_in g2 hv tn) hM oM
        have hok2 := IE.TS.sample_ok hok l m tn
        have hv2 := IE.sample_in g2 hv tn
        generalize IE.TS.sample l m st tn = st2 at *
        clear y1 y2 hM oM STEP HR HC HB
        have HV : Hid (∀ x : Later wM, Calls Try.prog 11 #[.pointer (some ⟨P, 0, none⟩)] x.w' fun e w' => e = .returned (.int .u64 (st2.val : Int)) ∧ Below x.w'.heap.size x.w' w') :=
          hid fun x => (value_any (tat_keep HM.out (x.h.block P (tat_lt HM.out)))).mono fun e w' ⟨a, b⟩ => ⟨a, by rw [← b]; exact Below.refl _ _⟩
        have j0 := later_cell (cell_at HCM.out 0)
        have j1 := later_cell (cell_at HCM.out 1)
        have d0 : decide ((st2.val : Int) < (l : Int)) = false := decide_eq_false (by omega)
        have d1 : decide ((m : Int) < (st2.val : Int)) = false := decide_eq_false (by omega)
        have d2 : decide (st2.val < l) = false := decide_eq_false (by omega)
        have d3 : decide (m < st2.val) = false := decide_eq_false (by omega)
        go_wp2_with fail
        refine wp_region_later (by kernel_rfl) (by kernel_rfl) ?_
        repeat ((go_big_quiet_step ((first | (go_at_call 11; with_reducible exact calls_later (HV.out _))))))
        refine wpQuiet_nil ?_
        intro wL hwL
        obtain ⟨⟨w8, hL⟩, e8⟩ := hwL
        change wL = w8 at e8
        subst e8
        have HML := hid (tat_keep HM.out (hL.block P (tat_lt HM.out)))
        have HCML := hid ((hL.block _ (lt_blk HCM.out)).trans HCM.out)
        have HBML := hid (HBM.out.trans (hL.mono HBM.out.size))
        clear hL HM HCM HBM HV j0 j1
        go_wp2_with fail
        exact ⟨⟨k + 1, st2, by omega, by go_num, hok2, hv2, HML.out, HCML.out, HBML.out⟩, by simp [intOf]; omega⟩
      · refine (value_any HR.out).mono ?_
        rintro e w' ⟨rfl, rfl⟩
        go_wp2_with fail
        refine (backoff_any ⟨hv.1, by omega⟩ HR.out).mono ?_
        rintro e wM ⟨rfl, hM, oM⟩
        have hok2 : (st.backoff m).ok := ⟨hok.s, hok.v⟩
        have hv2 := (⟨(IE.backoff_in hv g3).1, (IE.backoff_in hv g3).2.1⟩ : l ≤ (st.backoff m).val ∧ (st.backoff m).val ≤ m)
        have hv3 := (IE.backoff_in hv g3).2.2
        obtain ⟨HM, HCM, HBM⟩ := STEP.out wM _ hok2 hv2 hM oM
        generalize IE.TS.backoff m st = st2 at *
        clear y1 y2 hM oM STEP HR HC HB
        have HV : Hid (∀ x : Later wM, Calls Try.prog 11 #[.pointer (some ⟨P, 0, none⟩)] x.w' fun e w' => e = .returned (.int .u64 (st2.val : Int)) ∧ Below x.w'.heap.size x.w' w') :=
          hid fun x => (value_any (tat_keep HM.out (x.h.block P (tat_lt HM.out)))).mono fun e w' ⟨a, b⟩ => ⟨a, by rw [← b]; exact Below.refl _ _⟩
        have j0 := later_cell (cell_at HCM.out 0)
        have j1 := later_cell (cell_at HCM.out 1)
        have d0 : ((st2.val : Int) == min (2 * (st.val : Int)) (m : Int)) = true := beq_iff_eq.2 (by omega)
        go_wp2_with fail
        refine wp_region_later (by kernel_rfl) (by kernel_rfl) ?_
        repeat ((go_big_quiet_step ((first | (go_at_call 11; with_reducible exact calls_later (HV.out _))))))
        refine wpQuiet_nil ?_
        intro wL hwL
        obtain ⟨⟨w8, hL⟩, e8⟩ := hwL
        change wL = w8 at e8
        subst e8
        have HM2 := hid (tat_keep HM.out (hL.block P (tat_lt HM.out)))
        have HCM2 := hid ((hL.block _ (lt_blk HCM.out)).trans HCM.out)
        have HBM2 := hid (HBM.out.trans (hL.mono HBM.out.size))
        clear hL HM HCM HBM HV j0 j1
        have HM := HM2
        have HCM := HCM2
        have HBM := HBM2
        clear HM2 HCM2 HBM2
        go_wp2_with fail
        clear d0 hv3
        generalize wL = wM at *
        have HV : Hid (∀ x : Later wM, Calls Try.prog 11 #[.pointer (some ⟨P, 0, none⟩)] x.w' fun e w' => e = .returned (.int .u64 (st2.val : Int)) ∧ Below x.w'.heap.size x.w' w') :=
          hid fun x => (value_any (tat_keep HM.out (x.h.block P (tat_lt HM.out)))).mono fun e w' ⟨a, b⟩ => ⟨a, by rw [← b]; exact Below.refl _ _⟩
        have j0 := later_cell (cell_at HCM.out 0)
        have j1 := later_cell (cell_at HCM.out 1)
        have d0 : decide ((st2.val : Int) < (l : Int)) = false := decide_eq_false (by omega)
        have d1 : decide ((m : Int) < (st2.val : Int)) = false := decide_eq_false (by omega)
        have d2 : decide (st2.val < l) = false := decide_eq_false (by omega)
        have d3 : decide (m < st2.val) = false := decide_eq_false (by omega)
        go_wp2_with fail
        refine wp_region_later (by kernel_rfl) (by kernel_rfl) ?_
        repeat ((go_big_quiet_step ((first | (go_at_call 11; with_reducible exact calls_later (HV.out _))))))
        refine wpQuiet_nil ?_
        intro wL hwL
        obtain ⟨⟨w8, hL⟩, e8⟩ := hwL
        change wL = w8 at e8
        subst e8
        have HML := hid (tat_keep HM.out (hL.block P (tat_lt HM.out)))
        have HCML := hid ((hL.block _ (lt_blk HCM.out)).trans HCM.out)
        have HBML := hid (HBM.out.trans (hL.mono HBM.out.size))
        clear hL HM HCM HBM HV j0 j1
        go_wp2_with fail
        exact ⟨⟨k + 1, st2, by omega, by go_num, hok2, hv2, HML.out, HCML.out, HBML.out⟩, by simp [intOf]; omega⟩
    · have hlt' : decide ((k : Int) < (len : Int)) = false := decide_eq_false (by omega)
      have hlt2 : decide (k < len) = false := decide_eq_false (by omega)
      clear HS hl hk
      go_wp2_with fail
      go_loopw [18] (fun i wr2 => ∃ (k2 : Nat), k2 ≤ 400 ∧ i = .int .i64 k2 ∧ TAt wr2 P 54 l m (IE.iter l m n k2 st) ∧ wr2.heap[W.heap.size]? = some (.cells #[.int .u64 (l : Int), .int .u64 (m : Int)] 24 (0, 0)) ∧ Below W.heap.size W wr2)
        (fun i _ => 401 - (intOf i).toNat)
      case atStart => exact ⟨0, Nat.zero_le _, rfl, HR.out, HC.out, HB.out⟩
      case round =>
        obtain ⟨k2, hk2, rfl, hr2, hc2, hb2⟩ := hrel
        have HR2 := hid hr2
        have HC2 := hid hc2
        have HB2 := hid hb2
        clear hr2 hc2 hb2 HR HC HB
        have hok2 := IE.iter_ok hok l m n k2
        by_cases hlt3 : k2 < 400
        · have hlt4 : decide ((k2 : Int) < 400) = true := decide_eq_true (by omega)
          have hlt5 : decide (k2 < 400) = true := decide_eq_true (by omega)
          go_wp2_with fail
          refine (sample_any (n := n) hok2 HR2.out).mono ?_
          rintro e wM ⟨rfl, hM, oM⟩
          have HM : Hid (TAt wM P 54 l m (IE.iter l m n (k2 + 1) st)) := hid hM
          have HCM := hid ((oM.block _ (lt_blk HC2.out) (fun e => hPC e.symm)).trans HC2.out)
          have HBM := hid (HB2.out.trans (oM.below (fun k e => by rw [e]; exact hPW) HB2.out.size))
          clear hM oM
          go_wp2_with fail
          exact ⟨⟨k2 + 1, by omega, by go_num, HM.out, HCM.out, HBM.out⟩, by simp [intOf]; omega⟩
        · have hlt4 : decide ((k2 : Int) < 400) = false := decide_eq_false (by omega)
          have hlt5 : decide (k2 < 400) = false := decide_eq_false (by omega)
          obtain rfl : k2 = 400 := by omega
          have hit := IE.iter_400 hok l m (n := n) (by omega)
          generalize IE.iter l m n 400 st = st2 at *
          have c0 := cell_at HC2.out 0
          have c1 := cell_at HC2.out 1
          go_wp2_with fail
          have d0 : decide ((st2.val : Int) < min (max (n : Int) (l : Int)) (m : Int)) = false := decide_eq_false (by have := hit.1; unfold IE.clampT at this; omega)
          have d1 : decide (min (max ((n : Int) + 3) (l : Int)) (m : Int) < (st2.val : Int)) = false := decide_eq_false (by have := hit.2; unfold IE.clampT at this; omega)
          have HV : Hid (∀ x : Later wr, Calls Try.prog 11 #[.pointer (some ⟨P, 0, none⟩)] x.w' fun e w' => e = .returned (.int .u64 (st2.val : Int)) ∧ Below x.w'.heap.size x.w' w') :=
            hid fun x => (value_any (tat_keep HR2.out (x.h.block P (tat_lt HR2.out)))).mono fun e w' ⟨a, b⟩ => ⟨a, by rw [← b]; exact Below.refl _ _⟩
          have j0 := later_cell c0
          have j1 := later_cell c1
          clear hit
          go_wp2_with fail
          refine wp_region_later (by kernel_rfl) (by kernel_rfl) ?_
          repeat ((go_big_quiet_step ((first | (go_at_call 11; with_reducible exact calls_later (HV.out _))))))
          refine wpQuiet_nil ?_
          intro wL hwL
          obtain ⟨⟨w8, hL⟩, e8⟩ := hwL
          change wL = w8 at e8
          subst e8
          have HBL := hid (HB2.out.trans (hL.mono HB2.out.size))
          clear hL HR2 HC2 HB2 HV j0 j1 c0 c1
          have hp := hid (IE.pauses (n := b) h5)
          have hE := hid (IE.ends (b := b) (by omega) h5)
          have hofb := IE.ofN_eq b
          go_wp2_with fail
          refine (pause_word b r (by omega) hp.out _).mono ?_
          rintro e w' ⟨rfl, rfl⟩
          have hle := IE.pauseV_le b r
          have hofp := IE.ofN_eq (IE.pauseV b r)
          have hle2 : decide ((4294967296 : Int) < ((IE.pauseV b r : Nat) : Int)) = false := decide_eq_false (by omega)
          have hend : ∀ w', Below W.heap.size W w' → Calls Try.prog 7 #[] w' fun e w'' => e = .returned (.bool true) ∧ Below W.heap.size W w'' := fun w' bw => (works_any w').mono fun e w'' ⟨h1, h2⟩ => ⟨h1, bw.trans (h2.mono bw.size)⟩
          have HEND := hid hend
          have HBD := hid (fun w2 hd => below_dr (w' := w2) HBL.out hd)
          clear hend
          rcases hE.out with h | ⟨h, hv⟩ | ⟨hr, hv, hx, y, hy⟩ | ⟨h, hv, x, y, hx, hy, ho⟩
          · generalize IE.pauseV b r = pv at *
            rcases h with h | h | h
            all_goals
              go_wp2_with fail
              refine (HEND.out _ HBL.out).mono ?_
              rintro e w3 ⟨rfl, b3⟩
              go_wp2_with fail
              go_ret
              exact ⟨rfl, b3⟩
          · rw [hv]
            go_wp2_with fail
            refine (HEND.out _ HBL.out).mono ?_
            rintro e w3 ⟨rfl, b3⟩
            go_wp2_with fail
            go_ret
            exact ⟨rfl, b3⟩
          · have hi : IE.D.order r 0 = some .gt := by rw [hr]; decide +kernel
            have hof0 := IE.ofN_eq 0
            rw [show ((0 : Nat) : Int) = 0 from rfl] at hof0
            obtain ⟨z, hz, hzr⟩ := fres_none (P := Try.prog) wL (IE.ofN 0) r
            have hzy := (IE.order_nan hz y).1
            rw [show IE.c0999 = 4607173411600762667 from rfl] at hy
            rw [hv]
            clear hr hofp hle hv hz hle2
            generalize IE.ofN b = xb at *
            generalize IE.ofN 0 = x0 at *
            go_wp2_with fail
            refine (HEND.out _ (HBD.out _ ⟨1, rfl⟩)).mono ?_
            rintro e w3 ⟨rfl, b3⟩
            go_wp2_with fail
            go_ret
            exact ⟨rfl, b3⟩
          · rw [show IE.c0999 = 4607173411600762667 from rfl] at hy
            generalize IE.pauseV b r = pv at *
            have hl1 : decide ((pv : Int) < 4294967296) = true := decide_eq_true (by omega)
            have hl2 : decide (pv < 4294967296) = true := decide_eq_true (by omega)
            generalize IE.ofN b = xb at *
            generalize IE.ofN pv = xp at *
            rcases ho with ho | ho
            all_goals
              go_wp2_with fail
              refine (HEND.out _ HBL.out).mono ?_
              rintro e w3 ⟨rfl, b3⟩
              go_wp2_with fail
              go_ret
              exact ⟨rfl, b3⟩
end Go.Proofs.Ytfifecjnniahiaa

namespace Go.Proofs.Ytfifecjnniahiaa
open Go.RowKit Go.ChangeShapes Go.WideShapes Go.Deep

section
variable {H : Type} {enc : TypeId × Value → H} {P : Program} {w : World} {base : Nat} {spare : Nat → Bool} {held : Bool}
/-- The kit's own page on structs has this theorem for copying: a slice of structs, each field of one cell. -/
theorem open_slice_fields {t e : TypeId} {fs : Array Field} {fuel : Nat} {cs : List Value} {x : DataW H × List MemPlace} (ht : P.underlying t = some (.slice e)) (he : P.underlying e = some (.struct fs))
    (hone : oneCellFields P fs = true) (hC : P.cellsOf e = fs.size) (h : DataW.trod enc P w base spare held fuel t cs = some x) :
    (cs = [.slice none 0 0] ∧ x = (.nil, [])) ∨
    ∃ (a : Addr) (len cap m : Nat) (D : Nat → DataW H) (Pl : Nat → List MemPlace), cs = [.slice (some a) len cap] ∧ base ≤ a.block ∧ len ≤ cap ∧ cap ≤ maxLen ∧ m = (if spare a.block then cap else len) ∧
      x = (.slice ((List.range len).map D) ((List.range (m - len)).map fun j => D (len + j)), MemPlace.row a (m * fs.size) ++ (List.range m).flatMap Pl) ∧
      ∀ i, i < m → ∃ (ys : List (DataW H × List MemPlace)) (n : Nat), D i = .agg (ys.map (·.1)) ∧ Pl i = ys.flatMap (·.2) ∧ ys.length = fs.size ∧
        ∀ (j : Nat) (f : Field), fs[j]? = some f → ∃ (v : Value) (y : DataW H × List MemPlace), w.cell? (a.add (i * fs.size + j)) = some v ∧ ys[j]? = some y ∧ DataW.trod enc P w base spare held n f.type [v] = some y := by
  rcases open_slice ht h with h0 | ⟨a, len, cap, m, n, D, Pl, hcs, hb, hl, hm, hmm, hx, hi⟩
  · exact .inl h0
  · refine .inr ⟨a, len, cap, m, D, Pl, hcs, hb, hl, hm, hmm, by rw [hC] at hx; exact hx, fun i him => ?_⟩
    obtain ⟨cs', hc, ht'⟩ := hi i him
    rw [hC] at hc
    obtain ⟨ys, n', hn', hy, hlen, hyl, hf⟩ := DataW.trod_struct he ht'
    obtain ⟨_, hcl, hat⟩ := World.cells?_some hc
    simp only [Prod.mk.injEq] at hy
    refine ⟨ys, n', hy.1, hy.2, hyl, fun j f hj => ?_⟩
    obtain ⟨ho, hk⟩ := hone_of hone j f hj
    have hjl : j < fs.size := (Array.getElem?_eq_some_iff.1 hj).1
    have hcell := hat j hjl
    have hv : cs'[j]? = some (cs'[j]'(by omega)) := List.getElem?_eq_getElem (by omega)
    have h1 := hf j f hj
    rw [ho, hk] at h1
    have hone' : (cs'.drop j).take 1 = [cs'[j]'(by omega)] := by
      rw [List.drop_eq_getElem_cons (by omega)]
      rfl
    rw [hone'] at h1
    have hys : ys[j]? = some (ys[j]'(by omega)) := List.getElem?_eq_getElem (by omega)
    refine ⟨_, _, ?_, hys, h1.trans hys⟩
    rw [← Go.Deep.add_add, hcell, hv]

/-- A slice of structs that came in: its length, and the cells of its elements at a plain address. -/
theorem slice_fields_at {t e : TypeId} {fs : Array Field} {fuel : Nat} {a : Option Addr} {len cap : Nat} {x : DataW H × List MemPlace} (ht : P.underlying t = some (.slice e)) (he : P.underlying e = some (.struct fs))
    (hone : oneCellFields P fs = true) (hC : P.cellsOf e = fs.size) (hpos : 0 < fs.size) (h : DataW.trod enc P w base (fun _ => true) held fuel t [.slice a len cap] = some x) :
    len ≤ maxLen ∧ (len = 0 ∨ ∃ b off, a = some ⟨b, off, none⟩ ∧ b < w.heap.size ∧ ∀ i, i < len → ∃ n, ∀ (j : Nat) (f : Field), fs[j]? = some f →
      ∃ (v : Value) (y : DataW H × List MemPlace), w.cell? ⟨b, off + i * fs.size + j, none⟩ = some v ∧ DataW.trod enc P w base (fun _ => true) held n f.type [v] = some y) := by
  rcases open_slice_fields ht he hone hC h with ⟨hcs, _⟩ | ⟨a', l, c, m, D, Pl, hcs, _, hl, hm, hmm, _, hi⟩
  · simp only [List.cons.injEq, Value.slice.injEq, and_true] at hcs
    obtain ⟨rfl, rfl, rfl⟩ := hcs
    exact ⟨Nat.zero_le _, .inl rfl⟩
  · simp only [List.cons.injEq, Value.slice.injEq, and_true] at hcs
    obtain ⟨rfl, rfl, rfl⟩ := hcs
    refine ⟨by omega, ?_⟩
    by_cases h0 : len = 0
    · exact .inl h0
    · right
      have hmc : m = cap := by simpa using hmm
      obtain ⟨ys, n, _, _, _, hf⟩ := hi 0 (by omega)
      obtain ⟨v, y, hc, _, _⟩ := hf 0 fs[0] (by simp [hpos])
      obtain ⟨b, off, spot⟩ := a'
      have hspot : spot = none := by simpa [Addr.add] using World.cell?_spot hc
      subst hspot
      refine ⟨b, off, rfl, by simpa [add_plain] using World.block_lt_of_cell? w _ hc, fun i hil => ?_⟩
      obtain ⟨ys, n, _, _, _, hf⟩ := hi i (by omega)
      refine ⟨n, fun j f hj => ?_⟩
      obtain ⟨v, y, hc, _, ht'⟩ := hf j f hj
      rw [add_plain, ← Nat.add_assoc] at hc
      exact ⟨v, y, hc, ht'⟩
end

end Go.Proofs.Ytfifecjnniahiaa

namespace Go.Proofs.Ytfifecjnniahiaa
open Go.RowKit Go.ChangeShapes Go.WideShapes Go.Deep

instance : Inhabited Stp := ⟨⟨0, 0⟩⟩

section
variable {H : Type} {enc : TypeId × Value → H} {P : Program} {w : World} {base : Nat} {spare : Nat → Bool} {held : Bool}
/-- A struct that came in by value, each field of one cell: its fields. -/
theorem struct_fields {t : TypeId} {fs : Array Field} {cs : Array Value} {d : DataW H} {p : List MemPlace} (he : P.underlying t = some (.struct fs)) (hone : oneCellFields P fs = true)
    (h : DataW.Trod enc P w base spare held t (.agg cs) d p) : ∃ n, ∀ (j : Nat) (f : Field), fs[j]? = some f → ∀ hj : j < cs.size, ∃ y : DataW H × List MemPlace, DataW.trod enc P w base spare held n f.type [cs[j]] = some y := by
  obtain ⟨m, hm⟩ := h
  obtain ⟨ys, n', hn', hy, hlen, hyl, hf⟩ := DataW.trod_struct he hm
  refine ⟨n', fun j f hj hjl => ?_⟩
  obtain ⟨ho, hk⟩ := hone_of hone j f hj
  have h1 := hf j f hj
  rw [ho, hk] at h1
  have hcl : (Value.agg cs).cells.toList = cs.toList := rfl
  rw [hcl] at h1
  have hone' : (cs.toList.drop j).take 1 = [cs[j]] := by
    rw [List.drop_eq_getElem_cons (by simpa using hjl)]
    simp
  rw [hone'] at h1
  have hjf : j < fs.size := (Array.getElem?_eq_some_iff.1 hj).1
  rw [List.getElem?_eq_getElem (by omega)] at h1
  exact ⟨_, h1⟩
end
section
variable {H : Type} {enc : TypeId × Value → H} {w : World} {base : Nat} {spare : Nat → Bool} {held : Bool}
theorem nat_of {n : Int} {hi : Int} (h : 0 ≤ n ∧ n ≤ hi) : ∃ m : Nat, n = (m : Int) ∧ (m : Int) ≤ hi := by
  obtain ⟨m, rfl⟩ := Int.eq_ofNat_of_zero_le h.1
  exact ⟨m, rfl, h.2⟩

theorem conf_open {cs : Array Value} {d : DataW H} {p : List MemPlace} (hsz : cs.size = 2) (h : DataW.Trod enc Try.prog w base spare held 24 (.agg cs) d p) : ∃ l m : Nat, cs = #[.int .u64 (l : Int), .int .u64 (m : Int)] := by
  obtain ⟨n, hf⟩ := struct_fields Try.underlying24 (by kernel_rfl) h
  obtain ⟨l⟩ := cs
  match l, hsz with
  | [v0, v1], _ =>
    obtain ⟨y0, t0⟩ := hf 0 _ rfl (by simp)
    obtain ⟨y1, t1⟩ := hf 1 _ rfl (by simp)
    obtain ⟨n0, e0, _, f0⟩ := DataW.trod_int Try.underlying22 t0
    obtain ⟨n1, e1, _, f1⟩ := DataW.trod_int Try.underlying22 t1
    simp only [List.cons.injEq, and_true, List.getElem_toArray, List.getElem_cons_zero, List.getElem_cons_succ] at e0 e1
    subst e0 e1
    obtain ⟨m0, rfl, g0⟩ := nat_of (bounds_u64 f0)
    obtain ⟨m1, rfl, g1⟩ := nat_of (bounds_u64 f1)
    exact ⟨m0, m1, rfl⟩
end
section
variable {H : Type} {enc : TypeId × Value → H} {w : World} {base : Nat} {held : Bool}
theorem steps_open {fuel : Nat} {a : Option Addr} {len cap : Nat} {x : DataW H × List MemPlace} (h : DataW.trod enc Try.prog w base (fun _ => true) held fuel 25 [.slice a len cap] = some x) :
    len ≤ maxLen ∧ ∃ s, StepsAt w a len s := by
  obtain ⟨hm, h0 | ⟨b, off, rfl, hb, hc⟩⟩ := slice_fields_at Try.underlying25 Try.underlying41 (by kernel_rfl) (by kernel_rfl) (by decide) h
  · exact ⟨hm, fun _ => ⟨0, 0⟩, .inl h0⟩
  · obtain ⟨s, hs⟩ := choose_lt (α := Stp) (n := len) (p := fun k t => w.cell? ⟨b, off + k * 2, none⟩ = some (.int .i64 t.o) ∧ w.cell? ⟨b, off + k * 2 + 1, none⟩ = some (.int .u64 (t.n : Int))) (fun k hk => by
      obtain ⟨n, hf⟩ := hc k hk
      obtain ⟨v0, y0, c0, t0⟩ := hf 0 _ rfl
      obtain ⟨v1, y1, c1, t1⟩ := hf 1 _ rfl
      obtain ⟨n0, e0, _, _⟩ := DataW.trod_int Try.underlying3 t0
      obtain ⟨n1, e1, _, f1⟩ := DataW.trod_int Try.underlying22 t1
      simp only [List.cons.injEq, and_true] at e0 e1
      subst e0 e1
      obtain ⟨m1, rfl⟩ := Int.eq_ofNat_of_zero_le (bounds_u64 f1).1
      exact ⟨⟨n0, m1⟩, c0, c1⟩)
    exact ⟨hm, s, .inr ⟨b, off, rfl, hb, hs⟩⟩
end
theorem wf_float {b : Nat} (h : (Lit.float .f64 b).wf = true) : b < 18446744073709551616 := of_decide_eq_true h
end Go.Proofs.Ytfifecjnniahiaa
