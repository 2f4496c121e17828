/- The timer of the reference: a sample more. The timer of the reference: Sample, Backoff, New. A region that draws its order, whose operations read and whose calls leave all that stood as it was: one walk in the order of the text. The walk of TimerPlays. Words of 64 bits of every kind: what they are against nought and one; what a mix, a rate, a pause is. Mix, Rate and Same at any words. The document's Mix, both rates and pauses, Same: at any words. -/
import Derived.Test.YtfifecjnniahiaaM02
import Derived.Test.YtfifecjnniahiaaM01
import Derived.Deep.RegionHeld3
import Derived.Deep.DeepCutAuto
namespace Go.Proofs.Ytfifecjnniahiaa
open Go Go.RowKit
section
variable {w : World} {P l m n : Nat} {t : IE.TS}

theorem ord_neg {d : Nat} (h1 : 1 ≤ d) (h : d < IE.inf) : IE.D.order (IE.sgn + d) 0 = some .lt := by
  have hm := IE.vm_pos h1
  unfold Ieee.Format.order
  rw [IE.read_neg (Nat.lt_trans h inf_sgn), IE.read_rung h, IE.read_rung (show 0 < IE.inf by decide)]
  simp only [Ieee.Datum.opposite, Ieee.Datum.order, Bool.not_false]
  rw [IE.signed_neg, IE.signed_pos, show IE.vm 0 = 0 by decide, Nat.zero_mul]
  congr 1
  refine Int.compare_eq_lt.2 ?_
  have := Nat.mul_pos (Nat.pos_of_ne_zero hm) (Nat.two_pow_pos ((-1074 + (IE.ve d : Int) - min (-1074 + (IE.ve d : Int)) (-1074 + (IE.ve 0 : Int))).toNat))
  omega
theorem neg_neg {d : Nat} (h : d < IE.sgn) : Op.negFloat .f64 (IE.sgn + d) = d := by
  unfold Op.negFloat
  rw [show FloatKind.f64.format.exponentBits + FloatKind.f64.format.fractionBits = 63 from rfl]
  have hs : IE.sgn = 2 ^ 63 := by decide
  rw [hs] at h ⊢
  refine Nat.eq_of_testBit_eq fun i => ?_
  rw [Nat.testBit_xor, Nat.testBit_two_pow]
  rcases Nat.lt_trichotomy i 63 with hi | rfl | hi
  · rw [Nat.testBit_two_pow_add_gt hi, decide_eq_false (by omega), Bool.xor_false]
  · rw [Nat.testBit_two_pow_add_eq]; simp
  · have e1 : (2 ^ 63 + d).testBit i = false := Nat.testBit_lt_two_pow (Nat.lt_of_lt_of_le (show 2 ^ 63 + d < 2 ^ 64 by omega) (Nat.pow_le_pow_right (by decide) hi))
    have e2 : d.testBit i = false := Nat.testBit_lt_two_pow (Nat.lt_trans h (Nat.pow_lt_pow_right (by decide) hi))
    rw [e1, e2, decide_eq_false (by omega)]; rfl

/-- The difference, as the reference takes it. -/
theorem sub_cases {a b : Nat} (ha : a < IE.inf) (hb : b < IE.inf) : ∃ r, IE.D.sub a b = some r ∧ ((r = IE.dif a b ∧ (IE.D.order r 0 = some .eq ∨ IE.D.order r 0 = some .gt)) ∨ (IE.D.order r 0 = some .lt ∧ ∀ (P : Program) (w : World), (Op.unary .neg (.float .f64 r)).run P w = .ok (.float .f64 (IE.dif a b)) w)) := by
  have hd : IE.dif a b < IE.inf := by
    rcases Nat.le_total a b with h | h
    · exact Nat.lt_of_le_of_lt (IE.dif_le (Nat.le_of_lt hb) h (Nat.le_refl _)) hb
    · exact Nat.lt_of_le_of_lt (IE.dif_le (Nat.le_of_lt ha) (Nat.le_refl _) h) ha
  by_cases h : b ≤ a
  · refine ⟨_, IE.sub_eq ha hb h, .inl ⟨by unfold IE.dif; rw [if_pos h], ?_⟩⟩
    have e : IE.dif a b = IE.RN 0 (IE.val 0 a - IE.val 0 b) := by unfold IE.dif; rw [if_pos h]
    rw [← e]
    exact ord_zero hd
  · have e : IE.dif a b = IE.RN 0 (IE.val 0 b - IE.val 0 a) := by unfold IE.dif; rw [if_neg h]
    refine ⟨_, IE.sub_neg ha hb (by omega), .inr ?_⟩
    rw [← e]
    refine ⟨ord_neg (IE.dif_pos ha hb (by omega)) hd, fun P w => ?_⟩
    have hz := neg_neg (Nat.lt_trans hd inf_sgn)
    show (pure (Value.float .f64 (Op.negFloat .f64 (IE.sgn + IE.dif a b))) : Sem Value).run P w = _
    rw [hz]
    rfl

attribute [-go_sem] run_fadd in
set_option maxHeartbeats 1000000 in
theorem rsample_more (hn : n ≤ 4294967296) (hh : t.has = true) (hok : t.ok) (h : TAt w P 38 l m t) :
    Calls Try.prog 14 #[.pointer (some ⟨P, 0, none⟩), .int .u64 (n : Int)] w fun e w' => e = .returned (.tuple #[]) ∧ TAt w' P 38 l m (t.sample l m n) ∧ Out (· = P) w w' := by
  have hn' : decide ((4294967296 : Int) < (n : Int)) = false := decide_eq_false (by omega)
  obtain ⟨s, v, hP, hs⟩ := h
  rw [hh] at hs
  obtain ⟨rfl, rfl⟩ : s = t.s ∧ v = t.v := hs
  have ht : t.sample l m n = ⟨true, IE.mixR 4606056518893174784 4593671619917905920 t.s (IE.ofN n), IE.mixR 4604930618986332160 4598175219545276416 t.v (IE.dif t.s (IE.ofN n)), IE.clampT l m (IE.due (IE.mixR 4606056518893174784 4593671619917905920 t.s (IE.ofN n)) (IE.mixR 4604930618986332160 4598175219545276416 t.v (IE.dif t.s (IE.ofN n))))⟩ := by
    unfold IE.TS.sample; rw [if_neg (by omega)]; simp only [hh, if_true, IE.c0875, IE.c0125, IE.c075, IE.c025]
  have hok2 := IE.TS.sample_ok hok l m n
  rw [ht] at hok2 ⊢
  have hnum : Num _ _ := ⟨hok2.s, hok2.v⟩
  have hx := ofn_le hn
  have hxi := Nat.lt_of_le_of_lt hx IE.M32_inf
  have hsi := Nat.lt_of_le_of_lt hok.s IE.M32_inf
  have hd := IE.dif_le (Nat.le_of_lt IE.M32_inf) hok.s hx
  obtain ⟨r, hr, hrd⟩ := sub_cases hsi hxi
  have HMV := hid (mixok_v hok.v hd)
  have HMS := hid (mixok_s hok.s hx)
  have ho := nan_rung hsi
  have hof := IE.ofN_eq n
  have c0 : w.cell? ⟨P, 0, none⟩ = some (.int .u64 (l : Int)) := cell_at hP 0
  have c1 : w.cell? ⟨P, 1, none⟩ = some (.int .u64 (m : Int)) := cell_at hP 1
  have c2 : w.cell? ⟨P, 2, none⟩ = some (.float .f64 t.s) := cell_at hP 2
  have c3 : w.cell? ⟨P, 3, none⟩ = some (.float .f64 t.v) := cell_at hP 3
  have c4 : w.cell? ⟨P, 4, none⟩ = some (.int .u64 (t.val : Int)) := cell_at hP 4
  have hf := free_at hP
  have HP := hid hP
  clear hP hx hxi ht hn hok hok2 hsi hd hh
  generalize IE.dif t.s (IE.ofN n) = d at *
  generalize IE.ofN n = x at *
  obtain ⟨has, ts, tv, tx⟩ := t
  simp only at *
  obtain ⟨s', hs'⟩ : ∃ s', IE.mixR 4606056518893174784 4593671619917905920 ts x = s' := ⟨_, rfl⟩
  obtain ⟨v', hv'⟩ : ∃ v', IE.mixR 4604930618986332160 4598175219545276416 tv d = v' := ⟨_, rfl⟩
  have hms := fun w => rmix_fin _ _ _ _ HMS.out w
  have hmv := fun w => rmix_fin _ _ _ _ HMV.out w
  rw [hs'] at hms hnum
  rw [hv'] at hmv hnum
  rw [hs', hv']
  have HA := hid hms
  have HB := hid hmv
  obtain ⟨V, k2, k3⟩ := sum_word hnum
  have hq := quarter hnum
  replace hrd : (r = d ∧ (IE.D.order r 0 = some .eq ∨ IE.D.order r 0 = some .gt)) ∨ (IE.D.order r 0 = some .lt ∧ ∀ (w : World), (Op.unary .neg (.float .f64 r)).run Try.prog w = .ok (.float .f64 d) w) := hrd.imp id fun h => ⟨h.1, h.2 _⟩
  clear hs' hv' HMV HMS hms hmv hnum
  generalize pof v' = pv at *
  generalize IE.due s' v' = dv at *
  have hc : Hid (min (max (dv : Int) (l : Int)) (m : Int) = ((IE.clampT l m dv : Nat) : Int)) := hid (by unfold IE.clampT; omega)
  rcases hrd with ⟨rfl, hrd | hrd⟩ | ⟨hrd, hng⟩ <;> rcases hq with ⟨q1, q2⟩ | ⟨q1 | q1, q2⟩
  all_goals
    go_enter Try.func14, Try.ntmps14
    go_wp2_with (first | (go_at_call 26; refine (none_any _ _).mono ?_; rintro e w' ⟨rfl, rfl⟩) | (go_at_call 22; with_reducible refine (HB.out _).mono ?_; rintro e w' ⟨rfl, rfl⟩) | (go_at_call 22; with_reducible refine (HA.out _).mono ?_; rintro e w' ⟨rfl, rfl⟩))
    have g0 : ((w.setCell ⟨P, 3, none⟩ (.float .f64 v')).setCell ⟨P, 2, none⟩ (.float .f64 s')).cell? ⟨P, 0, none⟩ = some (.int .u64 (l : Int)) := by go_simp; try rfl
    have g1 : ((w.setCell ⟨P, 3, none⟩ (.float .f64 v')).setCell ⟨P, 2, none⟩ (.float .f64 s')).cell? ⟨P, 1, none⟩ = some (.int .u64 (m : Int)) := by go_simp; try rfl
    have g2 : ((w.setCell ⟨P, 3, none⟩ (.float .f64 v')).setCell ⟨P, 2, none⟩ (.float .f64 s')).cell? ⟨P, 2, none⟩ = some (.float .f64 s') := by go_simp; try rfl
    have g4 : ((w.setCell ⟨P, 3, none⟩ (.float .f64 v')).setCell ⟨P, 2, none⟩ (.float .f64 s')).cell? ⟨P, 4, none⟩ = some (.int .u64 (tx : Int)) := by go_simp; try rfl
    have gf : ((w.setCell ⟨P, 3, none⟩ (.float .f64 v')).setCell ⟨P, 2, none⟩ (.float .f64 s')).frozen? ⟨P, 4, none⟩ = false := by go_simp; try rfl
    obtain ⟨wz, hwz⟩ : ∃ wz, wz = (w.setCell ⟨P, 3, none⟩ (.float .f64 v')).setCell ⟨P, 2, none⟩ (.float .f64 s') := ⟨_, rfl⟩
    rw [← hwz] at g0 g1 g2 g4 gf ⊢
    have HWZ := hid hwz
    clear hwz c0 c1 c2 c3 c4 hf q1 q2 hrd hr
    generalize Value.float .f64 s' = Sv at g2 k2 ⊢
    generalize Value.float .f64 pv = Pv at k2 ⊢
    go_region_held3 (fun w' => w'.cell? ⟨P, 0, none⟩ = some (.int .u64 (l : Int)) ∧ w'.cell? ⟨P, 1, none⟩ = some (.int .u64 (m : Int)) ∧ w'.cell? ⟨P, 2, none⟩ = some Sv) (first | (refine ⟨?_, ?_, ?_⟩ <;> (rw [keep4 _ _ _ _ (by decide)]; assumption)) | go_keep) (fail)
    go_wp2_with fail
    rw [hc.out]
    go_end0
    exact ⟨rfl, rdone HP.out _ ⟨1, .inr (by rw [HWZ.out]; rfl)⟩⟩
end
end Go.Proofs.Ytfifecjnniahiaa

namespace Go.Proofs.Ytfifecjnniahiaa
open Go Go.RowKit
section
variable {w : World} {P l m n : Nat} {t : IE.TS}
theorem rsample_any (hok : t.ok) (h : TAt w P 38 l m t) :
    Calls Try.prog 14 #[.pointer (some ⟨P, 0, none⟩), .int .u64 (n : Int)] w fun e w' => e = .returned (.tuple #[]) ∧ TAt w' P 38 l m (t.sample l m n) ∧ Out (· = P) w w' := by
  by_cases hn : n ≤ 4294967296
  · cases hh : t.has
    · exact rsample_first hn hh h
    · exact rsample_more hn hh hok h
  · exact rsample_far (by omega) h

set_option maxHeartbeats 1000000 in
theorem rbackoff_any (hv : t.val ≤ 4294967296) (h : TAt w P 38 l m t) :
    Calls Try.prog 16 #[.pointer (some ⟨P, 0, none⟩)] w fun e w' => e = .returned (.tuple #[]) ∧ TAt w' P 38 l m (t.backoff m) ∧ Out (· = P) w w' := by
  obtain ⟨s, v, hP, hs⟩ := h
  have c1 : w.cell? ⟨P, 1, none⟩ = some (.int .u64 (m : Int)) := cell_at hP 1
  have c4 : w.cell? ⟨P, 4, none⟩ = some (.int .u64 (t.val : Int)) := cell_at hP 4
  have hb : 2 * (t.val : Int) ≤ 18446744073709551615 := by omega
  have hf := free_at hP 4
  have HP := hid hP
  have ev : min (2 * (t.val : Int)) (m : Int) = (((t.backoff m).val : Nat) : Int) := by
    have h2 : 2 * t.val % 18446744073709551616 = 2 * t.val := Nat.mod_eq_of_lt (by omega)
    unfold IE.TS.backoff
    simp only [h2]
    omega
  have EV := hid ev
  clear hP ev
  go_enter Try.func16, Try.ntmps16
  go_wp2_with fail
  refine still_tail 12 (by kernel_rfl) (by kernel_rfl) ?_
  simp only [List.take_succ_cons, List.take_zero, List.drop_succ_cons, List.drop_zero]
  repeat (first | (refine wpStill_step (fun K hK => ?_); go_simp; refine hK _ ?_; clear hK K; try go_ints))
  refine wpStill_nil ?_
  go_wp2_with fail
  rw [EV.out]
  go_end0
  exact ⟨rfl, ⟨s, v, at_setCell HP.out 4 _, hs⟩, ((Out.refl (fun k => k = P) w).setCell (p := ⟨P, 4, none⟩) rfl _).drew⟩

theorem rnew_no (hm : l < 1 ∨ m < l ∨ 4294967296 < m) : Calls Try.prog 9 #[.agg #[.int .u64 (l : Int), .int .u64 (m : Int)]] w fun e w' => e = .returned (.pointer none) ∧ Below w.heap.size w w' := by
  have c0 : (w.alloc (.cells #[.int .u64 (l : Int), .int .u64 (m : Int)] 24)).cell? ⟨w.heap.size, 0, none⟩ = some (.int .u64 (l : Int)) := cell_at (alloc_at _ _) 0
  have c1 : (w.alloc (.cells #[.int .u64 (l : Int), .int .u64 (m : Int)] 24)).cell? ⟨w.heap.size, 1, none⟩ = some (.int .u64 (m : Int)) := cell_at (alloc_at _ _) 1
  by_cases h1 : (l : Int) < 1
  · clear hm
    go_enter Try.func9, Try.ntmps9
    go_wp2_with fail
    go_ret
    exact ⟨rfl, (Below.refl _ _).alloc (Nat.le_refl _) _⟩
  · have h1' : decide ((l : Int) < 1) = false := decide_eq_false h1
    by_cases h2 : (m : Int) < (l : Int)
    · clear hm h1
      go_enter Try.func9, Try.ntmps9
      go_wp2_with fail
      go_ret
      exact ⟨rfl, (Below.refl _ _).alloc (Nat.le_refl _) _⟩
    · have h2' : decide (m < l) = false := decide_eq_false (by omega)
      have h3 : (4294967296 : Int) < (m : Int) := by omega
      clear hm h1 h2
      go_enter Try.func9, Try.ntmps9
      go_wp2_with fail
      go_ret
      exact ⟨rfl, (Below.refl _ _).alloc (Nat.le_refl _) _⟩

theorem rnew_at {z1 z2 x : Nat} (o : Obj) : (((w.alloc o).alloc (.cells (tcells l m z1 z2 x) 38)).drew.drew.drew).heap[w.heap.size + 1]? = some (.cells (tcells l m z1 z2 x) 38 (0, 0)) := by
  have := alloc_at (w.alloc o) (.cells (tcells l m z1 z2 x) 38)
  rw [World.size_alloc] at this
  exact this
theorem rnew_below {o o' : Obj} : Below w.heap.size w (((w.alloc o).alloc o').drew.drew.drew) := by
  have b1 := (Below.refl w.heap.size w).alloc (Nat.le_refl _) o
  exact ((b1.alloc b1.size o').drew.drew).drew
set_option maxHeartbeats 1000000 in
theorem rnew_any (h1 : 1 ≤ l) (h2 : l ≤ m) (h3 : m ≤ 4294967296) : Calls Try.prog 9 #[.agg #[.int .u64 (l : Int), .int .u64 (m : Int)]] w fun e w' => ∃ P, w.heap.size ≤ P ∧ e = .returned (.pointer (some ⟨P, 0, none⟩)) ∧ TAt w' P 38 l m (freshT l m) ∧ Below w.heap.size w w' := by
  have d1 : decide ((l : Int) < 1) = false := decide_eq_false (by omega)
  have d2 : decide ((m : Int) < (l : Int)) = false := decide_eq_false (by omega)
  have d3 : decide ((4294967296 : Int) < (m : Int)) = false := decide_eq_false (by omega)
  have d2' : decide (m < l) = false := decide_eq_false (by omega)
  have c0 : (w.alloc (.cells #[.int .u64 (l : Int), .int .u64 (m : Int)] 24)).cell? ⟨w.heap.size, 0, none⟩ = some (.int .u64 (l : Int)) := cell_at (alloc_at _ _) 0
  have c1 : (w.alloc (.cells #[.int .u64 (l : Int), .int .u64 (m : Int)] 24)).cell? ⟨w.heap.size, 1, none⟩ = some (.int .u64 (m : Int)) := cell_at (alloc_at _ _) 1
  go_enter Try.func9, Try.ntmps9
  go_wp2_with fail
  go_region_held3 (fun w' => w'.cell? ⟨w.heap.size, 0, none⟩ = some (.int .u64 (l : Int)) ∧ w'.cell? ⟨w.heap.size, 1, none⟩ = some (.int .u64 (m : Int))) (go_keep) (first | (go_at_call 25; refine (nan_any _).mono ?_; rintro e w' ⟨z, hz, rfl, rfl⟩))
  all_goals
    have ev : min (max (l : Int) 1000) (m : Int) = ((IE.clampT l m 1000 : Nat) : Int) := by unfold IE.clampT; omega
    rw [ev]
    go_wp2_with fail
    go_ret
    exact ⟨w.heap.size + 1, Nat.le_succ _, rfl, ⟨_, _, rnew_at _, by assumption, by assumption⟩, rnew_below⟩
end
end Go.Proofs.Ytfifecjnniahiaa

namespace Go.Proofs.Ytfifecjnniahiaa
open Go Go.RowKit

/-- A world in which all that stood in w is as it was. -/
structure Later (w : World) where
  w' : World
  h : Below w.heap.size w w'

instance (w : World) : Nonempty (Later w) := ⟨⟨w, Below.refl _ _⟩⟩

variable {P : Program}
theorem wp_region_later {id : Nat} {Q : Exit → Act → World → Prop} {a : Act} {w : World} {l : List Oper} (hm : P.follows .mixedOrders = true) (hB : Region.lexB .any l.toArray = true)
    (h : wpQuiet P l.toArray (fun w' => ∃ x : Later w, w' = x.w') (fun a' => ∀ w', (∃ x : Later w, w' = x.w') → Q .normal a' w') l a) : (Code.region id l.toArray true).wp P Q a w :=
  wp_region_quiet (C := fun w' => ∃ x : Later w, w' = x.w') hm hB ⟨⟨w.drew, (Below.refl _ _).drew⟩, rfl⟩ (by simpa using h)
theorem calls_later {f : FuncId} {args : Array Value} {w : World} {x : Later w} {v : Value} (h : Calls P f args x.w' fun e w' => e = .returned v ∧ Below x.w'.heap.size x.w' w') :
    Calls P f args x.w' fun e w'' => e = .returned v ∧ ∃ y : Later w, w'' = y.w' :=
  h.mono fun _ _ ⟨he, hb⟩ => ⟨he, ⟨⟨_, below_to x.h hb⟩, rfl⟩⟩
theorem later_block {w : World} {b : Nat} {o : Obj} (h : w.heap[b]? = some o) (x : Later w) : x.w'.heap[b]? = some o := (x.h.block b (lt_blk h)).trans h
theorem later_cell {w : World} {p : Addr} {v : Value} (c : w.cell? p = some v) (x : Later w) : x.w'.cell? p = some v := (x.h.cell (p := p) (World.block_lt_of_cell? w p c)).trans c

theorem keepB {w w' : World} {b : Nat} {o : Obj} (hb : Below w.heap.size w w') (h : w.heap[b]? = some o) : w'.heap[b]? = some o := (hb.block b (lt_blk h)).trans h

/-- A load of a whole row. -/
theorem quiet_load {C : World → Prop} {K : Act → Prop} {a : Act} {o : Oper} (ty : TypeId) (x : Operand) (ho : o.op = .load ty x) {p : Value} (hp : a.eval x = p) {v : Value}
    (h : ∀ w, C w → (Instr.loadAt ty p).run P w = .ok v w) (hk : K (a.put o.dst v)) : o.quiet P a C K := by
  refine ⟨v, fun w hw => ?_, hk⟩
  unfold Oper.quietAt execOp
  simp only [ho, hp, Sem.run_bind, Sem.run_pure, Result.andThen_ok, h w hw]
  exact ⟨rfl, rfl⟩

end Go.Proofs.Ytfifecjnniahiaa

namespace Go.Proofs.Ytfifecjnniahiaa
open Go Go.RowKit

structure Stp where
  o : Int
  n : Nat
/-- A slice of steps: nothing, or a row of cells. -/
def StepsAt (w : World) (a : Option Addr) (len : Nat) (s : Nat → Stp) : Prop :=
  len = 0 ∨ ∃ b off, a = some ⟨b, off, none⟩ ∧ b < w.heap.size ∧ ∀ k, k < len → w.cell? ⟨b, off + k * 2, none⟩ = some (.int .i64 (s k).o) ∧ w.cell? ⟨b, off + k * 2 + 1, none⟩ = some (.int .u64 ((s k).n : Int))

section
variable {w : World} {t : IE.TS}
theorem same_pair (hok : t.ok) {s v s2 v2 : Nat} (h1 : if t.has then s = t.s ∧ v = t.v else IE.nanB s = true ∧ IE.nanB v = true) (h2 : if t.has then s2 = t.s ∧ v2 = t.v else IE.nanB s2 = true ∧ IE.nanB v2 = true) :
    (∀ w, Calls Try.prog 12 #[.float .f64 s, .float .f64 s2] w fun e w' => e = .returned (.bool true) ∧ Below w.heap.size w w') ∧ ∀ w, Calls Try.prog 12 #[.float .f64 v, .float .f64 v2] w fun e w' => e = .returned (.bool true) ∧ Below w.heap.size w w' := by
  have key : ∀ {x y : Nat}, (∀ w, Calls Try.prog 12 #[.float .f64 x, .float .f64 y] w fun e w' => e = .returned (.bool true) ∧ w = w') → ∀ w, Calls Try.prog 12 #[.float .f64 x, .float .f64 y] w fun e w' => e = .returned (.bool true) ∧ Below w.heap.size w w' := fun h w => (h w).mono fun e w' ⟨a, b⟩ => ⟨a, by rw [← b]; exact Below.refl _ _⟩
  cases hh : t.has
  · rw [hh] at h1 h2
    exact ⟨key fun w => same_nan _ _ w h1.1 h2.1, key fun w => same_nan _ _ w h1.2 h2.2⟩
  · rw [hh] at h1 h2
    obtain ⟨rfl, rfl⟩ : s = t.s ∧ v = t.v := h1
    obtain ⟨rfl, rfl⟩ : s2 = t.s ∧ v2 = t.v := h2
    exact ⟨key fun w => same_fin _ w (Nat.lt_of_le_of_lt hok.s IE.M32_inf), key fun w => same_fin _ w (Nat.lt_of_le_of_lt hok.v IE.M32_inf)⟩
theorem tat_keep {w w' : World} {P l m : Nat} {T : TypeId} (h : TAt w P T l m t) (hb : w'.heap[P]? = w.heap[P]?) : TAt w' P T l m t := by
  obtain ⟨s, v, hP, hs⟩ := h
  exact ⟨s, v, hb.trans hP, hs⟩
theorem tat_lt {w : World} {P l m : Nat} {T : TypeId} (h : TAt w P T l m t) : P < w.heap.size := by
  obtain ⟨s, v, hP, hs⟩ := h
  exact lt_blk hP
end

/-- More than the statement plays. -/
theorem plays_far (c : Value) (a : Option Addr) (len cap : Nat) (W : World) (hlen : 300 < len) (hmax : len ≤ 9223372036854775807) (l m : Nat) (hc : c = .agg #[.int .u64 (l : Int), .int .u64 (m : Int)]) :
    Calls Try.prog 3 #[c, .slice a len cap] W fun e w' => e = .returned (.bool true) ∧ Below W.heap.size W w' := by
  have hl : (300 : Int) < (len : Int) := by omega
  subst hc
  go_enter Try.func3, Try.ntmps3
  go_wp2_with fail
  refine (works_any _).mono ?_
  rintro e w3 ⟨rfl, hb'⟩
  have b0 := (Below.refl W.heap.size W).alloc (Nat.le_refl _) (.cells #[.int .u64 (l : Int), .int .u64 (m : Int)] 24)
  have b1 := b0.trans (hb'.mono b0.size)
  clear hb' b0
  go_wp2_with fail
  go_ret
  exact ⟨rfl, b1⟩

set_option maxHeartbeats 1000000 in
theorem plays_no (l m : Nat) (a : Option Addr) (len cap : Nat) (W : World) (hlen : len ≤ 300) (hm : l < 1 ∨ m < l ∨ 4294967296 < m) :
    Calls Try.prog 3 #[.agg #[.int .u64 (l : Int), .int .u64 (m : Int)], .slice a len cap] W fun e w' => e = .returned (.bool true) ∧ Below W.heap.size W w' := by
  have hl : (len : Int) ≤ 300 := by omega
  have HM := hid hm
  have bA := (Below.refl W.heap.size W).alloc (Nat.le_refl _) (.cells #[.int .u64 (l : Int), .int .u64 (m : Int)] 24)
  have c0 : (W.alloc (.cells #[.int .u64 (l : Int), .int .u64 (m : Int)] 24)).cell? ⟨W.heap.size, 0, none⟩ = some (.int .u64 (l : Int)) := cell_at (alloc_at _ _) 0
  have c1 : (W.alloc (.cells #[.int .u64 (l : Int), .int .u64 (m : Int)] 24)).cell? ⟨W.heap.size, 1, none⟩ = some (.int .u64 (m : Int)) := cell_at (alloc_at _ _) 1
  have BA := hid bA
  clear hm bA
  go_enter Try.func3, Try.ntmps3
  go_wp2_with fail
  refine (new_no HM.out).mono ?_
  rintro e w1 ⟨rfl, b1⟩
  have d0 := (b1.cell (p := ⟨W.heap.size, 0, none⟩) (World.block_lt_of_cell? _ _ c0)).trans c0
  have d1 := (b1.cell (p := ⟨W.heap.size, 1, none⟩) (World.block_lt_of_cell? _ _ c1)).trans c1
  have B1 := hid (BA.out.trans (b1.mono BA.out.size))
  clear b1 c0 c1
  go_wp2_with fail
  refine (rnew_no HM.out).mono ?_
  rintro e w2 ⟨rfl, b2⟩
  have B2 := hid (B1.out.trans (b2.mono B1.out.size))
  clear b2 d0 d1
  go_wp2_with fail
  refine (works_any _).mono ?_
  rintro e w3 ⟨rfl, b3⟩
  have B3 := hid (B2.out.trans (b3.mono B2.out.size))
  clear b3
  go_wp2_with fail
  go_ret
  exact ⟨rfl, B3.out⟩

set_option maxRecDepth 100000 in
set_option maxHeartbeats 2000000 in
theorem plays_any (l m : Nat) (a : Option Addr) (len cap : Nat) (s : Nat → Stp) (W : World) (hlen : len ≤ 300) (h1 : 1 ≤ l) (h2 : l ≤ m) (h3 : m ≤ 4294967296) (hs : StepsAt W a len s) :
    Calls Try.prog 3 #[.agg #[.int .u64 (l : Int), .int .u64 (m : Int)], .slice a len cap] W fun e w' => e = .returned (.bool true) ∧ Below W.heap.size W w' := by
  have hl : (len : Int) ≤ 300 := by omega
  have bA := (Below.refl W.heap.size W).alloc (Nat.le_refl _) (.cells #[.int .u64 (l : Int), .int .u64 (m : Int)] 24)
  have c0 : (W.alloc (.cells #[.int .u64 (l : Int), .int .u64 (m : Int)] 24)).cell? ⟨W.heap.size, 0, none⟩ = some (.int .u64 (l : Int)) := cell_at (alloc_at _ _) 0
  have c1 : (W.alloc (.cells #[.int .u64 (l : Int), .int .u64 (m : Int)] 24)).cell? ⟨W.heap.size, 1, none⟩ = some (.int .u64 (m : Int)) := cell_at (alloc_at _ _) 1
  have BA := hid bA
  have hf0 : (freshT l m).ok := ⟨Nat.zero_le _, Nat.zero_le _⟩
  have hf1 : l ≤ (freshT l m).val ∧ (freshT l m).val ≤ m := by
    show l ≤ IE.clampT l m 1000 ∧ IE.clampT l m 1000 ≤ m
    unfold IE.clampT; omega
  have HS := hid hs
  clear bA hs
  go_enter Try.func3, Try.ntmps3
  go_wp2_with fail
  refine (new_any h1 h2 h3).mono ?_
  rintro e w1 ⟨P, hP, rfl, hT, b1⟩
  have hPW : W.heap.size ≤ P := Nat.le_trans BA.out.size hP
  have d0 := (b1.cell (p := ⟨W.heap.size, 0, none⟩) (World.block_lt_of_cell? _ _ c0)).trans c0
  have d1 := (b1.cell (p := ⟨W.heap.size, 1, none⟩) (World.block_lt_of_cell? _ _ c1)).trans c1
  have B1 := hid (BA.out.trans (b1.mono BA.out.size))
  have HT := hid hT
  clear b1 c0 c1 hT hP
  go_wp2_with fail
  refine (rnew_any h1 h2 h3).mono ?_
  rintro e w2 ⟨R, hR, rfl, hQ, b2⟩
  have hRW : W.heap.size ≤ R := Nat.le_trans B1.out.size hR
  have hPR : P ≠ R := by have := tat_lt HT.out; omega
  have hT2 := tat_keep HT.out (b2.block P (tat_lt HT.out))
  have B2 := hid (B1.out.trans (b2.mono B1.out.size))
  clear b2 d0 d1 hR HT
  go_wp2_with fail
  go_loopw [8] (fun i wr => ∃ (k : Nat) (st : IE.TS), k ≤ len ∧ i = .int .i64 k ∧ st.ok ∧ (l ≤ st.val ∧ st.val ≤ m) ∧ TAt wr P 54 l m st ∧ TAt wr R 38 l m st ∧ Below W.heap.size W wr)
    (fun i _ => len + 1 - (intOf i).toNat)
  case atStart => exact ⟨0, _, Nat.zero_le _, rfl, hf0, hf1, hT2, hQ, B2.out⟩
  case round =>
    obtain ⟨k, st, hk, rfl, hok, hv, hr, hq, hb⟩ := hrel
    obtain ⟨s1, v1, hP1, hs1⟩ := hr
    obtain ⟨s2, v2, hP2, hs2⟩ := hq
    obtain ⟨S1, S2⟩ := same_pair hok hs1 hs2
    have HP1 := hid hP1
    have HR0 := hid (show TAt wr P 54 l m st from ⟨s1, v1, hP1, hs1⟩)
    have HQ0 := hid (show TAt wr R 38 l m st from ⟨s2, v2, hP2, hs2⟩)
    have HSA := hid S1
    have HSB := hid S2
    have hkl : (k : Int) ≤ (len : Int) := by omega
    have HB := hid hb
    clear hP1 hs1 hs2 S1 S2 hb hf0 hf1 hT2 hQ B1 B2
    go_wp2_with fail
    refine (smooth_any HP1.out).mono ?_
    rintro e wA ⟨rfl, hd⟩
    obtain ⟨nd, rfl⟩ := hd
    have HRA : Hid (TAt (wr.drewN nd) P 54 l m st) := hid HR0.out
    have HQA : Hid (TAt (wr.drewN nd) R 38 l m st) := hid HQ0.out
    have cq2 : (wr.drewN nd).cell? ⟨R, 2, none⟩ = some (.float .f64 s2) := cell_at hP2 2
    have cq3 : (wr.drewN nd).cell? ⟨R, 3, none⟩ = some (.float .f64 v2) := cell_at hP2 3
    have cq4 : (wr.drewN nd).cell? ⟨R, 4, none⟩ = some (.int .u64 (st.val : Int)) := cell_at hP2 4
    have hbA : Below W.heap.size W (wr.drewN nd) := ⟨HB.out.os, HB.out.tape, HB.out.output, HB.out.size, HB.out.block⟩
    have HBA := hid hbA
    clear hbA hP2 HP1 HR0 HQ0 HB
    generalize wr.drewN nd = wA at *
    have HV : Hid (∀ x : Later wA, Calls Try.prog 11 #[.pointer (some ⟨P, 0, none⟩)] x.w' fun e w' => e = .returned (.int .u64 (st.val : Int)) ∧ Below x.w'.heap.size x.w' w') :=
      hid fun x => (value_any (tat_keep HRA.out (x.h.block P (tat_lt HRA.out)))).mono fun e w' ⟨a, b⟩ => ⟨a, by rw [← b]; exact Below.refl _ _⟩
    have j2 := later_cell cq2
    have j3 := later_cell cq3
    have j4 := later_cell cq4
    clear cq2 cq3 cq4
    go_wp2_with fail
    refine wp_region_later (by kernel_rfl) (by kernel_rfl) ?_
    repeat ((go_big_quiet_step ((first | (go_at_call 11; with_reducible exact calls_later (HV.out _)) | (go_at_call 12; first | with_reducible exact calls_later (HSA.out _) | with_reducible exact calls_later (HSB.out _))))))
    refine wpQuiet_nil ?_
    intro wL hwL
    obtain ⟨⟨w8, hL⟩, e8⟩ := hwL
    change wL = w8 at e8
    subst e8
    have HRL := hid (tat_keep HRA.out (hL.block P (tat_lt HRA.out)))
    have HQL := hid (tat_keep HQA.out (hL.block R (tat_lt HQA.out)))
    have HBL := hid (HBA.out.trans (hL.mono HBA.out.size))
    clear hL HRA HQA HBA HV HSA HSB j2 j3 j4
    by_cases hlt : k < len
    · have hne : ((k : Int) == (len : Int)) = false := beq_eq_false_iff_ne.2 (by omega)
      obtain h0 | ⟨b, off, rfl, hbs, hx⟩ := HS.out
      · omega
      obtain ⟨x1, x2⟩ := hx k hlt
      have y1 := (HBL.out.cell (p := ⟨b, off + k * 2, none⟩) hbs).trans x1
      have y2 := (HBL.out.cell (p := ⟨b, off + k * 2 + 1, none⟩) hbs).trans x2
      have X2 := hid x2
      clear x1 x2 hx
      generalize s k = tt at *
      obtain ⟨tdo, tn⟩ := tt
      simp only at y1 y2 X2
      go_wp2_with fail
      · refine (sample_any (n := tn) hok HRL.out).mono ?_
        rintro e wM ⟨rfl, hM, oM⟩
        have HM := hid hM
        have HQM := hid (tat_keep HQL.out (oM.block R (tat_lt HQL.out) (fun e => hPR e.symm)))
        have HBM := hid (HBL.out.trans (oM.below (fun k e => by rw [e]; exact hPW) HBL.out.size))
        have z2 := (HBM.out.cell (p := ⟨b, off + k * 2 + 1, none⟩) hbs).trans X2.out
        clear y1 y2 hM oM
        go_wp2_with fail
        refine (rsample_any (n := tn) hok HQM.out).mono ?_
        rintro e wN ⟨rfl, hN, oN⟩
        have HN := hid hN
        have HMN := hid (tat_keep HM.out (oN.block P (tat_lt HM.out) hPR))
        have HBN := hid (HBM.out.trans (oN.below (fun k e => by rw [e]; exact hRW) HBM.out.size))
        clear z2 hN oN
        go_wp2_with fail
        exact ⟨⟨k + 1, _, by omega, by go_num, IE.TS.sample_ok hok _ _ _, IE.sample_in h2 hv tn, HMN.out, HN.out, HBN.out⟩, by simp [intOf]; omega⟩
      · refine (backoff_any ⟨hv.1, by omega⟩ HRL.out).mono ?_
        rintro e wM ⟨rfl, hM, oM⟩
        have HM := hid hM
        have HQM := hid (tat_keep HQL.out (oM.block R (tat_lt HQL.out) (fun e => hPR e.symm)))
        have HBM := hid (HBL.out.trans (oM.below (fun k e => by rw [e]; exact hPW) HBL.out.size))
        clear y1 y2 hM oM
        go_wp2_with fail
        refine (rbackoff_any (by omega) HQM.out).mono ?_
        rintro e wN ⟨rfl, hN, oN⟩
        have HN := hid hN
        have HMN := hid (tat_keep HM.out (oN.block P (tat_lt HM.out) hPR))
        have HBN := hid (HBM.out.trans (oN.below (fun k e => by rw [e]; exact hRW) HBM.out.size))
        clear hN oN
        go_wp2_with fail
        exact ⟨⟨k + 1, st.backoff m, by omega, by go_num, ⟨hok.s, hok.v⟩, ⟨(IE.backoff_in hv h3).1, (IE.backoff_in hv h3).2.1⟩, HMN.out, HN.out, HBN.out⟩, by simp [intOf]; omega⟩
    · have hke : ((k : Int) == (len : Int)) = true := beq_iff_eq.2 (by omega)
      go_wp2_with fail
      refine (works_any _).mono ?_
      rintro e w3 ⟨rfl, b3⟩
      have HB3 := hid (HBL.out.trans (b3.mono HBL.out.size))
      clear b3
      go_wp2_with fail
      go_ret
      exact ⟨rfl, HB3.out⟩
end Go.Proofs.Ytfifecjnniahiaa

namespace Go.Proofs.Ytfifecjnniahiaa
namespace IE
open Go Ieee

theorem inf_lt_sgn : inf < sgn := by decide
theorem nan_pos {r : Nat} (h : r < sgn) : nanB r = decide (inf < r) := by
  unfold nanB
  rw [read_pos h]
  by_cases h1 : r < inf
  · rw [if_pos h1, decide_eq_false (by omega)]; rfl
  · rw [if_neg h1]
    by_cases h2 : r = inf
    · rw [if_pos h2, decide_eq_false (by omega)]; rfl
    · rw [if_neg h2, decide_eq_true (by omega)]; rfl
theorem nan_neg {r : Nat} (h : r < sgn) : nanB (sgn + r) = decide (inf < r) := by
  rw [← nan_pos h]
  unfold nanB
  rw [read_neg h]
  cases D.read r <;> rfl
/-- The kinds of words. -/
theorem kinds {x : Nat} (h : x < 18446744073709551616) : nanB x = true ∨ (1 ≤ x ∧ x ≤ inf) ∨ (x = 0 ∨ x = sgn) ∨ ∃ r, 1 ≤ r ∧ r ≤ inf ∧ x = sgn + r := by
  have hs : sgn = 9223372036854775808 := rfl
  rcases Nat.lt_or_ge x sgn with h1 | h1
  · rcases Nat.lt_or_ge inf x with h2 | h2
    · left; rw [nan_pos h1, decide_eq_true h2]
    · right
      rcases Nat.eq_zero_or_pos x with h3 | h3
      · right; left; left; exact h3
      · left; exact ⟨h3, h2⟩
  · obtain ⟨r, rfl⟩ : ∃ r, x = sgn + r := ⟨x - sgn, by omega⟩
    have hr : r < sgn := by omega
    rcases Nat.lt_or_ge inf r with h2 | h2
    · left; rw [nan_neg hr, decide_eq_true h2]
    · right; right
      rcases Nat.eq_zero_or_pos r with h3 | h3
      · left; right; rw [h3]; rfl
      · right; exact ⟨r, h3, h2, rfl⟩
/-- Against each other, what is without end among them. -/
theorem read_inf : D.read inf = .infinity false := by decide +kernel
theorem order_le {x y : Nat} (hx : x ≤ inf) (hy : y < inf) : D.order x y = some (compare x y) := by
  rcases Nat.lt_or_ge x inf with h | h
  · exact order_eq h hy
  · have e : x = inf := by omega
    subst e
    unfold Format.order
    rw [read_inf, read_rung hy, Nat.compare_eq_gt.2 hy]
    rfl
theorem order_pos {x : Nat} (h1 : 1 ≤ x) (h : x ≤ inf) : D.order x 0 = some .gt := by
  rw [order_le h (by decide), Nat.compare_eq_gt.2 h1]
theorem order_neg_lt {r y : Nat} (h1 : 1 ≤ r) (h : r ≤ inf) (hy : y < inf) : D.order (sgn + r) y = some .lt := by
  unfold Format.order
  rw [read_neg (Nat.lt_of_le_of_lt h inf_lt_sgn), read_rung hy]
  rcases Nat.lt_or_ge r inf with h2 | h2
  · rw [read_rung h2]
    simp only [Datum.opposite, Datum.order]
    have hm := vm_pos h1
    generalize vm r = m at *
    generalize ve r = e at *
    generalize vm y = n at *
    generalize ve y = f at *
    rw [show (!false) = true from rfl, signed_neg, signed_pos]
    congr 1
    obtain ⟨k, hk⟩ : ∃ k, 2 ^ (-1074 + (e : Int) - min (-1074 + (e : Int)) (-1074 + (f : Int))).toNat = k := ⟨_, rfl⟩
    obtain ⟨l, hl⟩ : ∃ l, 2 ^ (-1074 + (f : Int) - min (-1074 + (e : Int)) (-1074 + (f : Int))).toNat = l := ⟨_, rfl⟩
    have hk0 : 0 < k := by rw [← hk]; exact Nat.two_pow_pos _
    rw [hk, hl]
    refine Int.compare_eq_lt.2 ?_
    have : 0 < m * k := Nat.mul_pos (Nat.pos_of_ne_zero hm) hk0
    generalize m * k = z at *
    generalize n * l = u at *
    omega
  · have e : r = inf := by omega
    subst e
    rw [read_inf]
    rfl
theorem order_neg {r : Nat} (h1 : 1 ≤ r) (h : r ≤ inf) : D.order (sgn + r) 0 = some .lt := order_neg_lt h1 h (by decide)
theorem order_00 : D.order 0 0 = some .eq := by decide +kernel
theorem order_s0 : D.order sgn 0 = some .eq := by decide +kernel
theorem order_01 : D.order 0 c1 = some .lt := by decide +kernel
theorem order_s1 : D.order sgn c1 = some .lt := by decide +kernel
theorem sub_10 : D.sub c1 0 = some c1 := by decide +kernel
theorem sub_1s : D.sub c1 sgn = some c1 := by decide +kernel
theorem sub_00 : D.sub 0 0 = some 0 := by decide +kernel
theorem sub_ss : D.sub sgn sgn = some 0 := by decide +kernel
theorem sub_ii : D.sub inf inf = none := by decide +kernel
theorem c1_inf : c1 < inf := by decide
theorem sub_1 {w : Nat} (h : w ≤ c1) : ∃ v, D.sub c1 w = some v ∧ v ≤ c1 := by
  refine ⟨_, sub_eq c1_inf (Nat.lt_of_le_of_lt h c1_inf) h, RN_le (Nat.le_of_lt c1_inf) ?_⟩
  exact Nat.sub_le _ _
theorem mul_s {v : Nat} (h : v < inf) : D.mul sgn v = some sgn := by
  have h0 : D.read sgn = .number true 0 (-1074) := by decide +kernel
  unfold Format.mul
  rw [h0, read_rung h]
  generalize vm v = m
  generalize ve v = e
  simp only [Datum.product, Option.map_some, Format.write]
  rw [Nat.zero_mul]
  unfold Format.nearest
  rw [if_pos rfl]
  rfl
/-- What a mix is: none, if it is no number. -/
def mixO (o s w : Nat) : Option Nat :=
  if D.order w 0 = none ∨ D.order w 0 = some .lt ∨ D.order w c1 = some .gt then some o else
  if nanB o = true then some s else
  if D.order s 0 = none ∨ D.order s 0 = some .lt ∨ s = inf then some o else
  match D.sub c1 w, D.mul o w with
  | some v, some a => match D.mul s v with | some b => D.add a b | none => none
  | _, _ => none
/-- A word that is what it should be: any that is no number, for none. -/
def Is (x : Option Nat) (z : Nat) : Prop := match x with | some r => z = r | none => nanB z = true

inductive Mixes (o s w : Nat) : Prop
  | badw (h : D.order w 0 = none ∨ D.order w 0 = some .lt ∨ ((D.order w 0 = some .gt ∨ D.order w 0 = some .eq) ∧ D.order w c1 = some .gt))
  | first (h : (D.order w 0 = some .gt ∨ D.order w 0 = some .eq) ∧ (D.order w c1 = some .lt ∨ D.order w c1 = some .eq)) (ho : nanB o = true)
  | bads (h : (D.order w 0 = some .gt ∨ D.order w 0 = some .eq) ∧ (D.order w c1 = some .lt ∨ D.order w c1 = some .eq)) (ho : nanB o = false) (hs : D.order s 0 = none ∨ D.order s 0 = some .lt ∨ s = inf)
  | good (h : (D.order w 0 = some .gt ∨ D.order w 0 = some .eq) ∧ (D.order w c1 = some .lt ∨ D.order w c1 = some .eq)) (ho : nanB o = false) (hs : (1 ≤ s ∧ s < inf ∧ D.order s 0 = some .gt) ∨ ((s = 0 ∨ s = sgn) ∧ D.order s 0 = some .eq)) (v b : Nat) (hv : D.sub c1 w = some v) (hb : D.mul s v = some b)

theorem mixes {o s w : Nat} (_ho : o < 18446744073709551616) (hs : s < 18446744073709551616) (hw : w < 18446744073709551616) : Mixes o s w := by
  have key : (D.order w 0 = some .gt ∨ D.order w 0 = some .eq) ∧ (D.order w c1 = some .lt ∨ D.order w c1 = some .eq) → (∃ v, D.sub c1 w = some v ∧ v ≤ c1) → Mixes o s w := by
    rintro h ⟨v, hv, hv1⟩
    have vi := Nat.lt_of_le_of_lt hv1 c1_inf
    cases hn : nanB o
    · rcases kinds hs with h1 | ⟨h1, h2⟩ | (h1 | h1) | ⟨r, h1, h2, h3⟩
      · exact .bads h hn (.inl (order_nan h1 0).1)
      · rcases Nat.lt_or_ge s inf with h3 | h3
        · exact .good h hn (.inl ⟨h1, h3, order_pos h1 h2⟩) v _ hv (mul_eq h3 vi)
        · exact .bads h hn (.inr (.inr (by omega)))
      · exact .good h hn (.inr ⟨.inl h1, by rw [h1]; exact order_00⟩) v _ hv (mul_eq (by rw [h1]; decide) vi)
      · exact .good h hn (.inr ⟨.inr h1, by rw [h1]; exact order_s0⟩) v _ hv (by rw [h1]; exact mul_s vi)
      · exact .bads h hn (.inr (.inl (by rw [h3]; exact order_neg h1 h2)))
    · exact .first h hn
  rcases kinds hw with h1 | ⟨h1, h2⟩ | (h1 | h1) | ⟨r, h1, h2, h3⟩
  · exact .badw (.inl (order_nan h1 0).1)
  · have h3 := order_pos h1 h2
    have h4 := order_le h2 c1_inf
    rcases Nat.lt_trichotomy w c1 with h5 | h5 | h5
    · rw [Nat.compare_eq_lt.2 h5] at h4
      exact key ⟨.inl h3, .inl h4⟩ (sub_1 (Nat.le_of_lt h5))
    · rw [Nat.compare_eq_eq.2 h5] at h4
      exact key ⟨.inl h3, .inr h4⟩ (sub_1 (Nat.le_of_eq h5))
    · rw [Nat.compare_eq_gt.2 h5] at h4
      exact .badw (.inr (.inr ⟨.inl h3, h4⟩))
  · exact key ⟨.inr (by rw [h1]; exact order_00), .inl (by rw [h1]; exact order_01)⟩ ⟨_, by rw [h1]; exact sub_10, Nat.le_refl _⟩
  · exact key ⟨.inr (by rw [h1]; exact order_s0), .inl (by rw [h1]; exact order_s1)⟩ ⟨_, by rw [h1]; exact sub_1s, Nat.le_refl _⟩
  · exact .badw (.inr (.inl (by rw [h3]; exact order_neg h1 h2)))
/-- A pause, of more than no bytes at a rate that is a number above nought. -/
def pauseN (q : Nat) : Nat := min (ceilN q) 4294967296
theorem ofN_big {n : Nat} (h : n < 18446744073709551616) : ofN n < inf := by
  refine Nat.lt_of_le_of_lt (ofN_mono (Nat.le_of_lt h)) ?_
  decide +kernel
theorem ofN_one {n : Nat} (h : 1 ≤ n) : 1 ≤ ofN n := by
  refine Nat.le_trans ?_ (ofN_mono h)
  decide +kernel
theorem ceil_big {q : Nat} (h : M32 ≤ q) (hq : q ≤ inf) : 4294967296 ≤ ceilN q := by
  have h1 := (val_mono (k := 0) (Nat.le_of_lt M32_inf) hq).2 h
  rw [M32_val] at h1
  exact Nat.le_of_mul_le_mul_right (Nat.le_trans h1 (ceil_le_val q)) (Nat.two_pow_pos k74)
theorem floor_small {q : Nat} (h : q < M32) : floorN q < 4294967296 := by
  have h1 : val 0 q < val 0 M32 := Nat.lt_of_not_le fun hh => by
    have := (val_mono (k := 0) (Nat.le_of_lt M32_inf) (Nat.le_of_lt (Nat.lt_trans h M32_inf))).1 hh
    omega
  rw [M32_val] at h1
  exact (Nat.div_lt_iff_lt_mul (Nat.two_pow_pos k74)).2 h1
theorem ceil_small {q : Nat} (h : q < M32) : ceilN q ≤ 4294967296 := by
  have h1 := floor_small h
  unfold floorN at h1
  unfold ceilN
  split <;> omega
theorem floor_of {n : Nat} (h : n ≤ 4294967296) : floorN (ofN n) = n := by
  unfold floorN
  rw [(ofN_val h).1, Nat.mul_div_cancel _ (Nat.two_pow_pos _)]
/-- How the program comes to it. -/
theorem pause_ceil {q : Nat} (hq : q ≤ inf) : (q < inf ∧ ceilN q < 4294967296 ∧ D.order (ofN (ceilN q)) M32 = some .lt ∧ floorN (ofN (ceilN q)) = ceilN q ∧ ofN (ceilN q) < inf ∧ pauseN q = ceilN q) ∨
    (q < inf ∧ (D.order (ofN (ceilN q)) M32 = some .eq ∨ D.order (ofN (ceilN q)) M32 = some .gt) ∧ pauseN q = 4294967296) ∨ (q = inf ∧ pauseN q = 4294967296) := by
  rcases Nat.lt_or_ge q inf with h | h
  · rcases Nat.lt_or_ge (ceilN q) 4294967296 with h1 | h1
    · left
      obtain ⟨o1, o2⟩ := ofN_val (Nat.le_of_lt h1)
      have hl : ofN (ceilN q) < M32 := Nat.lt_of_not_le fun hh => by
        have h2 := floorN_mono (Nat.le_of_lt o2) hh
        rw [floor_of (Nat.le_of_lt h1), M32_eq, floor_of (Nat.le_refl _)] at h2
        omega
      refine ⟨h, h1, ?_, floor_of (Nat.le_of_lt h1), o2, by unfold pauseN; omega⟩
      rw [order_le (Nat.le_of_lt o2) M32_inf, Nat.compare_eq_lt.2 hl]
    · right; left
      refine ⟨h, ?_, by unfold pauseN; omega⟩
      have hg : M32 ≤ ofN (ceilN q) := by rw [M32_eq]; exact ofN_mono h1
      rw [show D.order (ofN (ceilN q)) M32 = some (compare (ofN (ceilN q)) M32) from order_le (RN_inf _ _) M32_inf]
      rcases Nat.lt_or_ge M32 (ofN (ceilN q)) with h2 | h2
      · right; rw [Nat.compare_eq_gt.2 h2]
      · left; rw [Nat.compare_eq_eq.2 (by omega)]
  · right; right
    have := ceil_big (q := q) (Nat.le_trans (Nat.le_of_lt M32_inf) h) hq
    exact ⟨by omega, by unfold pauseN; omega⟩
/-- How the document comes to it. -/
theorem pause_floor {q : Nat} (hq : q ≤ inf) : ((D.order q M32 = some .eq ∨ D.order q M32 = some .gt) ∧ pauseN q = 4294967296) ∨
    (D.order q M32 = some .lt ∧ q < inf ∧ floorN q < 4294967296 ∧ ((D.order (ofN (floorN q)) q = some .lt ∧ pauseN q = floorN q + 1) ∨ ((D.order (ofN (floorN q)) q = some .eq ∨ D.order (ofN (floorN q)) q = some .gt) ∧ pauseN q = floorN q))) := by
  rw [order_le hq M32_inf]
  rcases Nat.lt_or_ge q M32 with h | h
  · right
    have hi := Nat.lt_trans h M32_inf
    have hf := floor_small h
    refine ⟨by rw [Nat.compare_eq_lt.2 h], hi, hf, ?_⟩
    have hc := ceil_floor hi (Nat.le_of_lt hf)
    rw [order_eq (ofN_val (Nat.le_of_lt hf)).2 hi]
    by_cases hl : ofN (floorN q) < q
    · rw [if_pos hl] at hc
      left
      rw [Nat.compare_eq_lt.2 hl]
      exact ⟨rfl, by unfold pauseN; omega⟩
    · rw [if_neg hl] at hc
      right
      refine ⟨?_, by unfold pauseN; omega⟩
      rcases Nat.lt_or_ge q (ofN (floorN q)) with h2 | h2
      · right; rw [Nat.compare_eq_gt.2 h2]
      · left; rw [Nat.compare_eq_eq.2 (by omega)]
  · left
    have := ceil_big h hq
    refine ⟨?_, by unfold pauseN; omega⟩
    rcases Nat.lt_or_ge M32 q with h2 | h2
    · right; rw [Nat.compare_eq_gt.2 h2]
    · left; rw [Nat.compare_eq_eq.2 (by omega)]

/-- One, divided by nought. -/
theorem one_over {z : Nat} (h : D.order z 0 = some .eq) : D.div c1 z = some inf ∨ D.div c1 z = some (sgn + inf) := by
  have h0 : D.read 0 = .number false 0 (-1074) := by decide +kernel
  have hc : D.read c1 = .number false 4503599627370496 (-52) := by decide +kernel
  unfold Format.order at h
  unfold Format.div
  rw [h0] at h
  rw [hc]
  cases hz : D.read z with
  | nan s t => rw [hz] at h; exact absurd h (by simp [Datum.order])
  | infinity s => rw [hz] at h; cases s <;> exact absurd h (by simp [Datum.order])
  | number s m e =>
    rw [hz] at h
    simp only [Datum.order, Option.some.injEq] at h
    have h2 := Int.compare_eq_eq.1 h
    rw [signed_pos, Nat.zero_mul] at h2
    obtain ⟨k, hk⟩ : ∃ k, (e - min e (-1074)).toNat = k := ⟨_, rfl⟩
    rw [hk] at h2
    have hm : m = 0 := by
      have h3 : m * 2 ^ k = 0 := by
        cases s
        · rw [signed_pos] at h2; omega
        · rw [signed_neg] at h2; omega
      rcases Nat.mul_eq_zero.1 h3 with h4 | h4
      · exact h4
      · have := Nat.two_pow_pos k; omega
    subst hm
    simp only [Datum.quotient]
    rw [if_pos trivial, if_neg (by decide), Option.map_some]
    cases s
    · left; rfl
    · right; rfl
theorem order_ii : D.order inf inf = some .eq := by decide +kernel
theorem order_nn : D.order (sgn + inf) (sgn + inf) = some .eq := by decide +kernel
/-- A rate. -/
def rateO (n t : Nat) : Option Nat := if D.order t 0 = none ∨ D.order t 0 = some .lt then none else D.div (ofN n) t
inductive Rates (n t : Nat) : Prop
  | bad (h : D.order t 0 = none) (hn : nanB t = true)
  | neg (h : D.order t 0 = some .lt) (hn : nanB t = false)
  | good (h : D.order t 0 = some .gt ∨ D.order t 0 = some .eq) (hn : nanB t = false)
theorem rates {t : Nat} (n : Nat) : Rates n t := by
  cases hn : nanB t
  · cases h : D.order t 0 with
    | none =>
      rcases (order_none t 0).1 h with h1 | h1
      · rw [hn] at h1; exact absurd h1 (by decide)
      · exact absurd h1 (by decide +kernel)
    | some c =>
      cases c
      · exact .neg h hn
      · exact .good (.inr h) hn
      · exact .good (.inl h) hn
  · exact .bad (order_nan hn 0).1 hn
/-- A pause. -/
def pauseV (n r : Nat) : Nat := if nanB r = true ∨ n = 0 ∨ r = inf then 0 else if D.order r 0 = some .gt then pauseN (quo (ofN n) r) else 4294967296
def cmax : Nat := 9218868437227405311
inductive Pauses (n r : Nat) : Prop
  | bad (hn : nanB r = true) (hv : pauseV n r = 0)
  | zero (hn : nanB r = false) (h0 : n = 0) (hv : pauseV n r = 0)
  | ends (h0 : 1 ≤ n) (hr : r = inf) (hv : pauseV n r = 0)
  | neg (hn : nanB r = false) (h0 : 1 ≤ n) (h : D.order r 0 = some .lt ∨ D.order r 0 = some .eq) (hm : (D.order r cmax == some .gt) = false) (hv : pauseV n r = 4294967296)
  | good (hn : nanB r = false) (h0 : 1 ≤ n) (h1 : 1 ≤ r) (h2 : r < inf) (h : D.order r 0 = some .gt) (hv : pauseV n r = pauseN (quo (ofN n) r))
theorem pauses {n r : Nat} (hr : r < 18446744073709551616) : Pauses n r := by
  have cmi : cmax < inf := by decide
  cases hn : nanB r
  · rcases Nat.eq_zero_or_pos n with h0 | h0
    · exact .zero hn h0 (by unfold pauseV; rw [if_pos (.inr (.inl h0))])
    · by_cases hi : r = inf
      · exact .ends h0 hi (by unfold pauseV; rw [if_pos (.inr (.inr hi))])
      · have hne : ¬ (nanB r = true ∨ n = 0 ∨ r = inf) := by
          rintro (k | k | k)
          · rw [hn] at k; exact absurd k (by decide)
          · omega
          · exact hi k
        rcases kinds hr with h1 | ⟨h1, h2⟩ | (h1 | h1) | ⟨q, h1, h2, h3⟩
        · rw [hn] at h1; exact absurd h1 (by decide)
        · have h3 := order_pos h1 h2
          exact .good hn h0 h1 (by omega) h3 (by unfold pauseV; rw [if_neg hne, if_pos h3])
        · have h3 : D.order r 0 = some .eq := by rw [h1]; exact order_00
          exact .neg hn h0 (.inr h3) (by rw [h1]; decide +kernel) (by unfold pauseV; rw [if_neg hne, if_neg (by rw [h3]; decide)])
        · have h3 : D.order r 0 = some .eq := by rw [h1]; exact order_s0
          exact .neg hn h0 (.inr h3) (by rw [h1]; decide +kernel) (by unfold pauseV; rw [if_neg hne, if_neg (by rw [h3]; decide)])
        · have h4 : D.order r 0 = some .lt := by rw [h3]; exact order_neg h1 h2
          exact .neg hn h0 (.inl h4) (by rw [h3, order_neg_lt h1 h2 cmi]; rfl) (by unfold pauseV; rw [if_neg hne, if_neg (by rw [h4]; decide)])
  · exact .bad hn (by unfold pauseV; rw [if_pos (.inl hn)])
theorem pauseV_le (n r : Nat) : pauseV n r ≤ 4294967296 := by
  unfold pauseV pauseN
  split
  · omega
  · split <;> omega

end IE
end Go.Proofs.Ytfifecjnniahiaa

namespace Go.Proofs.Ytfifecjnniahiaa
open Go Go.RowKit

theorem inf_word (s r : Nat) (w : World) (h : s = r ∨ s = IE.sgn + r) (hr : r < IE.inf) : Calls Try.prog 29 #[.float .f64 s, .int .i64 0] w fun e w' => e = .returned (.bool false) ∧ w = w' := by
  have hm := ord_max hr
  go_enter Try.func29, Try.ntmps29
  go_wp2_with fail
  refine (abs_any r s _ h (Nat.lt_trans hr inf_sgn)).mono ?_
  rintro e w' ⟨rfl, rfl⟩
  go_wp2_with fail
  go_ret
  exact ⟨by rw [← hm]; rfl, rfl⟩
theorem ord_imax : (IE.D.order 9218868437227405312 9218868437227405311 == some Ordering.gt) = true := by decide +kernel
theorem inf_inf (w : World) : Calls Try.prog 29 #[.float .f64 9218868437227405312, .int .i64 0] w fun e w' => e = .returned (.bool true) ∧ w = w' := by
  have hm := ord_imax
  go_enter Try.func29, Try.ntmps29
  go_wp2_with fail
  refine (abs_any 9218868437227405312 _ _ (.inl rfl) (by decide)).mono ?_
  rintro e w' ⟨rfl, rfl⟩
  go_wp2_with fail
  go_ret
  exact ⟨by rw [← hm]; rfl, rfl⟩
theorem mixes_geq {w : Nat} (h : IE.D.order w 0 = some .gt ∨ IE.D.order w 0 = some .eq) : IE.nanB w = false := by
  cases hn : IE.nanB w
  · rfl
  · have := (IE.order_nan hn 0).1
    rcases h with h | h <;> rw [this] at h <;> exact absurd h (by decide)
theorem ord_self_nan {w : Nat} (h : IE.nanB w = true) : IE.D.order w w = Option.none := (IE.order_nan h w).1

def thenAdd (a : Option Nat) (b : Nat) : Option Nat := match a with | some r => IE.D.add r b | Option.none => Option.none
theorem mixO_badw {o s w : Nat} (h : IE.D.order w 0 = Option.none ∨ IE.D.order w 0 = some .lt ∨ ((IE.D.order w 0 = some .gt ∨ IE.D.order w 0 = some .eq) ∧ IE.D.order w IE.c1 = some .gt)) : IE.mixO o s w = some o := by
  unfold IE.mixO
  rw [if_pos]
  rcases h with h | h | h
  · exact .inl h
  · exact .inr (.inl h)
  · exact .inr (.inr h.2)
theorem mixO_in {w : Nat} (h : (IE.D.order w 0 = some .gt ∨ IE.D.order w 0 = some .eq) ∧ (IE.D.order w IE.c1 = some .lt ∨ IE.D.order w IE.c1 = some .eq)) : ¬ (IE.D.order w 0 = Option.none ∨ IE.D.order w 0 = some .lt ∨ IE.D.order w IE.c1 = some .gt) := by
  rintro (k | k | k)
  · rcases h.1 with h1 | h1 <;> rw [k] at h1 <;> exact absurd h1 (by decide)
  · rcases h.1 with h1 | h1 <;> rw [k] at h1 <;> exact absurd h1 (by decide)
  · rcases h.2 with h1 | h1 <;> rw [k] at h1 <;> exact absurd h1 (by decide)
theorem mixO_first {o s w : Nat} (h : (IE.D.order w 0 = some .gt ∨ IE.D.order w 0 = some .eq) ∧ (IE.D.order w IE.c1 = some .lt ∨ IE.D.order w IE.c1 = some .eq)) (ho : IE.nanB o = true) : IE.mixO o s w = some s := by
  unfold IE.mixO
  rw [if_neg (mixO_in h), if_pos ho]
theorem mixO_bads {o s w : Nat} (h : (IE.D.order w 0 = some .gt ∨ IE.D.order w 0 = some .eq) ∧ (IE.D.order w IE.c1 = some .lt ∨ IE.D.order w IE.c1 = some .eq)) (ho : IE.nanB o = false) (hs : IE.D.order s 0 = Option.none ∨ IE.D.order s 0 = some .lt ∨ s = IE.inf) : IE.mixO o s w = some o := by
  unfold IE.mixO
  rw [if_neg (mixO_in h), if_neg (by rw [ho]; decide), if_pos hs]
theorem mixO_good {o s w v b : Nat} (h : (IE.D.order w 0 = some .gt ∨ IE.D.order w 0 = some .eq) ∧ (IE.D.order w IE.c1 = some .lt ∨ IE.D.order w IE.c1 = some .eq)) (ho : IE.nanB o = false) (hs : (1 ≤ s ∧ s < IE.inf ∧ IE.D.order s 0 = some .gt) ∨ ((s = 0 ∨ s = IE.sgn) ∧ IE.D.order s 0 = some .eq)) (hv : IE.D.sub IE.c1 w = some v) (hb : IE.D.mul s v = some b) : IE.mixO o s w = thenAdd (IE.D.mul o w) b := by
  unfold IE.mixO
  rw [if_neg (mixO_in h), if_neg (by rw [ho]; decide), if_neg, hv]
  · unfold thenAdd
    cases IE.D.mul o w
    · rfl
    · simp only [hb]
  · rintro (k | k | k)
    · rcases hs with h1 | h1
      · rw [k] at h1; exact absurd h1.2.2 (by decide)
      · rw [k] at h1; exact absurd h1.2 (by decide)
    · rcases hs with h1 | h1
      · rw [k] at h1; exact absurd h1.2.2 (by decide)
      · rw [k] at h1; exact absurd h1.2 (by decide)
    · rcases hs with h1 | ⟨h1 | h1, _⟩
      · omega
      · rw [k] at h1; exact absurd h1 (by decide)
      · rw [k] at h1; exact absurd h1 (by decide)
/-- An operation's result, whatever it is. -/
theorem fres_is (P : Program) (w : World) (x y : Nat) (o : Option Nat) : ∃ z n, IE.Is o z ∧ fres P w x y o = .ok (.float .f64 z) (w.drewN n) := by
  cases o with
  | none =>
    obtain ⟨z, h1, h2⟩ := fres_none (P := P) w x y
    exact ⟨z, 1, h1, h2⟩
  | some r => exact ⟨r, 0, rfl, fres_some w x y r⟩
theorem add_is {a : Option Nat} {b za z : Nat} (h : IE.Is a za) : IE.Is (thenAdd a b) z ↔ IE.Is (IE.D.add za b) z := by
  cases a with
  | none =>
    have h' : IE.nanB za = true := h
    rw [(IE.op_nan h' b).1]
    rfl
  | some r =>
    have h' : za = r := h
    rw [h']
    rfl

set_option maxHeartbeats 1000000 in
theorem mix_word (w o s : Nat) (hm : IE.Mixes o s w) (W : World) : Calls Try.prog 21 #[.float .f64 o, .float .f64 s, .float .f64 w] W fun e w' => ∃ z, e = .returned (.float .f64 z) ∧ IE.Is (IE.mixO o s w) z ∧ Dr W w' := by
  rcases hm with h | ⟨h, ho⟩ | ⟨h, ho, hs⟩ | ⟨h, ho, hs, v, b, hv, hb⟩
  · have e := hid (mixO_badw (o := o) (s := s) h)
    rw [show IE.c1 = 4607182418800017408 from rfl] at h
    rcases h with h | h | ⟨h | h, h2⟩
    all_goals
      go_enter Try.func21, Try.ntmps21
      go_wp2_with fail
      go_ret
      exact ⟨o, rfl, by rw [e.out]; rfl, ⟨0, rfl⟩⟩
  · have e := hid (mixO_first (o := o) (s := s) h ho)
    have hn := ord_self_nan ho
    rw [show IE.c1 = 4607182418800017408 from rfl] at h
    obtain ⟨h | h, h2 | h2⟩ := h
    all_goals
      go_enter Try.func21, Try.ntmps21
      go_wp2_with fail
      go_ret
      exact ⟨s, rfl, by rw [e.out]; rfl, ⟨0, rfl⟩⟩
  · have e := hid (mixO_bads (o := o) (s := s) h ho hs)
    have hn := IE.order_self ho
    rw [show IE.c1 = 4607182418800017408 from rfl] at h
    obtain ⟨h, h2⟩ := h
    rcases hs with hs | hs | rfl
    · rcases h with h | h <;> rcases h2 with h2 | h2
      all_goals
        go_enter Try.func21, Try.ntmps21
        go_wp2_with fail
        go_ret
        exact ⟨o, rfl, by rw [e.out]; rfl, ⟨0, rfl⟩⟩
    · rcases h with h | h <;> rcases h2 with h2 | h2
      all_goals
        go_enter Try.func21, Try.ntmps21
        go_wp2_with fail
        go_ret
        exact ⟨o, rfl, by rw [e.out]; rfl, ⟨0, rfl⟩⟩
    · have h3 : IE.D.order 9218868437227405312 0 = some .gt := by decide +kernel
      rw [show IE.inf = 9218868437227405312 from rfl] at *
      rcases h with h | h <;> rcases h2 with h2 | h2
      all_goals
        go_enter Try.func21, Try.ntmps21
        go_wp2_with (go_at_call 29; refine (inf_inf _).mono ?_; rintro e w' ⟨rfl, rfl⟩)
        go_ret
        exact ⟨o, rfl, by rw [e.out]; rfl, ⟨0, rfl⟩⟩
  · have e := hid (mixO_good (o := o) (s := s) h ho hs hv hb)
    have hn := IE.order_self ho
    have hI : ∀ W, Calls Try.prog 29 #[.float .f64 s, .int .i64 0] W fun e w' => e = .returned (.bool false) ∧ W = w' := by
      intro W
      rcases hs with ⟨h1, h2, h3⟩ | ⟨h1 | h1, h2⟩
      · exact inf_word s s W (.inl rfl) h2
      · exact inf_word s 0 W (.inl h1) (by decide)
      · exact inf_word s 0 W (.inr h1) (by decide)
    have hs' : IE.D.order s 0 = some .gt ∨ IE.D.order s 0 = some .eq := by
      rcases hs with h1 | h1
      · exact .inl h1.2.2
      · exact .inr h1.2
    rw [show IE.c1 = 4607182418800017408 from rfl] at h hv
    obtain ⟨h, h2⟩ := h
    obtain ⟨za, na, ha, hra⟩ : ∃ z n, IE.Is (IE.D.mul o w) z ∧ fres Try.prog W o w (IE.D.mul o w) = .ok (.float .f64 z) (W.drewN n) := fres_is _ _ _ _ _
    obtain ⟨zc, nc, hc, hrc⟩ : ∃ z n, IE.Is (IE.D.add za b) z ∧ fres Try.prog (W.drewN na) za b (IE.D.add za b) = .ok (.float .f64 z) ((W.drewN na).drewN n) := fres_is _ _ _ _ _
    have E : IE.Is (IE.mixO o s w) zc := by rw [e.out]; exact (add_is ha).2 hc
    clear hs e ha hc
    have HE := hid E
    clear E
    rcases h with h | h <;> rcases h2 with h2 | h2 <;> rcases hs' with h3 | h3
    all_goals
      go_enter Try.func21, Try.ntmps21
      go_wp2_with (go_at_call 29; refine (hI _).mono ?_; rintro e w' ⟨rfl, rfl⟩)
      go_ret
      exact ⟨zc, rfl, HE.out, ⟨na + nc, rfl⟩⟩
end Go.Proofs.Ytfifecjnniahiaa

namespace Go.Proofs.Ytfifecjnniahiaa
open Go Go.RowKit

theorem infinite_s (s : Nat) (w : World) (h : s = 0 ∨ s = IE.sgn) : Calls Try.prog 31 #[.float .f64 s] w fun e w' => e = .returned (.bool false) ∧ w = w' := by
  have hn : IE.nanB s = false := by rcases h with h | h <;> rw [h] <;> decide +kernel
  have hs : IE.D.sub s s = some 0 := by rcases h with h | h <;> rw [h] <;> decide +kernel
  have h0 : IE.nanB 0 = false := by decide +kernel
  go_enter Try.func31, Try.ntmps31
  go_wp2_with (go_at_call 26; refine (none_any _ _).mono ?_; rintro e w' ⟨rfl, rfl⟩)
  go_ret
  exact ⟨rfl, rfl⟩
theorem infinite_inf (w : World) : Calls Try.prog 31 #[.float .f64 9218868437227405312] w fun e w' => e = .returned (.bool true) ∧ Dr w w' := by
  have hn : IE.nanB 9218868437227405312 = false := by decide +kernel
  have hs : IE.D.sub 9218868437227405312 9218868437227405312 = Option.none := IE.sub_ii
  obtain ⟨z, hz, hr⟩ := fres_none (P := Try.prog) w 9218868437227405312 9218868437227405312
  go_enter Try.func31, Try.ntmps31
  go_wp2_with (go_at_call 26; refine (none_any _ _).mono ?_; rintro e w' ⟨rfl, rfl⟩)
  go_ret
  exact ⟨rfl, ⟨1, rfl⟩⟩

set_option maxHeartbeats 1000000 in
theorem rmix_word (w o s : Nat) (hm : IE.Mixes o s w) (W : World) : Calls Try.prog 22 #[.float .f64 o, .float .f64 s, .float .f64 w] W fun e w' => ∃ z, e = .returned (.float .f64 z) ∧ IE.Is (IE.mixO o s w) z ∧ Dr W w' := by
  rcases hm with h | ⟨h, ho⟩ | ⟨h, ho, hs⟩ | ⟨h, ho, hs, v, b, hv, hb⟩
  · have e := hid (mixO_badw (o := o) (s := s) h)
    rw [show IE.c1 = 4607182418800017408 from rfl] at h
    cases hnw : IE.nanB w
    · rcases h with h | h | ⟨h | h, h2⟩
      · rcases (IE.order_none w 0).1 h with h1 | h1
        · rw [hnw] at h1; exact absurd h1 (by decide)
        · exact absurd h1 (by decide +kernel)
      all_goals
        go_enter Try.func22, Try.ntmps22
        go_wp2_with (go_at_call 26; refine (none_any _ _).mono ?_; rintro e w' ⟨rfl, rfl⟩)
        go_ret
        exact ⟨o, rfl, by rw [e.out]; rfl, ⟨0, rfl⟩⟩
    · clear h
      go_enter Try.func22, Try.ntmps22
      go_wp2_with (go_at_call 26; refine (none_any _ _).mono ?_; rintro e w' ⟨rfl, rfl⟩)
      go_ret
      exact ⟨o, rfl, by rw [e.out]; rfl, ⟨0, rfl⟩⟩
  · have e := hid (mixO_first (o := o) (s := s) h ho)
    have hnw := mixes_geq h.1
    rw [show IE.c1 = 4607182418800017408 from rfl] at h
    obtain ⟨h | h, h2 | h2⟩ := h
    all_goals
      go_enter Try.func22, Try.ntmps22
      go_wp2_with (go_at_call 26; refine (none_any _ _).mono ?_; rintro e w' ⟨rfl, rfl⟩)
      go_ret
      exact ⟨s, rfl, by rw [e.out]; rfl, ⟨0, rfl⟩⟩
  · have e := hid (mixO_bads (o := o) (s := s) h ho hs)
    have hnw := mixes_geq h.1
    rw [show IE.c1 = 4607182418800017408 from rfl] at h
    obtain ⟨h, h2⟩ := h
    cases hns : IE.nanB s
    · rcases hs with hs | hs | rfl
      · rcases (IE.order_none s 0).1 hs with h1 | h1
        · rw [hns] at h1; exact absurd h1 (by decide)
        · exact absurd h1 (by decide +kernel)
      · rcases h with h | h <;> rcases h2 with h2 | h2
        all_goals
          go_enter Try.func22, Try.ntmps22
          go_wp2_with (go_at_call 26; refine (none_any _ _).mono ?_; rintro e w' ⟨rfl, rfl⟩)
          go_ret
          exact ⟨o, rfl, by rw [e.out]; rfl, ⟨0, rfl⟩⟩
      · have h3 : IE.D.order 9218868437227405312 0 = some .gt := by decide +kernel
        rw [show IE.inf = 9218868437227405312 from rfl] at *
        rcases h with h | h <;> rcases h2 with h2 | h2
        all_goals
          go_enter Try.func22, Try.ntmps22
          go_wp2_with (first | (go_at_call 26; refine (none_any _ _).mono ?_; rintro e w' ⟨rfl, rfl⟩) | (go_at_call 31; refine (infinite_inf _).mono ?_; rintro e w' ⟨rfl, hd⟩; obtain ⟨nd, rfl⟩ := hd))
          go_ret
          exact ⟨o, rfl, by rw [e.out]; rfl, ⟨nd, rfl⟩⟩
    · clear hs
      rcases h with h | h <;> rcases h2 with h2 | h2
      all_goals
        go_enter Try.func22, Try.ntmps22
        go_wp2_with (go_at_call 26; refine (none_any _ _).mono ?_; rintro e w' ⟨rfl, rfl⟩)
        go_ret
        exact ⟨o, rfl, by rw [e.out]; rfl, ⟨0, rfl⟩⟩
  · have e := hid (mixO_good (o := o) (s := s) h ho hs hv hb)
    have hnw := mixes_geq h.1
    have hI : ∀ W, Calls Try.prog 31 #[.float .f64 s] W fun e w' => e = .returned (.bool false) ∧ W = w' := by
      intro W
      rcases hs with ⟨h1, h2, h3⟩ | ⟨h1, h2⟩
      · exact infinite_fin s W h2
      · exact infinite_s s W h1
    have hs' : IE.D.order s 0 = some .gt ∨ IE.D.order s 0 = some .eq := by
      rcases hs with h1 | h1
      · exact .inl h1.2.2
      · exact .inr h1.2
    have hns := mixes_geq hs'
    rw [show IE.c1 = 4607182418800017408 from rfl] at h hv
    obtain ⟨h, h2⟩ := h
    obtain ⟨za, na, ha, hra⟩ : ∃ z n, IE.Is (IE.D.mul o w) z ∧ fres Try.prog W o w (IE.D.mul o w) = .ok (.float .f64 z) (W.drewN n) := fres_is _ _ _ _ _
    obtain ⟨zc, nc, hc, hrc⟩ : ∃ z n, IE.Is (IE.D.add za b) z ∧ fres Try.prog (W.drewN na) za b (IE.D.add za b) = .ok (.float .f64 z) ((W.drewN na).drewN n) := fres_is _ _ _ _ _
    have E : IE.Is (IE.mixO o s w) zc := by rw [e.out]; exact (add_is ha).2 hc
    clear hs e ha hc
    have HE := hid E
    clear E
    rcases h with h | h <;> rcases h2 with h2 | h2 <;> rcases hs' with h3 | h3
    all_goals
      go_enter Try.func22, Try.ntmps22
      go_wp2_with (first | (go_at_call 26; refine (none_any _ _).mono ?_; rintro e w' ⟨rfl, rfl⟩) | (go_at_call 31; refine (hI _).mono ?_; rintro e w' ⟨rfl, rfl⟩))
      go_ret
      exact ⟨zc, rfl, HE.out, ⟨na + nc, rfl⟩⟩

theorem rateO_bad {n t : Nat} (h : IE.D.order t 0 = Option.none ∨ IE.D.order t 0 = some .lt) : IE.rateO n t = Option.none := by
  unfold IE.rateO; rw [if_pos h]
theorem rateO_good {n t : Nat} (h : IE.D.order t 0 = some .gt ∨ IE.D.order t 0 = some .eq) : IE.rateO n t = IE.D.div (IE.ofN n) t := by
  unfold IE.rateO
  rw [if_neg]
  rintro (k | k) <;> rcases h with h | h <;> rw [k] at h <;> exact absurd h (by decide)
set_option maxHeartbeats 1000000 in
theorem rate_word (n t : Nat) (W : World) : Calls Try.prog 17 #[.int .u64 (n : Int), .float .f64 t] W fun e w' => ∃ z, e = .returned (.float .f64 z) ∧ IE.Is (IE.rateO n t) z ∧ Dr W w' := by
  have hof := IE.ofN_eq n
  have hk : IE.nanB 9221120237041090561 = true := by decide +kernel
  rcases IE.rates (t := t) n with ⟨h, hn⟩ | ⟨h, hn⟩ | ⟨h, hn⟩
  · have e := hid (rateO_bad (n := n) (.inl h))
    go_enter Try.func17, Try.ntmps17
    go_wp2_with (go_at_call 23; refine (NaN_any _).mono ?_; rintro e w' ⟨rfl, rfl⟩)
    go_ret
    exact ⟨_, rfl, by rw [e.out]; exact hk, ⟨0, rfl⟩⟩
  · have e := hid (rateO_bad (n := n) (.inr h))
    go_enter Try.func17, Try.ntmps17
    go_wp2_with (go_at_call 23; refine (NaN_any _).mono ?_; rintro e w' ⟨rfl, rfl⟩)
    go_ret
    exact ⟨_, rfl, by rw [e.out]; exact hk, ⟨0, rfl⟩⟩
  · have e1 := rateO_good (n := n) h
    generalize IE.ofN n = x at *
    have e := hid e1
    clear e1
    obtain ⟨za, na, ha, hra⟩ : ∃ z k, IE.Is (IE.D.div x t) z ∧ fres Try.prog W x t (IE.D.div x t) = .ok (.float .f64 z) (W.drewN k) := fres_is _ _ _ _ _
    have HA := hid ha
    clear ha
    rcases h with h | h
    all_goals
      go_enter Try.func17, Try.ntmps17
      go_wp2_with fail
      go_ret
      exact ⟨_, rfl, by rw [e.out]; exact HA.out, ⟨na, rfl⟩⟩
set_option maxHeartbeats 1000000 in
theorem rrate_word (n t : Nat) (W : World) : Calls Try.prog 18 #[.int .u64 (n : Int), .float .f64 t] W fun e w' => ∃ z, e = .returned (.float .f64 z) ∧ IE.Is (IE.rateO n t) z ∧ Dr W w' := by
  have hof := IE.ofN_eq n
  rcases IE.rates (t := t) n with ⟨h, hn⟩ | ⟨h, hn⟩ | ⟨h, hn⟩
  · have e := hid (rateO_bad (n := n) (.inl h))
    go_enter Try.func18, Try.ntmps18
    go_wp2_with (first | (go_at_call 26; refine (none_any _ _).mono ?_; rintro e w' ⟨rfl, rfl⟩) | (go_at_call 25; refine (nan_any _).mono ?_; rintro e w' ⟨z, hz, rfl, rfl⟩))
    go_ret
    exact ⟨z, rfl, by rw [e.out]; exact hz, ⟨1, rfl⟩⟩
  · have e := hid (rateO_bad (n := n) (.inr h))
    go_enter Try.func18, Try.ntmps18
    go_wp2_with (first | (go_at_call 26; refine (none_any _ _).mono ?_; rintro e w' ⟨rfl, rfl⟩) | (go_at_call 25; refine (nan_any _).mono ?_; rintro e w' ⟨z, hz, rfl, rfl⟩))
    go_ret
    exact ⟨z, rfl, by rw [e.out]; exact hz, ⟨1, rfl⟩⟩
  · have e1 := rateO_good (n := n) h
    generalize IE.ofN n = x at *
    have e := hid e1
    clear e1
    obtain ⟨za, na, ha, hra⟩ : ∃ z k, IE.Is (IE.D.div x t) z ∧ fres Try.prog W x t (IE.D.div x t) = .ok (.float .f64 z) (W.drewN k) := fres_is _ _ _ _ _
    have HA := hid ha
    clear ha
    rcases h with h | h
    all_goals
      go_enter Try.func18, Try.ntmps18
      go_wp2_with (go_at_call 26; refine (none_any _ _).mono ?_; rintro e w' ⟨rfl, rfl⟩)
      go_ret
      exact ⟨_, rfl, by rw [e.out]; exact HA.out, ⟨na, rfl⟩⟩

/-- Two that are the same, or none both. -/
theorem same_word (x : Option Nat) (a b : Nat) (ha : IE.Is x a) (hb : IE.Is x b) (W : World) : Calls Try.prog 12 #[.float .f64 a, .float .f64 b] W fun e w' => e = .returned (.bool true) ∧ W = w' := by
  cases x with
  | none => exact same_nan a b W ha hb
  | some r =>
    obtain rfl : a = r := ha
    obtain rfl : b = a := hb
    cases hn : IE.nanB b
    · have ho := IE.order_self hn
      cases hz : IE.D.order b 0 with
      | none =>
        rcases (IE.order_none b 0).1 hz with h1 | h1
        · rw [hn] at h1; exact absurd h1 (by decide)
        · exact absurd h1 (by decide +kernel)
      | some c =>
        cases c
        · go_enter Try.func12, Try.ntmps12
          go_wp2_with (go_at_call 26; refine (none_any _ _).mono ?_; rintro e w' ⟨rfl, rfl⟩)
          go_ret
          exact ⟨rfl, rfl⟩
        · have h1 := IE.one_over hz
          rw [show IE.c1 = 4607182418800017408 from rfl] at h1
          have i1 := IE.order_ii
          have i2 := IE.order_nn
          rcases h1 with h1 | h1
          all_goals
            go_enter Try.func12, Try.ntmps12
            go_wp2_with (go_at_call 26; refine (none_any _ _).mono ?_; rintro e w' ⟨rfl, rfl⟩)
            go_ret
            exact ⟨rfl, rfl⟩
        · go_enter Try.func12, Try.ntmps12
          go_wp2_with (go_at_call 26; refine (none_any _ _).mono ?_; rintro e w' ⟨rfl, rfl⟩)
          go_ret
          exact ⟨rfl, rfl⟩
    · exact same_nan b b W hn hn
end Go.Proofs.Ytfifecjnniahiaa
