/- The laws' helpers: works; and no queue. -/
import Derived.Test.YtkmkgfgppblleaaFlowW5
namespace Go.Proofs.Ytkmkgfgppblleaa
open Go.RowKit FL

section
variable {w : World} {P M : Nat} {rv : Value} {en : Int} {s : FS}
theorem Near.trans {w w' : World} {a b c : Value} (h : Near w a b) (k : Near w' b c) (hs : w.heap.size ≤ w'.heap.size) : Near w a c := by
  rcases k with k | ⟨g, k, hg⟩
  · rcases h with h | ⟨g, h, hg⟩
    · exact .inl (k.trans h)
    · exact .inr ⟨g, k.trans h, hg⟩
  · exact .inr ⟨g, k, Nat.le_trans hs hg⟩
theorem put_any (hq : QAt w P M rv en s) (hs : Inv s) (x : Nat) (hx : x < 4294967296) (d : ByteArray) (f : Bool) :
    Calls Try.prog 10 #[.pointer (some ⟨P, 0, none⟩), .int .u32 (x : Int), .string d, .bool f] w fun r w' => r = .returned (.bool (took s x d.data.toList f)) ∧ ∃ rv' en', QAt w' P M rv' en' (put s x d.data.toList f) ∧ Out (QEx P M rv) w w' ∧ Near w rv rv' := by
  have hl : d.data.toList.length = d.size := by simp
  cases h : (s.ended || decide (65536 < d.size))
  · have hne : s.ended = false := by cases he : s.ended <;> rw [he] at h <;> first | rfl | cases h
    have hd : d.size ≤ 65536 := by rw [hne] at h; simpa using h
    exact put_yes_any hq hs x hx d f hne hd
  · have h2 : (s.ended || decide (65536 < d.data.toList.length)) = true := by rw [hl]; exact h
    refine (put_no_any hq x d f h).mono ?_
    rintro r w' ⟨rfl, hd⟩
    rw [put_no h2]
    refine ⟨?_, rv, en, hq.dr hd, Out.of_dr hd, .inl rfl⟩
    unfold took
    rw [if_pos h2]
end

/-- What stands of a queue that was made behind W, and what stands beside it. -/
def QBeh (W w : World) (P M : Nat) (s : FS) (E : List (Nat × Obj)) : Prop :=
  ∃ rv en, QAt w P M rv en s ∧ Inv s ∧ (∀ k, QEx P M rv k → W.heap.size ≤ k) ∧ Below W.heap.size W w ∧ ∀ p ∈ E, hget w p.1 = some p.2 ∧ ¬ QEx P M rv p.1
section
variable {W w w' : World} {P M : Nat} {s : FS} {E : List (Nat × Obj)}
theorem QBeh.dr (h : QBeh W w P M s E) (hd : Dr w w') : QBeh W w' P M s E := by
  obtain ⟨rv, en, h1, h2, h3, h4, h5⟩ := h
  exact ⟨rv, en, h1.dr hd, h2, h3, h4.trans hd.below, fun p hp => ⟨(Out.of_dr (ex := fun _ => False) hd).get (h5 p hp).1 (fun e => e), (h5 p hp).2⟩⟩
theorem QBeh.below (h : QBeh W w P M s E) (hd : Below w.heap.size w w') : QBeh W w' P M s E := by
  obtain ⟨rv, en, h1, h2, h3, h4, h5⟩ := h
  exact ⟨rv, en, h1.below hd, h2, h3, below_to h4 hd, fun p hp => ⟨(Out.of_below (ex := fun _ => False) hd).get (h5 p hp).1 (fun e => e), (h5 p hp).2⟩⟩
theorem QBeh.old (h : QBeh W w P M s E) : Below W.heap.size W w := by obtain ⟨rv, en, h1, h2, h3, h4, h5⟩ := h; exact h4
theorem QBeh.inv (h : QBeh W w P M s E) : Inv s := by obtain ⟨rv, en, h1, h2, h3, h4, h5⟩ := h; exact h2
theorem QBeh.get (h : QBeh W w P M s E) {b : Nat} {o : Obj} (hm : (b, o) ∈ E) : hget w b = some o := by obtain ⟨rv, en, h1, h2, h3, h4, h5⟩ := h; exact (h5 _ hm).1
theorem QBeh.less (h : QBeh W w P M s E) {E' : List (Nat × Obj)} (hE : ∀ p ∈ E', p ∈ E) : QBeh W w P M s E' := by
  obtain ⟨rv, en, h1, h2, h3, h4, h5⟩ := h
  exact ⟨rv, en, h1, h2, h3, h4, fun p hp => h5 p (hE p hp)⟩
/-- A new block. -/
theorem QBeh.make (h : QBeh W w P M s E) (o : Obj) {o' : Obj} (ho : hget (w.alloc o) w.heap.size = some o') : QBeh W (w.alloc o) P M s ((w.heap.size, o') :: E) := by
  obtain ⟨rv, en, h1, h2, h3, h4, h5⟩ := h.below (below_new o)
  obtain ⟨rv0, en0, h10, _, _, _, _⟩ := h
  refine ⟨rv, en, h1, h2, h3, h4, fun p hp => ?_⟩
  rcases List.mem_cons.1 hp with rfl | hp
  · refine ⟨ho, fun hk => ?_⟩
    have e : rv = rv0 := by
      have g1 := h1.cells
      have g0 := keepB (below_new o) h10.cells
      have := g1.symm.trans g0
      simp at this
      exact this.1
    subst e
    have := h10.lt _ hk
    omega
  · exact h5 p hp
theorem beh_step {rv rv' : Value} {en' : Int} {s' : FS} (hlt : ∀ k, QEx P M rv k → k < w.heap.size) (h3 : ∀ k, QEx P M rv k → W.heap.size ≤ k) (h4 : Below W.heap.size W w) (h5 : ∀ p ∈ E, hget w p.1 = some p.2 ∧ ¬ QEx P M rv p.1) (hi : Inv s') (hq : QAt w' P M rv' en' s') (ho : Out (QEx P M rv) w w') (hn : Near w rv rv') : QBeh W w' P M s' E := by
  have key : ∀ k, QEx P M rv' k → QEx P M rv k ∨ w.heap.size ≤ k := fun k hk => by
    rcases hk with hk | hk | hk
    · exact .inl (.inl hk)
    · exact .inl (.inr (.inl hk))
    · rcases hn with h | ⟨g, h, hg⟩
      · exact .inl (.inr (.inr (by rw [← h]; exact hk)))
      · rw [h] at hk; injection hk with hk; exact .inr (by omega)
  refine ⟨rv', en', hq, hi, fun k hk => ?_, h4.trans (ho.below h3 h4.size), fun p hp => ⟨ho.get (h5 p hp).1 (h5 p hp).2, fun hk => ?_⟩⟩
  · rcases key k hk with h | h
    · exact h3 k h
    · have := h4.size; omega
  · rcases key _ hk with h | h
    · exact (h5 p hp).2 h
    · have := hget_lt (h5 p hp).1; omega
theorem put_beh (h : QBeh W w P M s E) (x : Nat) (hx : x < 4294967296) (d : ByteArray) (f : Bool) :
    Calls Try.prog 10 #[.pointer (some ⟨P, 0, none⟩), .int .u32 (x : Int), .string d, .bool f] w fun r w' => r = .returned (.bool (took s x d.data.toList f)) ∧ QBeh W w' P M (put s x d.data.toList f) E := by
  obtain ⟨rv, en, h1, h2, h3, h4, h5⟩ := h
  refine (put_any h1 h2 x hx d f).mono ?_
  rintro r w' ⟨rfl, rv', en', hq, ho, hn⟩
  exact ⟨rfl, beh_step h1.lt h3 h4 h5 (inv_put h2 ..) hq ho hn⟩
theorem read_beh (h : QBeh W w P M s E) (most : Int) :
    Calls Try.prog 11 #[.pointer (some ⟨P, 0, none⟩), .int .i64 most] w fun r w' => r = .returned (.string ⟨(s.ready.take (readN s most)).toArray⟩) ∧ QBeh W w' P M (read s most) E := by
  obtain ⟨rv, en, h1, h2, h3, h4, h5⟩ := h
  refine (read_any h1 h2 most).mono ?_
  rintro r w' ⟨rfl, rv', hq, ho, hn⟩
  exact ⟨rfl, beh_step h1.lt h3 h4 h5 (inv_read h2 ..) hq ho hn⟩
theorem new_beh (b : Below W.heap.size W w) (x n : Nat) (hx : x < 4294967296) (h : 1 ≤ n ∧ n ≤ 65536) (h5 : ∀ p ∈ E, hget w p.1 = some p.2) : Calls Try.prog 8 #[.int .u32 (x : Int), .int .i64 (n : Int)] w fun e w' => e = .returned (.tuple #[.pointer (some ⟨w.heap.size + 1, 0, none⟩), .int .i64 0]) ∧ QBeh W w' (w.heap.size + 1) w.heap.size (new x n) E := by
  refine (new_any x n w hx h).mono ?_
  rintro r w' ⟨rfl, hq, hb⟩
  have hs := b.size
  have key : ∀ k, QEx (w.heap.size + 1) w.heap.size (.slice none 0 0) k → w.heap.size ≤ k := fun k hk => by
    rcases hk with hk | hk | hk
    · omega
    · omega
    · simp [Value.ownBlock] at hk
  refine ⟨rfl, _, _, hq, inv_new hx h, fun k hk => by have := key k hk; omega, below_to b hb, fun p hp => ⟨(Out.of_below (ex := fun _ => False) hb).get (h5 p hp) (fun e => e), fun hk => ?_⟩⟩
  have := key _ hk
  have := hget_lt (h5 p hp)
  omega
theorem ended_beh (h : QBeh W w P M s E) : Calls Try.prog 9 #[.pointer (some ⟨P, 0, none⟩)] w fun e w' => e = .returned (.bool s.ended) ∧ Dr w w' := by
  obtain ⟨rv, en, h1, _⟩ := h
  exact ended_any h1
theorem next_beh (h : QBeh W w P M s E) : Calls Try.prog 12 #[.pointer (some ⟨P, 0, none⟩)] w fun e w' => e = .returned (.int .u32 (s.next : Int)) ∧ Dr w w' := by
  obtain ⟨rv, en, h1, _⟩ := h
  exact next_any h1
theorem held_beh (h : QBeh W w P M s E) : Calls Try.prog 25 #[.pointer (some ⟨P, 0, none⟩)] w fun e w' => e = .returned (.int .i64 (s.cnt : Int)) ∧ Dr w w' := by
  obtain ⟨rv, en, h1, _⟩ := h
  exact held_any h1
theorem ready_beh (h : QBeh W w P M s E) : Calls Try.prog 24 #[.pointer (some ⟨P, 0, none⟩)] w fun e w' => e = .returned (.int .i64 (s.ready.length : Int)) ∧ Dr w w' := by
  obtain ⟨rv, en, h1, _⟩ := h
  exact ready_any h1
theorem window_beh (h : QBeh W w P M s E) : Calls Try.prog 22 #[.pointer (some ⟨P, 0, none⟩)] w fun e w' => e = .returned (.int .i64 (s.win : Int)) ∧ Dr w w' := by
  obtain ⟨rv, en, h1, h2, _⟩ := h
  exact window_any h1 h2
end

def wk0 : FS := new 4294967294 8
def wk1 : FS := put wk0 0 [99, 100] false
def wk2 : FS := put wk1 4294967294 [97, 98] false
def wk3 : FS := read wk2 9
def wk4 : FS := put wk3 2 [] true
theorem wk_a : took wk0 0 [99, 100] false = false := by decide +kernel
theorem wk_h : wk1.cnt = 2 := by decide +kernel
theorem wk_b : took wk1 4294967294 [97, 98] false = true := by decide +kernel
theorem wk_s : (⟨(wk2.ready.take (readN wk2 9)).toArray⟩ : ByteArray) = ⟨#[97, 98, 99, 100]⟩ := by decide +kernel
theorem wk_c : took wk3 2 [] true = true := by decide +kernel
theorem wk_e : wk4.ended = true := by decide +kernel
theorem wk_n : wk4.next = 3 := by decide +kernel

set_option maxHeartbeats 1000000 in
theorem works_any (W : World) : Calls Try.prog 7 #[] W fun e w' => e = .returned (.bool true) ∧ Below W.heap.size W w' := by
  have hnew := new_beh (E := []) (Below.refl _ W) 4294967294 8 (by omega) (by omega) (fun p hp => by cases hp)
  go_enter Try.func7, Try.ntmps7
  go_wp2_with fail
  refine hnew.mono ?_
  rintro e w1 ⟨rfl, q⟩
  clear hnew
  change QBeh W w1 _ _ wk0 [] at q
  have Q := hid q
  clear q
  go_wp2_with fail
  refine (put_beh Q.out 0 (by omega) ⟨#[99, 100]⟩ false).mono ?_
  rintro e w2 ⟨rfl, q⟩
  rw [show took wk0 0 (⟨#[99, 100]⟩ : ByteArray).data.toList false = false from wk_a]
  change QBeh W w2 _ _ wk1 [] at q
  replace Q := hid q
  clear q
  go_wp2_with fail
  refine (held_beh Q.out).mono ?_
  rintro e w3 ⟨rfl, hd⟩
  replace Q := hid (Q.out.dr hd)
  clear hd
  rw [wk_h]
  go_wp2_with fail
  refine (put_beh Q.out 4294967294 (by omega) ⟨#[97, 98]⟩ false).mono ?_
  rintro e w4 ⟨rfl, q⟩
  rw [show took wk1 4294967294 (⟨#[97, 98]⟩ : ByteArray).data.toList false = true from wk_b]
  change QBeh W w4 _ _ wk2 [] at q
  replace Q := hid q
  clear q
  go_wp2_with fail
  refine (read_beh Q.out 9).mono ?_
  rintro e w5 ⟨rfl, q⟩
  rw [wk_s]
  change QBeh W w5 _ _ wk3 [] at q
  replace Q := hid q
  clear q
  go_wp2_with fail
  refine (put_beh Q.out 2 (by omega) ⟨#[]⟩ true).mono ?_
  rintro e w6 ⟨rfl, q⟩
  rw [show took wk3 2 (⟨#[]⟩ : ByteArray).data.toList true = true from wk_c]
  change QBeh W w6 _ _ wk4 [] at q
  replace Q := hid q
  clear q
  go_wp2_with fail
  refine (ended_beh Q.out).mono ?_
  rintro e w7 ⟨rfl, hd⟩
  replace Q := hid (Q.out.dr hd)
  clear hd
  rw [wk_e]
  go_wp2_with fail
  refine (next_beh Q.out).mono ?_
  rintro e w8 ⟨rfl, hd⟩
  replace Q := hid (Q.out.dr hd)
  clear hd
  rw [wk_n]
  have hl1 := fun w => less_any 4294967295 0 w
  have hl2 := fun w => less_any 0 4294967295 w
  have hl3 := fun w => in_any 1 4294967295 3 w (by omega)
  rw [show lessB 4294967295 0 = true from by decide] at hl1
  rw [show lessB 0 4294967295 = false from by decide] at hl2
  rw [show decide (ofs 1 4294967295 < 3) = true from by decide +kernel] at hl3
  have H1 := hid hl1
  have H2 := hid hl2
  have H3 := hid hl3
  clear hl1 hl2 hl3
  go_wp2_with (first | (go_at_call 14; refine (H1.out _).mono ?_; rintro e w' ⟨rfl, rfl⟩) | (go_at_call 14; refine (H2.out _).mono ?_; rintro e w' ⟨rfl, rfl⟩) | (go_at_call 16; refine (H3.out _).mono ?_; rintro e w' ⟨rfl, rfl⟩))
  go_ret
  exact ⟨rfl, Q.out.old⟩

set_option maxHeartbeats 1000000 in
theorem none_any (x : Int) (s : ByteArray) (W : World) : Calls Try.prog 6 #[.int .u32 x, .string s] W fun e w' => e = .returned (.bool true) ∧ Below W.heap.size W w' := by
  by_cases h : 1024 < s.size
  · have d1 : decide (1024 < (s.size : Int)) = true := decide_eq_true (by omega)
    go_enter Try.func6, Try.ntmps6
    go_wp2_with fail
    refine (works_any W).mono ?_
    rintro e w1 ⟨rfl, hb⟩
    go_wp2_with fail
    go_ret
    exact ⟨rfl, hb⟩
  · have d1 : decide (1024 < (s.size : Int)) = false := decide_eq_false (by omega)
    go_enter Try.func6, Try.ntmps6
    go_wp2_with (first | (go_at_call 10; refine (put_nil _ _ _ _).mono ?_; rintro e w' ⟨rfl, nq, rfl⟩) | (go_at_call 11; refine (read_nil _ _).mono ?_; rintro e w' ⟨rfl, nq, rfl⟩) | (go_at_call 12; refine (next_nil _).mono ?_; rintro e w' ⟨rfl, nq, rfl⟩) | (go_at_call 22; refine (window_nil _).mono ?_; rintro e w' ⟨rfl, nq, rfl⟩) | (go_at_call 24; refine (ready_nil _).mono ?_; rintro e w' ⟨rfl, nq, rfl⟩) | (go_at_call 25; refine (held_nil _).mono ?_; rintro e w' ⟨rfl, nq, rfl⟩) | (go_at_call 9; refine (ended_nil _).mono ?_; rintro e w' ⟨rfl, nq, rfl⟩))
    refine (works_any _).mono ?_
    rintro e w1 ⟨rfl, hb⟩
    go_wp2_with fail
    go_ret
    exact ⟨rfl, (Dr.below (w := W) ⟨_, rfl⟩).trans hb⟩
end Go.Proofs.Ytkmkgfgppblleaa
