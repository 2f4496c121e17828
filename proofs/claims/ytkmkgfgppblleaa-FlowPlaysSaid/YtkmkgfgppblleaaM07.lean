/- A region that draws its order, with two calls, one behind the other, that turn what stood; the other operations read what stays. The law FlowPlays: the walk. -/
import Derived.Test.YtkmkgfgppblleaaM06
import Derived.Test.YtkmkgfgppblleaaM04
namespace Go.Proofs.Ytkmkgfgppblleaa
open Go Go.RowKit

/-- A world of a class. -/
structure Ph (C : World → Prop) where
  w' : World
  h : C w'
/-- An operation that gives a value and leaves the world. -/
def gSame (w : World) (v : Value) : Result Next → Prop
  | .ok (.value u) x => u = v ∧ x = w
  | .ok .skip x => undef = v ∧ x = w
  | _ => False
@[go_sem] theorem gSame_value (w : World) (u v : Value) : gSame w v (.ok (.value u) w) = (u = v) := propext ⟨fun h => h.1, fun h => ⟨h, rfl⟩⟩
@[go_sem] theorem gSame_skip (w : World) (v : Value) : gSame w v (.ok .skip w) = (undef = v) := propext ⟨fun h => h.1, fun h => ⟨h, rfl⟩⟩
/-- An operation that calls. -/
def gCall (P : Program) (w : World) (ok : Value → World → Prop) : Result Next → Prop
  | .ok (.enter f args) x => x = w ∧ Calls P f args w (fun e w'' => ∃ u, e = .returned u ∧ ok u w'')
  | _ => False
@[go_sem] theorem gCall_enter (P : Program) (w : World) (ok : Value → World → Prop) (f : FuncId) (args : Array Value) : gCall P w ok (.ok (.enter f args) w) = Calls P f args w (fun e w'' => ∃ u, e = .returned u ∧ ok u w'') := propext ⟨fun h => h.2, fun h => ⟨rfl, h⟩⟩

def Inv2 (i1 i2 : Nat) (J0 J1 J2 : World → Prop) : InvT := fun S _ w => (S i1 = false ∧ S i2 = false ∧ J0 w) ∨ (S i1 = true ∧ S i2 = false ∧ J1 w) ∨ (S i1 = true ∧ S i2 = true ∧ J2 w)
def C2 (J0 J1 J2 : World → Prop) : World → Prop := fun w => J0 w ∨ J1 w ∨ J2 w
section
variable {P : Program} {l : List Oper} {i1 i2 : Nat} {J0 J1 J2 : World → Prop} {Q : Act → Prop} {i : Nat} {a : Act} {o : Oper} {rest : List Oper}
abbrev wpC2 (P : Program) (l : List Oper) (i1 i2 : Nat) (J0 J1 J2 : World → Prop) (Q : Act → Prop) (i : Nat) (rest : List Oper) (a : Act) : Prop :=
  wpGho P l.toArray [] (fun _ _ _ => True) (C2 J0 J1 J2) (PostI l.toArray [] (Inv2 i1 i2 J0 J1 J2)) Q i rest a
def chainB (l : List Oper) (i1 i2 : Nat) : Bool :=
  i1 != i2 && ((l[i1]?.any fun o => o.guard.isNone) && (l[i2]?.any fun o => o.guard.isNone && o.after.any fun e => Region.binds .any e && e.on == i1))
structure Chain (l : List Oper) (i1 i2 : Nat) : Prop where
  ne : i1 ≠ i2
  g1 : ∃ o, l[i1]? = some o ∧ o.guard = none
  g2 : ∃ o, l[i2]? = some o ∧ o.guard = none ∧ ∃ e ∈ o.after, Region.binds .any e = true ∧ e.on = i1
theorem Chain.of (h : chainB l i1 i2 = true) : Chain l i1 i2 := by
  unfold chainB at h
  simp only [Bool.and_eq_true, bne_iff_ne, Option.any_eq_true] at h
  obtain ⟨h1, ⟨o1, ho1, hg1⟩, ⟨o2, ho2, hg2, ha⟩⟩ := h
  obtain ⟨e, he, hb⟩ := Array.any_eq_true'.1 ha
  simp only [Bool.and_eq_true, beq_iff_eq] at hb
  exact ⟨h1, ⟨o1, ho1, by simpa using hg1⟩, ⟨o2, ho2, by simpa using hg2, e, he, hb⟩⟩
theorem lt_of_get {l : List Oper} {i : Nat} {o : Oper} (h : l[i]? = some o) : i < l.length := (List.getElem?_eq_some_iff.1 h).1
theorem also_ne {S : Nat → Bool} {i j : Nat} (h : j ≠ i) : also S i j = S j := if_neg h
theorem also_same {S : Nat → Bool} {i : Nat} : also S i i = true := if_pos rfl
theorem wpGho_then {P : Program} {ops : Array Oper} {pv : List Nat} {Rel : Nat → Value → World → Prop} {C : World → Prop} {Post : PostT} {Q Q' : Act → Prop} (h : ∀ a, Q a → Q' a) : ∀ (l : List Oper) (i : Nat) (a : Act), wpGho P ops pv Rel C Post Q i l a → wpGho P ops pv Rel C Post Q' i l a
  | [], _, a, hh => h a hh
  | _ :: rest, i, _, ⟨v, h1, h2⟩ => ⟨v, h1, wpGho_then h rest (i + 1) _ h2⟩
/-- The law. -/
theorem wp_region_calls2 {id : Nat} {Q : Exit → Act → World → Prop} {w : World} (i1 i2 : Nat) (J0 J1 J2 : World → Prop) (hm : P.follows .mixedOrders = true) (hB : Region.lexB .any l.toArray = true) (hch : chainB l i1 i2 = true)
    (hP : privB l.toArray [] = true) (h0 : J0 w.drew) (h : wpC2 P l i1 i2 J0 J1 J2 (fun a' => ∀ w', J2 w' → Q .normal a' w') 0 l a) : (Code.region id l.toArray true).wp P Q a w := by
  have C := Chain.of hch
  obtain ⟨o1, ho1, hg1⟩ := C.g1
  obtain ⟨o2, ho2, hg2, _⟩ := C.g2
  refine wp_region_inv [] (fun _ _ _ => True) (C2 J0 J1 J2) (Inv2 i1 i2 J0 J1 J2) hm hB hP (.inl ⟨rfl, rfl, h0⟩) (fun S g w hi => ?_) (fun _ _ _ p hp => absurd hp (by simp)) (fun S g w i o ho hgn hi => ?_) ?_
  · rcases hi with h | h | h
    · exact .inl h.2.2
    · exact .inr (.inl h.2.2)
    · exact .inr (.inr h.2.2)
  · have n1 : i1 ≠ i := fun e => by
      subst e
      have : o = o1 := Option.some.inj (ho.symm.trans ho1)
      rw [this] at hgn
      exact hgn hg1
    have n2 : i2 ≠ i := fun e => by
      subst e
      have : o = o2 := Option.some.inj (ho.symm.trans ho2)
      rw [this] at hgn
      exact hgn hg2
    unfold Inv2 at hi ⊢
    rw [also_ne n1, also_ne n2]
    exact hi
  · refine wpGho_then (fun a' ha' => ?_) _ _ _ h
    intro S g x hs hi
    refine ha' x ?_
    have s1 := hs i1 (lt_of_get ho1)
    have s2 := hs i2 (lt_of_get ho2)
    rcases hi with h | h | h
    · rw [s1] at h; exact absurd h.1 (by decide)
    · rw [s2] at h; exact absurd h.2.1 (by decide)
    · exact h.2.2
theorem wpC2_plain (hP : privB l.toArray [] = true) (hsel : isSelect o = false) (h1 : (i1 != i) = true) (h2 : (i2 != i) = true)
    (h : ∀ K : Act → Prop, (∀ a, wpC2 P l i1 i2 J0 J1 J2 Q (i + 1) rest a → K a) →
      if Region.wanted o (yielded l.toArray a.tmps) then ∃ v, (∀ x : Ph (C2 J0 J1 J2), gSame x.w' v ((execOp a.eval o).run P x.w')) ∧ K (a.put o.dst v) else K (a.put o.dst undef)) :
    wpC2 P l i1 i2 J0 J1 J2 Q i (o :: rest) a := by
  have n1 : i1 ≠ i := bne_iff_ne.1 h1
  have n2 : i2 ≠ i := bne_iff_ne.1 h2
  have h3 := h _ (fun _ h => h)
  cases hw : Region.wanted o (yielded l.toArray a.tmps)
  · rw [hw] at h3
    exact ⟨undef, .inr ⟨hw, rfl⟩, h3⟩
  · rw [hw, if_pos rfl] at h3
    obtain ⟨v, a1, a2⟩ := h3
    refine ⟨v, .inl ⟨hw, ?_⟩, a2⟩
    intro g w1 hC _
    rw [over_plain (Priv.of hP) (not_select hsel) rfl]
    have hr := a1 ⟨w1, hC⟩
    have key : PostI l.toArray [] (Inv2 i1 i2 J0 J1 J2) i v g w1 v w1 := by
      intro S hclo hdue hinv
      refine ⟨fun _ => rfl, ?_⟩
      unfold Inv2 at hinv ⊢
      rw [also_ne n1, also_ne n2]
      exact hinv
    generalize (execOp a.eval o).run P w1 = r at hr
    cases r with
    | ok n x =>
      cases n with
      | value u => obtain ⟨e1, e2⟩ : u = v ∧ x = w1 := hr; rw [e1, e2]; exact key
      | skip => obtain ⟨e1, e2⟩ : undef = v ∧ x = w1 := hr; rw [e2]; subst e1; exact key
      | _ => exact hr.elim
    | halt y x => exact hr.elim
theorem gRaw_of_gCall {w : World} {ok ok' : Value → World → Prop} {r : Result Next} (h : gCall P w ok r) (hk : ∀ u x, ok u x → ok' u x) : gRaw P w ok' r := by
  cases r with
  | ok n x =>
    cases n with
    | enter f args => obtain ⟨e, hc⟩ := h; exact ⟨e, hc.mono fun e w'' ⟨u, h1, h2⟩ => ⟨u, h1, hk u w'' h2⟩⟩
    | _ => exact h.elim
  | halt y x => exact h.elim
theorem wpC2_call1 (hP : privB l.toArray [] = true) (hch : chainB l i1 i2 = true) (hi : (i1 == i) = true) (hg : o.guard = none) (hsel : isSelect o = false)
    (h : ∀ K : Act → Prop, (∀ a, wpC2 P l i1 i2 J0 J1 J2 Q (i + 1) rest a → K a) →
      ∃ v, (∀ x : Ph (C2 J0 J1 J2), gCall P x.w' (fun u y => J0 x.w' → u = v ∧ J1 y) ((execOp a.eval o).run P x.w')) ∧ K (a.put o.dst v)) :
    wpC2 P l i1 i2 J0 J1 J2 Q i (o :: rest) a := by
  have hi' : i1 = i := by simpa using hi
  subst hi'
  have C := Chain.of hch
  obtain ⟨v, a1, a2⟩ := h _ (fun _ h => h)
  refine ⟨v, .inl ⟨by unfold Region.wanted; rw [hg], ?_⟩, a2⟩
  intro g w1 hC _
  rw [over_plain (Priv.of hP) (not_select hsel) rfl]
  refine gRaw_of_gCall (a1 ⟨w1, hC⟩) fun u y hk => ?_
  intro S hclo hdue hinv
  rcases hinv with h | h | h
  · obtain ⟨e1, e2⟩ := hk h.2.2
    refine ⟨fun _ => e1, .inr (.inl ⟨also_same, ?_, e2⟩)⟩
    rw [also_ne (Ne.symm C.ne)]
    exact h.2.1
  · rw [hdue.1] at h; exact absurd h.1 (by decide)
  · rw [hdue.1] at h; exact absurd h.1 (by decide)
theorem wpC2_call2 (hP : privB l.toArray [] = true) (hch : chainB l i1 i2 = true) (hi : (i2 == i) = true) (hio : l[i]? = some o) (hg : o.guard = none) (hsel : isSelect o = false)
    (h : ∀ K : Act → Prop, (∀ a, wpC2 P l i1 i2 J0 J1 J2 Q (i + 1) rest a → K a) →
      ∃ v, (∀ x : Ph (C2 J0 J1 J2), gCall P x.w' (fun u y => J1 x.w' → u = v ∧ J2 y) ((execOp a.eval o).run P x.w')) ∧ K (a.put o.dst v)) :
    wpC2 P l i1 i2 J0 J1 J2 Q i (o :: rest) a := by
  have hi' : i2 = i := by simpa using hi
  subst hi'
  have C := Chain.of hch
  obtain ⟨v, a1, a2⟩ := h _ (fun _ h => h)
  refine ⟨v, .inl ⟨by unfold Region.wanted; rw [hg], ?_⟩, a2⟩
  intro g w1 hC _
  rw [over_plain (Priv.of hP) (not_select hsel) rfl]
  refine gRaw_of_gCall (a1 ⟨w1, hC⟩) fun u y hk => ?_
  intro S hclo hdue hinv
  obtain ⟨o2, ho2, hg2, e, he, hb, hon⟩ := C.g2
  have hs1 : S i1 = true := by
    have := hdue.2 o2 (by simpa using ho2) e he hb
    rwa [hon] at this
  rcases hinv with h | h | h
  · rw [hs1] at h; exact absurd h.1 (by decide)
  · obtain ⟨e1, e2⟩ := hk h.2.2
    refine ⟨fun _ => e1, .inr (.inr ⟨?_, also_same, e2⟩)⟩
    rw [also_ne C.ne]
    exact h.1
  · rw [hdue.1] at h; exact absurd h.2.1 (by decide)
end

end Go.Proofs.Ytkmkgfgppblleaa

namespace Go.Proofs.Ytkmkgfgppblleaa
open Go.RowKit FL Go.Deep

theorem pnew_no (x : Nat) (n : Int) (w : World) (h : n < 1 ∨ 65536 < n) : Calls Try.prog 8 #[.int .u32 (x : Int), .int .i64 n] w fun e w' => e = .returned (.tuple #[.pointer none, .int .i64 2]) ∧ Dr w w' := by
  by_cases h1 : n < 1
  · have d1 : decide (n < 1) = true := decide_eq_true h1
    clear h
    go_enter Try.func8, Try.ntmps8
    go_wp2_with fail
    go_ret2
    exact ⟨rfl, Dr.refl _⟩
  · have d1 : decide (n < 1) = false := decide_eq_false h1
    have d2 : decide (65536 < n) = true := decide_eq_true (by omega)
    clear h h1
    go_enter Try.func8, Try.ntmps8
    go_wp2_with fail
    go_ret2
    exact ⟨rfl, Dr.refl _⟩

set_option maxHeartbeats 4000000 in
set_option maxRecDepth 100000 in
theorem plays_far (x : Nat) (n : Int) (p q r : Int) (a : Option Addr) (len cap : Nat) (f : Nat → Stp) (W : World) (hs : StepsAt W a len f) (hl : len ≤ reachBytes) (hv : heavyB len f = true ∨ (2048 < n ∧ n ≤ 65536)) :
    Calls Try.prog 4 #[.int .u32 (x : Int), .int .i64 n, .slice a len cap, .int .u32 p, .int .u32 q, .int .u32 r] W fun e w' => e = .returned (.bool true) ∧ Below W.heap.size W w' := by
  have hh := heavy_any a len cap f W hs hl
  cases hv2 : heavyB len f
  · rw [hv2] at hh hv
    obtain ⟨h1, h2⟩ : 2048 < n ∧ n ≤ 65536 := by
      rcases hv with h | h
      · cases h
      · exact h
    have d1 : decide (2048 < n) = true := decide_eq_true h1
    have d2 : decide (n ≤ 65536) = true := decide_eq_true h2
    have HH := hid hh
    clear hv hs hl hh h1 h2
    go_enter Try.func4, Try.ntmps4
    go_wp2_with (go_at_call 13; refine HH.out.mono ?_; rintro e w' ⟨rfl, rfl⟩)
    refine (works_any _).mono ?_
    rintro e w1 ⟨rfl, hb⟩
    go_wp2_with fail
    go_ret
    exact ⟨rfl, hb⟩
  · rw [hv2] at hh
    have HH := hid hh
    clear hv hs hl hh
    go_enter Try.func4, Try.ntmps4
    go_wp2_with (go_at_call 13; refine HH.out.mono ?_; rintro e w' ⟨rfl, rfl⟩)
    refine (works_any _).mono ?_
    rintro e w1 ⟨rfl, hb⟩
    go_wp2_with fail
    go_ret
    exact ⟨rfl, hb⟩

set_option maxHeartbeats 8000000 in
set_option maxRecDepth 100000 in
theorem plays_no (x : Nat) (n : Int) (p q r : Nat) (hq : q < 4294967296) (a : Option Addr) (len cap : Nat) (f : Nat → Stp) (W : World) (hs : StepsAt W a len f) (hl : len ≤ reachBytes) (hv : heavyB len f = false) (hn : n < 1 ∨ 65536 < n) :
    Calls Try.prog 4 #[.int .u32 (x : Int), .int .i64 n, .slice a len cap, .int .u32 (p : Int), .int .u32 (q : Int), .int .u32 (r : Int)] W fun e w' => e = .returned (.bool true) ∧ Below W.heap.size W w' := by
  have hh := heavy_any a len cap f W hs hl
  rw [hv] at hh
  have HH := hid hh
  have hg : (decide (2048 < n) && decide (n ≤ 65536)) = false := by
    rcases hn with h | h
    · rw [decide_eq_false (by omega : ¬ 2048 < n)]; rfl
    · rw [decide_eq_false (by omega : ¬ n ≤ 65536), Bool.and_false]
  have hm : (decide (1 ≤ n) && decide (n ≤ 65536)) = false := by
    rcases hn with h | h
    · rw [decide_eq_false (by omega : ¬ 1 ≤ n)]; rfl
    · rw [decide_eq_false (by omega : ¬ n ≤ 65536), Bool.and_false]
  have hmay := rmay_any n
  rw [hm] at hmay
  have HM := hid hmay
  have HN := hid hn
  clear hs hl hv hh hmay hm
  obtain ⟨bl, hbl⟩ : ∃ b, lessB p q = b := ⟨_, rfl⟩
  obtain ⟨bi, hbi⟩ : ∃ b, decide (ofs p q < r) = b := ⟨_, rfl⟩
  have L1 := hid (hbl ▸ less_any p q)
  have L2 := hid (hbl ▸ rless_any p q)
  have I1 := hid (fun w => hbi ▸ in_any p q r w hq)
  have I2 := hid (fun w => hbi ▸ rin_any p q r w hq)
  clear hbl hbi
  by_cases h2 : 2048 < n
  · have d1 : decide (2048 < n) = true := decide_eq_true h2
    have d2 : decide (n ≤ 65536) = false := by rw [d1] at hg; simpa using hg
    clear hg h2 hn
    go_enter Try.func4, Try.ntmps4
    go_wp2_with (first | (go_at_call 13; refine HH.out.mono ?_; rintro e w' ⟨rfl, rfl⟩) | (go_at_call 14; refine (L1.out _).mono ?_; rintro e w' ⟨rfl, rfl⟩) | (go_at_call 15; refine (L2.out _).mono ?_; rintro e w' ⟨rfl, nq, rfl⟩) | (go_at_call 16; refine (I1.out _).mono ?_; rintro e w' ⟨rfl, rfl⟩) | (go_at_call 17; refine (I2.out _).mono ?_; rintro e w' ⟨rfl, nq, rfl⟩) | (go_at_call 8; refine (pnew_no x n _ HN.out).mono ?_; rintro e w' ⟨rfl, nq, rfl⟩) | (go_at_call 18; refine (HM.out _).mono ?_; rintro e w' ⟨rfl, nq, rfl⟩))
    refine (works_any _).mono ?_
    rintro e w1 ⟨rfl, hb⟩
    go_wp2_with fail
    go_ret
    exact ⟨rfl, (Dr.below (w := W) ⟨_, rfl⟩).trans hb⟩
  · have d1 : decide (2048 < n) = false := decide_eq_false h2
    clear hg h2 hn
    go_enter Try.func4, Try.ntmps4
    go_wp2_with (first | (go_at_call 13; refine HH.out.mono ?_; rintro e w' ⟨rfl, rfl⟩) | (go_at_call 14; refine (L1.out _).mono ?_; rintro e w' ⟨rfl, rfl⟩) | (go_at_call 15; refine (L2.out _).mono ?_; rintro e w' ⟨rfl, nq, rfl⟩) | (go_at_call 16; refine (I1.out _).mono ?_; rintro e w' ⟨rfl, rfl⟩) | (go_at_call 17; refine (I2.out _).mono ?_; rintro e w' ⟨rfl, nq, rfl⟩) | (go_at_call 8; refine (pnew_no x n _ HN.out).mono ?_; rintro e w' ⟨rfl, nq, rfl⟩) | (go_at_call 18; refine (HM.out _).mono ?_; rintro e w' ⟨rfl, nq, rfl⟩))
    refine (works_any _).mono ?_
    rintro e w1 ⟨rfl, hb⟩
    go_wp2_with fail
    go_ret
    exact ⟨rfl, (Dr.below (w := W) ⟨_, rfl⟩).trans hb⟩

section
variable {W : World} {P M R bi bb : Nat} {s : FS} {E : List (Nat × Obj)}
/-- Both are read. -/
theorem seq_read {J0 J1 J2 : World → Prop} {n : Int} {RD : ByteArray} (h0 : ∀ w, J0 w → Two W w P M R bi bb s s E) (h1 : ∀ w, J1 w → Two W w P M R bi bb (read s n) s E) (h2 : ∀ w, J2 w → Two W w P M R bi bb (read s n) (read s n) E) (k1 : ∀ w, Two W w P M R bi bb (read s n) s E → J1 w) (hRD : (⟨(s.ready.take (readN s n)).toArray⟩ : ByteArray) = RD) (x : Ph (C2 J0 J1 J2)) :
    Calls Try.prog 11 #[.pointer (some ⟨P, 0, none⟩), .int .i64 n] x.w' fun e w'' => ∃ u, e = .returned u ∧ (J0 x.w' → u = .string RD ∧ J1 w'') := by
  by_cases hj : J0 x.w'
  · exact (two_read (h0 _ hj) n).mono fun e w'' ⟨he, hq⟩ => ⟨_, he, fun _ => ⟨by rw [hRD], k1 _ hq⟩⟩
  · rcases x.h with h | h | h
    · exact absurd h hj
    · exact (two_read (h1 _ h) n).mono fun e w'' ⟨he, hq⟩ => ⟨_, he, fun h => absurd h hj⟩
    · exact (two_read (h2 _ h) n).mono fun e w'' ⟨he, hq⟩ => ⟨_, he, fun h => absurd h hj⟩
theorem seq_rread {J0 J1 J2 : World → Prop} {n : Int} {RD : ByteArray} (h0 : ∀ w, J0 w → Two W w P M R bi bb s s E) (h1 : ∀ w, J1 w → Two W w P M R bi bb (read s n) s E) (h2 : ∀ w, J2 w → Two W w P M R bi bb (read s n) (read s n) E) (k2 : ∀ w, Two W w P M R bi bb (read s n) (read s n) E → J2 w) (hRD : (⟨(s.ready.take (readN s n)).toArray⟩ : ByteArray) = RD) (x : Ph (C2 J0 J1 J2)) :
    Calls Try.prog 20 #[.pointer (some ⟨R, 0, none⟩), .int .i64 n] x.w' fun e w'' => ∃ u, e = .returned u ∧ (J1 x.w' → u = .string RD ∧ J2 w'') := by
  by_cases hj : J1 x.w'
  · exact (two_rread (h1 _ hj) n).mono fun e w'' ⟨he, hq⟩ => ⟨_, he, fun _ => ⟨by rw [hRD], k2 _ hq⟩⟩
  · rcases x.h with h | h | h
    · exact (two_rread (h0 _ h) n).mono fun e w'' ⟨he, hq⟩ => ⟨_, he, fun h => absurd h hj⟩
    · exact absurd h hj
    · exact (two_rread (h2 _ h) n).mono fun e w'' ⟨he, hq⟩ => ⟨_, he, fun h => absurd h hj⟩
/-- Both are given bytes. -/
theorem seq_put {J0 J1 J2 : World → Prop} {x : Nat} {d : ByteArray} {f b : Bool} {s1 : FS} (hx : x < 4294967296) (h0 : ∀ w, J0 w → Two W w P M R bi bb s s E) (h1 : ∀ w, J1 w → Two W w P M R bi bb s1 s E) (h2 : ∀ w, J2 w → Two W w P M R bi bb s1 s1 E) (k1 : ∀ w, Two W w P M R bi bb s1 s E → J1 w) (hs : put s x d.data.toList f = s1) (hb : took s x d.data.toList f = b) (y : Ph (C2 J0 J1 J2)) :
    Calls Try.prog 10 #[.pointer (some ⟨P, 0, none⟩), .int .u32 (x : Int), .string d, .bool f] y.w' fun e w'' => ∃ u, e = .returned u ∧ (J0 y.w' → u = .bool b ∧ J1 w'') := by
  by_cases hj : J0 y.w'
  · exact (two_put (h0 _ hj) x hx d f).mono fun e w'' ⟨he, hq⟩ => ⟨_, he, fun _ => ⟨by rw [hb], k1 _ (hs ▸ hq)⟩⟩
  · rcases y.h with h | h | h
    · exact absurd h hj
    · exact (two_put (h1 _ h) x hx d f).mono fun e w'' ⟨he, hq⟩ => ⟨_, he, fun h => absurd h hj⟩
    · exact (two_put (h2 _ h) x hx d f).mono fun e w'' ⟨he, hq⟩ => ⟨_, he, fun h => absurd h hj⟩
theorem seq_rput {J0 J1 J2 : World → Prop} {x : Nat} {d : ByteArray} {f b : Bool} {s1 : FS} (hx : x < 4294967296) (h0 : ∀ w, J0 w → Two W w P M R bi bb s s E) (h1 : ∀ w, J1 w → Two W w P M R bi bb s1 s E) (h2 : ∀ w, J2 w → Two W w P M R bi bb s1 s1 E) (k2 : ∀ w, Two W w P M R bi bb s1 s1 E → J2 w) (hs : put s x d.data.toList f = s1) (hb : took s x d.data.toList f = b) (y : Ph (C2 J0 J1 J2)) :
    Calls Try.prog 21 #[.pointer (some ⟨R, 0, none⟩), .int .u32 (x : Int), .string d, .bool f] y.w' fun e w'' => ∃ u, e = .returned u ∧ (J1 y.w' → u = .bool b ∧ J2 w'') := by
  by_cases hj : J1 y.w'
  · exact (two_rput (h1 _ hj) x hx d f).mono fun e w'' ⟨he, hq⟩ => ⟨_, he, fun _ => ⟨by rw [hb], k2 _ (hs ▸ hq)⟩⟩
  · rcases y.h with h | h | h
    · exact (two_rput (h0 _ h) x hx d f).mono fun e w'' ⟨he, hq⟩ => ⟨_, he, fun h => absurd h hj⟩
    · exact absurd h hj
    · exact (two_rput (h2 _ h) x hx d f).mono fun e w'' ⟨he, hq⟩ => ⟨_, he, fun h => absurd h hj⟩
end

set_option maxHeartbeats 8000000 in
set_option maxRecDepth 100000 in
theorem plays_any (x n p q r : Nat) (hx : x < 4294967296) (hn : 1 ≤ n ∧ n ≤ 2048) (hq : q < 4294967296) (a : Option Addr) (len cap : Nat) (f : Nat → Stp) (W : World) (hs : StepsAt W a len f) (hl : len ≤ reachBytes) (hv : heavyB len f = false) :
    Calls Try.prog 4 #[.int .u32 (x : Int), .int .i64 (n : Int), .slice a len cap, .int .u32 (p : Int), .int .u32 (q : Int), .int .u32 (r : Int)] W fun e w' => e = .returned (.bool true) ∧ Below W.heap.size W w' := by
  have hh := heavy_any a len cap f W hs hl
  rw [hv] at hh
  obtain ⟨hlen, hsz⟩ := light hv
  have HH := hid hh
  have HS := hid hs
  have d1 : decide (2048 < (n : Int)) = false := decide_eq_false (by omega)
  have d2 : decide (2048 < n) = false := decide_eq_false (by omega)
  have hmay := rmay_any (n : Int)
  rw [decide_eq_true (by omega : 1 ≤ (n : Int)), decide_eq_true (by omega : (n : Int) ≤ 65536)] at hmay
  have HM := hid hmay
  have hnew : ∀ w, Below W.heap.size W w → Calls Try.prog 8 #[.int .u32 (x : Int), .int .i64 (n : Int)] w fun e w' => ∃ P M, e = .returned (.tuple #[.pointer (some ⟨P, 0, none⟩), .int .i64 0]) ∧ QBeh W w' P M (new x n) [] := fun w b =>
    (new_beh (E := []) b x n hx (by omega) (fun p hp => by cases hp)).mono fun e w' ⟨h1, h2⟩ => ⟨_, _, h1, h2⟩
  have HNW := hid hnew
  have HRN := hid (fun w => rnew_any x n w hx (by omega))
  clear hh hs hl hv hmay hnew
  obtain ⟨bl, hbl⟩ : ∃ b, lessB p q = b := ⟨_, rfl⟩
  obtain ⟨bi, hbi⟩ : ∃ b, decide (ofs p q < r) = b := ⟨_, rfl⟩
  have L1 := hid (hbl ▸ less_any p q)
  have L2 := hid (hbl ▸ rless_any p q)
  have I1 := hid (fun w => hbi ▸ in_any p q r w hq)
  have I2 := hid (fun w => hbi ▸ rin_any p q r w hq)
  clear hbl hbi hx hn hq
  go_enter Try.func4, Try.ntmps4
  go_wp2_with (first | (go_at_call 13; refine HH.out.mono ?_; rintro e w' ⟨rfl, rfl⟩) | (go_at_call 14; refine (L1.out _).mono ?_; rintro e w' ⟨rfl, rfl⟩) | (go_at_call 15; refine (L2.out _).mono ?_; rintro e w' ⟨rfl, nq, rfl⟩) | (go_at_call 16; refine (I1.out _).mono ?_; rintro e w' ⟨rfl, rfl⟩) | (go_at_call 17; refine (I2.out _).mono ?_; rintro e w' ⟨rfl, nq2, rfl⟩))
  refine (HNW.out _ (by first | exact (Dr.below (w := W) ⟨_, rfl⟩) | exact (Dr.below (w := W) (Dr.refl _)))).mono ?_
  rintro e w1 ⟨P, M, rfl, q1⟩
  have Q1 := hid q1
  clear q1
  go_wp2_with (go_at_call 18; refine (HM.out _).mono ?_; rintro e w' ⟨rfl, nq3, rfl⟩)
  refine (HRN.out _).mono ?_
  rintro e w2 ⟨R, bi, bb, rfl, hR, hb, hk⟩
  have T0 := hid (Two.of (Q1.out.dr ⟨_, rfl⟩) hR (inv_new (by first | omega | exact Q1.out.inv.next) (by have := Q1.out.inv.size; exact this)) hb hk)
  clear hR hb hk Q1 HNW HRN HM HH L1 L2 I1 I2
  go_wp2_with fail
  go_loopw [16] (fun i wr => ∃ (k : Nat) (s : FS), k ≤ len ∧ i = .int .i64 (k : Int) ∧ Two W wr P M R bi bb s s []) (fun i _ => (len - intOf i).toNat)
  case atStart => exact ⟨0, _, by omega, rfl, T0.out⟩
  case round =>
    clear T0
    obtain ⟨k, s, hk, rfl, q⟩ := hrel
    have Q := hid q
    clear q
    by_cases hkl : k < len
    · have d3 : decide ((k : Int) < len) = true := decide_eq_true (by omega)
      obtain h0 | ⟨b, off, rfl, hbW, hcs⟩ := HS.out
      · omega
      obtain ⟨c0, c1, c2, c3, c4, hq, _, hnn⟩ := hcs k hkl
      have hdz := hsz k hkl
      have hcell : ∀ j, wr.cell? ⟨b, j, none⟩ = W.cell? ⟨b, j, none⟩ := fun j => Q.out.old.cell (p := ⟨b, j, none⟩) hbW
      rw [← hcell] at c0 c1 c2 c3 c4
      have hi0 : 0 ≤ (k : Int) := by omega
      have hi1 : (k : Int) < len := by omega
      clear hcs hcell
      generalize f k = t at *
      cases hrd : t.reads
      · rw [hrd] at c3
        clear hrd
        go_wp2_with fail
        have q2 := Q.out.make (.cells #[.int .u32 (t.seq : Int), .string t.data, .bool t.fin, .bool false, .int .i64 t.n] 46) (alloc_at _ _)
        generalize wr.alloc (.cells #[.int .u32 (t.seq : Int), .string t.data, .bool t.fin, .bool false, .int .i64 t.n] 46) = w2 at *
        generalize wr.heap.size = X at *
        have Q2 := hid q2
        clear q2 c0 c1 c2 c3 c4 Q
        obtain ⟨O, hO⟩ : ∃ O, Obj.cells #[.int .u32 (t.seq : Int), .string t.data, .bool t.fin, .bool false, .int .i64 t.n] 46 (0, 0) = O := ⟨_, rfl⟩
        have q2 := Q2.out
        rw [hO] at q2
        clear Q2
        have Q2 := hid q2
        clear q2
        have hcell2 : ∀ w, (∃ s1 s2, Two W w P M R bi bb s1 s2 [(X, O)]) → w.cell? ⟨X, 0, none⟩ = some (.int .u32 (t.seq : Int)) ∧ w.cell? ⟨X, 1, none⟩ = some (.string t.data) ∧ w.cell? ⟨X, 2, none⟩ = some (.bool t.fin) ∧ w.cell? ⟨X, 4, none⟩ = some (.int .i64 t.n) := by
          rintro w ⟨s1, s2, h⟩
          have g := h.get (List.mem_cons_self ..)
          rw [← hO] at g
          exact ⟨cell_at g 0, cell_at g 1, cell_at g 2, cell_at g 4⟩
        have HCE := hid hcell2
        clear hcell2 hO
        obtain ⟨b1, hb1⟩ : ∃ b1, took s t.seq t.data.data.toList t.fin = b1 := ⟨_, rfl⟩
        obtain ⟨s1, hs1⟩ : ∃ s1, put s t.seq t.data.data.toList t.fin = s1 := ⟨_, rfl⟩
        obtain ⟨J0, hJ0⟩ : ∃ J : World → Prop, J = fun w => Two W w P M R bi bb s s [(X, O)] := ⟨_, rfl⟩
        obtain ⟨J1, hJ1⟩ : ∃ J : World → Prop, J = fun w => Two W w P M R bi bb s1 s [(X, O)] := ⟨_, rfl⟩
        obtain ⟨J2, hJ2⟩ : ∃ J : World → Prop, J = fun w => Two W w P M R bi bb s1 s1 [(X, O)] := ⟨_, rfl⟩
        have k0 : ∀ w, J0 w → _ := fun w h => by rw [hJ0] at h; exact h
        have k1 : ∀ w, J1 w → _ := fun w h => by rw [hJ1] at h; exact h
        have k2 : ∀ w, J2 w → _ := fun w h => by rw [hJ2] at h; exact h
        have hcx : ∀ y : Ph (C2 J0 J1 J2), y.w'.cell? ⟨X, 0, none⟩ = some (.int .u32 (t.seq : Int)) ∧ y.w'.cell? ⟨X, 1, none⟩ = some (.string t.data) ∧ y.w'.cell? ⟨X, 2, none⟩ = some (.bool t.fin) ∧ y.w'.cell? ⟨X, 4, none⟩ = some (.int .i64 t.n) := fun y => HCE.out _ (by
          rcases y.h with h | h | h
          · exact ⟨_, _, k0 _ h⟩
          · exact ⟨_, _, k1 _ h⟩
          · exact ⟨_, _, k2 _ h⟩)
        have jX0 := fun y => (hcx y).1
        have jX1 := fun y => (hcx y).2.1
        have jX2 := fun y => (hcx y).2.2.1
        have jX4 := fun y => (hcx y).2.2.2
        clear hcx
        have S1 := hid (seq_put (f := t.fin) hq k0 k1 k2 (fun w h => by rw [hJ1]; exact h) hs1 hb1)
        have S2 := hid (seq_rput (f := t.fin) hq k0 k1 k2 (fun w h => by rw [hJ2]; exact h) hs1 hb1)
        have HJ0 := hid (show J0 w2.drew by rw [hJ0]; exact Q2.out.dr ⟨1, rfl⟩)
        have HK2 := hid k2
        clear k0 k1 k2 hJ0 hJ1 hJ2 hs1 hb1
        have ne2 : Nonempty (Ph (C2 J0 J1 J2)) := ⟨⟨_, .inl HJ0.out⟩⟩
        refine wp_region_calls2 7 15 J0 J1 J2 (by kernel_rfl) (by kernel_rfl) (by kernel_rfl) (by kernel_rfl) HJ0.out ?_
        repeat (first | (refine wpC2_plain (by kernel_rfl) (by rfl) (by decide) (by decide) (fun K hK => ?_); go_simp; refine hK _ ?_; clear hK K; try go_ints) | (refine wpC2_call1 (by kernel_rfl) (by kernel_rfl) (by rfl) rfl (by rfl) (fun K hK => ?_); go_simp; refine ⟨_, S1.out, hK _ ?_⟩; clear hK K) | (refine wpC2_call2 (by kernel_rfl) (by kernel_rfl) (by rfl) rfl rfl (by rfl) (fun K hK => ?_); go_simp; refine ⟨_, S2.out, hK _ ?_⟩; clear hK K))
        refine wpGho_nil ?_
        intro w3 hw3
        have Q3 := hid (HK2.out _ hw3)
        clear hw3 S1 S2 HJ0 HK2 jX0 jX1 jX2 jX4 Q2
        obtain ⟨rv, en, e, h1, h2, h3, h4, -, -, -, -⟩ := Q3.out
        have F1 : Hid (∀ y : Later w3, Calls Try.prog 12 #[.pointer (some ⟨P, 0, none⟩)] y.w' fun e w' => e = .returned (.int .u32 (s1.next : Int)) ∧ Below y.w'.heap.size y.w' w') := hid fun y => (next_any (h1.below y.h)).mono fun e w' ⟨a, b⟩ => ⟨a, b.below⟩
        have F2 : Hid (∀ y : Later w3, Calls Try.prog 22 #[.pointer (some ⟨P, 0, none⟩)] y.w' fun e w' => e = .returned (.int .i64 (s1.win : Int)) ∧ Below y.w'.heap.size y.w' w') := hid fun y => (window_any (h1.below y.h) h2).mono fun e w' ⟨a, b⟩ => ⟨a, b.below⟩
        have F3 : Hid (∀ y : Later w3, Calls Try.prog 23 #[.pointer (some ⟨R, 0, none⟩)] y.w' fun e w' => e = .returned (.int .i64 (s1.win : Int)) ∧ Below y.w'.heap.size y.w' w') := hid fun y => (rwindow_any (h3.below y.h) h4.room h4.size.2).mono fun e w' ⟨a, b⟩ => ⟨a, b.below⟩
        have F5 : Hid (∀ y : Later w3, Calls Try.prog 25 #[.pointer (some ⟨P, 0, none⟩)] y.w' fun e w' => e = .returned (.int .i64 (s1.cnt : Int)) ∧ Below y.w'.heap.size y.w' w') := hid fun y => (held_any (h1.below y.h)).mono fun e w' ⟨a, b⟩ => ⟨a, b.below⟩
        have F6 : Hid (∀ y : Later w3, Calls Try.prog 26 #[.pointer (some ⟨R, 0, none⟩)] y.w' fun e w' => e = .returned (.int .i64 (s1.cnt : Int)) ∧ Below y.w'.heap.size y.w' w') := hid fun y => (rheld_any (h3.below y.h) h4).mono fun e w' ⟨a, b⟩ => ⟨a, b.below⟩
        have F7 : Hid (∀ y : Later w3, Calls Try.prog 9 #[.pointer (some ⟨P, 0, none⟩)] y.w' fun e w' => e = .returned (.bool s1.ended) ∧ Below y.w'.heap.size y.w' w') := hid fun y => (ended_any (h1.below y.h)).mono fun e w' ⟨a, b⟩ => ⟨a, b.below⟩
        have F4 : ∀ y : Later w3, Calls Try.prog 24 #[.pointer (some ⟨P, 0, none⟩)] y.w' fun e w' => e = .returned (.int .i64 (s1.ready.length : Int)) ∧ Below y.w'.heap.size y.w' w' := fun y => (ready_any (h1.below y.h)).mono fun e w' ⟨a, b⟩ => ⟨a, b.below⟩
        have gR := h3.cells
        have jR0 := later_cell (cell_at gR 0 : w3.cell? ⟨R, 0, none⟩ = some (.int .u32 (s1.next : Int)))
        have cR2 : w3.cell? ⟨R, 2, none⟩ = some (.string ⟨s1.ready.toArray⟩) := cell_at gR 2
        have jR7 := later_cell (cell_at gR 7 : w3.cell? ⟨R, 7, none⟩ = some (.bool s1.ended))
        obtain ⟨SR, hSR⟩ : ∃ SR, (⟨s1.ready.toArray⟩ : ByteArray) = SR := ⟨_, rfl⟩
        have hss : SR.size = s1.ready.length := by rw [← hSR]; simp [ByteArray.size]
        rw [hSR] at cR2
        rw [← hss] at F4
        have jR2 := later_cell cR2
        have G4 := hid F4
        clear hSR hss F4 cR2 gR h1 h2 h3 h4
        go_wp2_with fail
        refine wp_region_later (by kernel_rfl) (by kernel_rfl) ?_
        repeat ((go_big_quiet_step ((first | (go_at_call 12; with_reducible exact calls_later (F1.out _)) | (go_at_call 22; with_reducible exact calls_later (F2.out _)) | (go_at_call 23; with_reducible exact calls_later (F3.out _)) | (go_at_call 24; with_reducible exact calls_later (G4.out _)) | (go_at_call 25; with_reducible exact calls_later (F5.out _)) | (go_at_call 26; with_reducible exact calls_later (F6.out _)) | (go_at_call 9; with_reducible exact calls_later (F7.out _))))))
        refine wpQuiet_nil ?_
        intro wL hwL
        obtain ⟨⟨w8, hL⟩, e8⟩ := hwL
        change wL = w8 at e8
        subst e8
        have Q4 := hid ((Q3.out.below hL).less (E' := []) (fun p hp => by cases hp))
        clear hL F1 F2 F3 F5 F6 F7 G4 jR0 jR2 jR7
        go_wp2_with fail
        exact ⟨⟨k + 1, s1, by omega, by simp, Q4.out⟩, by simp only [intOf]; omega⟩
      · rw [hrd] at c3
        clear hrd
        go_wp2_with fail
        have q2 := Q.out.make (.cells #[.int .u32 (t.seq : Int), .string t.data, .bool t.fin, .bool true, .int .i64 t.n] 46) (alloc_at _ _)
        generalize wr.alloc (.cells #[.int .u32 (t.seq : Int), .string t.data, .bool t.fin, .bool true, .int .i64 t.n] 46) = w2 at *
        generalize wr.heap.size = X at *
        have Q2 := hid q2
        clear q2 c0 c1 c2 c3 c4 Q
        obtain ⟨O, hO⟩ : ∃ O, Obj.cells #[.int .u32 (t.seq : Int), .string t.data, .bool t.fin, .bool true, .int .i64 t.n] 46 (0, 0) = O := ⟨_, rfl⟩
        have q2 := Q2.out
        rw [hO] at q2
        clear Q2
        have Q2 := hid q2
        clear q2
        have hcell2 : ∀ w, (∃ s1 s2, Two W w P M R bi bb s1 s2 [(X, O)]) → w.cell? ⟨X, 0, none⟩ = some (.int .u32 (t.seq : Int)) ∧ w.cell? ⟨X, 1, none⟩ = some (.string t.data) ∧ w.cell? ⟨X, 2, none⟩ = some (.bool t.fin) ∧ w.cell? ⟨X, 4, none⟩ = some (.int .i64 t.n) := by
          rintro w ⟨s1, s2, h⟩
          have g := h.get (List.mem_cons_self ..)
          rw [← hO] at g
          exact ⟨cell_at g 0, cell_at g 1, cell_at g 2, cell_at g 4⟩
        have HCE := hid hcell2
        clear hcell2 hO
        obtain ⟨RD, hRD⟩ : ∃ RD, (⟨(s.ready.take (readN s t.n)).toArray⟩ : ByteArray) = RD := ⟨_, rfl⟩
        obtain ⟨s1, hs1⟩ : ∃ s1, read s t.n = s1 := ⟨_, rfl⟩
        obtain ⟨J0, hJ0⟩ : ∃ J : World → Prop, J = fun w => Two W w P M R bi bb s s [(X, O)] := ⟨_, rfl⟩
        obtain ⟨J1, hJ1⟩ : ∃ J : World → Prop, J = fun w => Two W w P M R bi bb (read s t.n) s [(X, O)] := ⟨_, rfl⟩
        obtain ⟨J2, hJ2⟩ : ∃ J : World → Prop, J = fun w => Two W w P M R bi bb (read s t.n) (read s t.n) [(X, O)] := ⟨_, rfl⟩
        have k0 : ∀ w, J0 w → _ := fun w h => by rw [hJ0] at h; exact h
        have k1 : ∀ w, J1 w → _ := fun w h => by rw [hJ1] at h; exact h
        have k2 : ∀ w, J2 w → _ := fun w h => by rw [hJ2] at h; exact h
        have hcx : ∀ y : Ph (C2 J0 J1 J2), y.w'.cell? ⟨X, 0, none⟩ = some (.int .u32 (t.seq : Int)) ∧ y.w'.cell? ⟨X, 1, none⟩ = some (.string t.data) ∧ y.w'.cell? ⟨X, 2, none⟩ = some (.bool t.fin) ∧ y.w'.cell? ⟨X, 4, none⟩ = some (.int .i64 t.n) := fun y => HCE.out _ (by
          rcases y.h with h | h | h
          · exact ⟨_, _, k0 _ h⟩
          · exact ⟨_, _, k1 _ h⟩
          · exact ⟨_, _, k2 _ h⟩)
        have jX0 := fun y => (hcx y).1
        have jX1 := fun y => (hcx y).2.1
        have jX2 := fun y => (hcx y).2.2.1
        have jX4 := fun y => (hcx y).2.2.2
        clear hcx
        have S1 := hid (seq_read k0 k1 k2 (fun w h => by rw [hJ1]; exact h) hRD)
        have S2 := hid (seq_rread k0 k1 k2 (fun w h => by rw [hJ2]; exact h) hRD)
        have HJ0 := hid (show J0 w2.drew by rw [hJ0]; exact Q2.out.dr ⟨1, rfl⟩)
        have HK2 := hid k2
        clear k0 k1 k2 hJ0 hJ1 hJ2 hRD
        have ne2 : Nonempty (Ph (C2 J0 J1 J2)) := ⟨⟨_, .inl HJ0.out⟩⟩
        refine wp_region_calls2 3 7 J0 J1 J2 (by kernel_rfl) (by kernel_rfl) (by kernel_rfl) (by kernel_rfl) HJ0.out ?_
        repeat (first | (refine wpC2_plain (by kernel_rfl) (by rfl) (by decide) (by decide) (fun K hK => ?_); go_simp; refine hK _ ?_; clear hK K; try go_ints) | (refine wpC2_call1 (by kernel_rfl) (by kernel_rfl) (by rfl) rfl (by rfl) (fun K hK => ?_); go_simp; refine ⟨_, S1.out, hK _ ?_⟩; clear hK K) | (refine wpC2_call2 (by kernel_rfl) (by kernel_rfl) (by rfl) rfl rfl (by rfl) (fun K hK => ?_); go_simp; refine ⟨_, S2.out, hK _ ?_⟩; clear hK K))
        refine wpGho_nil ?_
        intro w3 hw3
        have Q3 := hid (hs1 ▸ HK2.out _ hw3)
        clear hw3 S1 S2 HJ0 HK2 jX0 jX1 jX2 jX4 Q2
        obtain ⟨rv, en, e, h1, h2, h3, h4, -, -, -, -⟩ := Q3.out
        have F1 : Hid (∀ y : Later w3, Calls Try.prog 12 #[.pointer (some ⟨P, 0, none⟩)] y.w' fun e w' => e = .returned (.int .u32 (s1.next : Int)) ∧ Below y.w'.heap.size y.w' w') := hid fun y => (next_any (h1.below y.h)).mono fun e w' ⟨a, b⟩ => ⟨a, b.below⟩
        have F2 : Hid (∀ y : Later w3, Calls Try.prog 22 #[.pointer (some ⟨P, 0, none⟩)] y.w' fun e w' => e = .returned (.int .i64 (s1.win : Int)) ∧ Below y.w'.heap.size y.w' w') := hid fun y => (window_any (h1.below y.h) h2).mono fun e w' ⟨a, b⟩ => ⟨a, b.below⟩
        have F3 : Hid (∀ y : Later w3, Calls Try.prog 23 #[.pointer (some ⟨R, 0, none⟩)] y.w' fun e w' => e = .returned (.int .i64 (s1.win : Int)) ∧ Below y.w'.heap.size y.w' w') := hid fun y => (rwindow_any (h3.below y.h) h4.room h4.size.2).mono fun e w' ⟨a, b⟩ => ⟨a, b.below⟩
        have F5 : Hid (∀ y : Later w3, Calls Try.prog 25 #[.pointer (some ⟨P, 0, none⟩)] y.w' fun e w' => e = .returned (.int .i64 (s1.cnt : Int)) ∧ Below y.w'.heap.size y.w' w') := hid fun y => (held_any (h1.below y.h)).mono fun e w' ⟨a, b⟩ => ⟨a, b.below⟩
        have F6 : Hid (∀ y : Later w3, Calls Try.prog 26 #[.pointer (some ⟨R, 0, none⟩)] y.w' fun e w' => e = .returned (.int .i64 (s1.cnt : Int)) ∧ Below y.w'.heap.size y.w' w') := hid fun y => (rheld_any (h3.below y.h) h4).mono fun e w' ⟨a, b⟩ => ⟨a, b.below⟩
        have F7 : Hid (∀ y : Later w3, Calls Try.prog 9 #[.pointer (some ⟨P, 0, none⟩)] y.w' fun e w' => e = .returned (.bool s1.ended) ∧ Below y.w'.heap.size y.w' w') := hid fun y => (ended_any (h1.below y.h)).mono fun e w' ⟨a, b⟩ => ⟨a, b.below⟩
        have F4 : ∀ y : Later w3, Calls Try.prog 24 #[.pointer (some ⟨P, 0, none⟩)] y.w' fun e w' => e = .returned (.int .i64 (s1.ready.length : Int)) ∧ Below y.w'.heap.size y.w' w' := fun y => (ready_any (h1.below y.h)).mono fun e w' ⟨a, b⟩ => ⟨a, b.below⟩
        have gR := h3.cells
        have jR0 := later_cell (cell_at gR 0 : w3.cell? ⟨R, 0, none⟩ = some (.int .u32 (s1.next : Int)))
        have cR2 : w3.cell? ⟨R, 2, none⟩ = some (.string ⟨s1.ready.toArray⟩) := cell_at gR 2
        have jR7 := later_cell (cell_at gR 7 : w3.cell? ⟨R, 7, none⟩ = some (.bool s1.ended))
        obtain ⟨SR, hSR⟩ : ∃ SR, (⟨s1.ready.toArray⟩ : ByteArray) = SR := ⟨_, rfl⟩
        have hss : SR.size = s1.ready.length := by rw [← hSR]; simp [ByteArray.size]
        rw [hSR] at cR2
        rw [← hss] at F4
        have jR2 := later_cell cR2
        have G4 := hid F4
        clear hSR hss F4 cR2 gR h1 h2 h3 h4
        go_wp2_with fail
        refine wp_region_later (by kernel_rfl) (by kernel_rfl) ?_
        repeat ((go_big_quiet_step ((first | (go_at_call 12; with_reducible exact calls_later (F1.out _)) | (go_at_call 22; with_reducible exact calls_later (F2.out _)) | (go_at_call 23; with_reducible exact calls_later (F3.out _)) | (go_at_call 24; with_reducible exact calls_later (G4.out _)) | (go_at_call 25; with_reducible exact calls_later (F5.out _)) | (go_at_call 26; with_reducible exact calls_later (F6.out _)) | (go_at_call 9; with_reducible exact calls_later (F7.out _))))))
        refine wpQuiet_nil ?_
        intro wL hwL
        obtain ⟨⟨w8, hL⟩, e8⟩ := hwL
        change wL = w8 at e8
        subst e8
        have Q4 := hid ((Q3.out.below hL).less (E' := []) (fun p hp => by cases hp))
        clear hL F1 F2 F3 F5 F6 F7 G4 jR0 jR2 jR7
        go_wp2_with fail
        exact ⟨⟨k + 1, s1, by omega, by simp, Q4.out⟩, by simp only [intOf]; omega⟩
    · have d3 : decide ((k : Int) < len) = false := decide_eq_false (by omega)
      go_wp2_with fail
      refine (works_any _).mono ?_
      rintro e w3 ⟨rfl, hb⟩
      have B3 := hid (Q.out.old.trans (hb.mono Q.out.old.size))
      clear hb
      go_wp2_with fail
      go_ret
      exact ⟨rfl, B3.out⟩
end Go.Proofs.Ytkmkgfgppblleaa
