/- A region that draws its order and whose last operations come one behind the other, each behind all before it. The reference's queue: its small functions. The reference's Put: plain facts for its last part. A region that draws its order, whose first operations read and call (what stood stays), and whose last ones come in one order alone. -/
import Derived.Test.YtkmkgfgppblleaaM04
import Derived.Deep.OwnRows
import Derived.Test.YtkmkgfgppblleaaM01
import Derived.StillTail
namespace Go.Proofs.Ytkmkgfgppblleaa
open Go Go.RowKit

section
variable {P : Program} {md : Region.Mode} {l : List Oper} {st : Oper} {Q : Exit → Act → World → Prop}

/-- What the others come to, with several operations behind them, one behind the other. -/
def beforeL (P : Program) : List Oper → List Oper → (Exit → Act → World → Prop) → Exit → Act → World → Prop
  | _, [], Q => Q
  | l, st :: rest, Q => before P l st (beforeL P (l ++ [st]) rest Q)
def peelsB (md : Region.Mode) : List Oper → List Oper → Bool
  | _, [] => true
  | l, st :: rest => peelB md l st && (st.guard.isNone && peelsB md (l ++ [st]) rest)
theorem beforeL_exit : ∀ (tail l : List Oper) (Q : Exit → Act → World → Prop) (e : Exit) (a : Act) (w : World), e ≠ .normal → beforeL P l tail Q e a w = Q e a w
  | [], _, _, _, _, _, _ => rfl
  | st :: rest, l, Q, e, a, w, h => by
    unfold beforeL
    have : before P l st (beforeL P (l ++ [st]) rest Q) e a w = beforeL P (l ++ [st]) rest Q e a w := by cases e <;> first | exact absurd rfl h | rfl
    rw [this, beforeL_exit rest _ Q e a w h]
theorem letsOutL : ∀ (tail l : List Oper) {Q : Exit → Act → World → Prop}, LetsOut Q → LetsOut (beforeL P l tail Q)
  | [], _, _, h => h
  | st :: rest, l, Q, h => by
    have := letsOutL rest (l ++ [st]) h
    exact this
theorem wp_afterL {o : Oper} {a : Act} {w : World} {K K' : Act → World → Prop} (tail l : List Oper) (hk : ∀ a w, K a w → K' a w) (hh : o.wp P a w K Q) : o.wp P a w K' (beforeL P l tail Q) := by
  have hx : ∀ e a w, e ≠ .normal → Q e a w → beforeL P l tail Q e a w := fun e a w h hq => by rw [beforeL_exit tail l Q e a w h]; exact hq
  unfold Oper.wp at *
  generalize (execOp a.eval o).run P w = r at *
  cases r with
  | ok n w' =>
    cases n <;> simp only [Oper.upon] at hh ⊢ <;>
      first
        | exact hk _ _ hh
        | exact Calls.mono hh (fun e w'' he => by cases e <;> first | exact hk _ _ he | exact hx _ _ _ (by simp) he | exact letsOutL tail l he)
        | exact Rows.mono hh (fun _ _ he => hk _ _ he)
  | halt x w' => cases x <;> simp only [Oper.upon] at hh ⊢ <;> first | exact hh | exact hx _ _ _ (by simp) hh | exact letsOutL tail l hh
theorem wpOp_last {tail rest : List Oper} {m : List Oper} (hg : st.guard.isNone = true) {a : Act} {w : World} {K' : Act → World → Prop} {ops : Array Oper} (h : wpList P ops Q (st :: tail) a w)
    (hk : ∀ a' w', wpList P ops Q tail a' w' → K' a' w') : wpOp P (l ++ [st]).toArray (beforeL P m rest Q) l.length K' a w := by
  unfold wpOp
  rw [get_last]
  unfold wpList at h
  have hgn : st.guard = none := by simpa using hg
  have hw : Region.wanted st (yielded ops a.tmps) = true := by unfold Region.wanted; rw [hgn]
  have hw2 : Region.wanted st (yielded (l ++ [st]).toArray a.tmps) = true := by unfold Region.wanted; rw [hgn]
  simp only [hw, hw2, if_true] at h ⊢
  exact h.imp (fun h => wp_afterL rest m hk h) (fun ⟨x, y⟩ => ⟨x, letsOutL rest m y⟩)
theorem beforeL_normal : ∀ (tail l : List Oper) {ops : Array Oper} {a : Act} {w : World}, peelsB md l tail = true → wpList P ops Q tail a w → beforeL P l tail Q .normal a w
  | [], _, _, _, _, _, h => h
  | st :: rest, l, ops, a, w, hp, h => by
    unfold peelsB at hp
    simp only [Bool.and_eq_true] at hp
    show wpOp P (l ++ [st]).toArray (beforeL P (l ++ [st]) rest Q) l.length _ a w
    exact wpOp_last hp.2.1 h (fun a' w' h' => beforeL_normal rest (l ++ [st]) hp.2.2 h')
theorem wpAny_peels : ∀ (tail l : List Oper) (f : Nat) (L L' : Array Bool) (a : Act) (w : World), peelsB md l tail = true → Closed md l.toArray L → L.size = l.length → (∀ i, i < l.length → L.getD i true = false) → L' = Array.replicate (l.length + tail.length) false → L = Array.replicate l.length false →
    wpAny P md l.toArray (beforeL P l tail Q) f L a w → wpAny P md (l ++ tail).toArray Q (f + tail.length) L' a w
  | [], l, f, L, L', a, w, _, _, _, _, hL', hL, h => by
    subst hL' hL
    simpa [beforeL] using h
  | st :: rest, l, f, L, L', a, w, hp, hc, hz, hn, hL', hL, h => by
    unfold peelsB at hp
    simp only [Bool.and_eq_true] at hp
    have h1 := wpAny_peel (md := md) (Q := beforeL P (l ++ [st]) rest Q) (Peel.of hp.1) f L (Array.replicate (l.length + 1) false) a w hc hz (by simp) (fun i hi => by rw [hn i hi]; simp [Nat.lt_succ_of_lt hi]) (by simp) h
    have h2 := wpAny_peels rest (l ++ [st]) (f + 1) (Array.replicate (l.length + 1) false) L' a w hp.2.2 (fun j oj _ hl => by
      have : (Array.replicate (l.length + 1) false).getD j false = false := by
        rcases Nat.lt_or_ge j (l.length + 1) with h | h <;> simp [h]
      rw [this] at hl; cases hl) (by simp) (fun i hi => by simp at hi; simp [hi]) (by rw [hL']; simp [Nat.add_assoc, Nat.add_comm 1]) (by simp) h1
    rw [List.append_assoc] at h2
    simpa [Nat.add_assoc, Nat.add_comm 1] using h2
/-- The law on private operations, with several operations behind all, one behind the other. -/
theorem wp_region_gho_tail {id : Nat} {a : Act} {w : World} {l' : List Oper} (n : Nat) (pv : List Nat) (Rel : Nat → Value → World → Prop) (hm : P.follows .mixedOrders = true) (hB : Region.lexB .any (l'.take n).toArray = true) (hP : privB (l'.take n).toArray pv = true)
    (hpl : peelsB .any (l'.take n) (l'.drop n) = true) (hR : ∀ p u w w', Rel p u w → Below w.heap.size w w' → Rel p u w')
    (h : wpGho P (l'.take n).toArray pv Rel (fun w' => ∃ x : Later w, w' = x.w') (Post1 pv Rel) (fun a' => ∀ g w', (∃ x : Later w, w' = x.w') → (∀ p ∈ pv, Rel p (g p) w') → wpList P l'.toArray Q (l'.drop n) (over (l'.take n).toArray pv g a') w') 0 (l'.take n) a) : (Code.region id l'.toArray true).wp P Q a w := by
  have hl : l' = l'.take n ++ l'.drop n := (List.take_append_drop n l').symm
  generalize l'.drop n = tail at *
  generalize l'.take n = l at *
  subst hl
  simp only [Region.lexB, Bool.and_eq_true] at hB
  refine wp_region_any hm ?_
  have hp := Priv.of hP
  have h' : wpGho P l.toArray pv Rel (fun w' => ∃ x : Later w, w' = x.w') (Post1 pv Rel) (fun a' => ∀ g w', (∃ x : Later w, w' = x.w') → (∀ p ∈ pv, Rel p (g p) w') → beforeL P l tail Q .normal (over l.toArray pv g a') w') 0 l a := by
    refine (?_ : ∀ (k : Nat) (m : List Oper) (b : Act), wpGho P l.toArray pv Rel (fun w' => ∃ x : Later w, w' = x.w') (Post1 pv Rel) _ k m b → wpGho P l.toArray pv Rel (fun w' => ∃ x : Later w, w' = x.w') (Post1 pv Rel) _ k m b) 0 l a h
    intro k m
    induction m generalizing k with
    | nil =>
      intro b hb g w' hw hr
      exact beforeL_normal tail l hpl (hb g w' hw hr)
    | cons o m ih =>
      rintro b ⟨v, h1, h2⟩
      exact ⟨v, h1, ih _ _ h2⟩
  have hx := wpAnyG_lex (P := P) (pv := pv) (Rel := Rel) (C := fun w' => ∃ x : Later w, w' = x.w') hp hB.1 l 0 (Array.replicate l.toArray.size false) a (by simp) (by simp) (fun j hj => absurd hj (Nat.not_lt_zero _)) (by simpa using hB.2) h'
  have hf : ∀ m j, (Array.replicate m false).getD j false = false := fun m j => by
    rcases Nat.lt_or_ge j m with h | h
    · simp [h]
    · simp [h]
  have hy := wpAny_of_gho (P := P) (ops := l.toArray) (pv := pv) (Rel := Rel) (C := fun w' => ∃ x : Later w, w' = x.w') (Post := Post1 pv Rel) hp (Region.noSelect_spec hB.1) (Q' := beforeL P l tail Q) l.length (fun _ _ => True)
    (fun hm => by obtain ⟨o, _, ho, _⟩ := hp.has _ hm; simp at ho) (fun o ho => by simp at ho) (fun listed hz _ hl => by
      have hz' : listed.size = l.length := by simpa using hz
      simp [Array.getElem?_eq_none (xs := listed) (i := l.length) (by omega)] at hl) (fun w1 w2 ⟨x, hx⟩ hb => by
      subst hx; exact ⟨⟨w2, below_to x.h hb⟩, rfl⟩) hR (fun _ _ _ _ _ => trivial) (fun _ _ _ _ _ _ _ h => h) (fun hlt => by simp at hlt) (fun g a w' hw _ hr hq => hq g w' hw (hr (by simp))) _ _ _ (fun _ => undef) a w.drew (fun j oj _ hl => by rw [hf] at hl; cases hl)
    ⟨rfl, rfl, fun t _ => by
      unfold valAt
      have : (pv.find? fun p => (Array.replicate l.toArray.size false).getD p false && dstOf l.toArray p == some t) = none := by
        rw [List.find?_eq_none]; intro p _; rw [hf]; simp
      rw [this]⟩ ⟨⟨w.drew, (Below.refl _ _).drew⟩, rfl⟩ (fun _ => trivial) (fun _ p _ hl => by rw [hf] at hl; cases hl) (by simp) hx
  have hz := wpAny_peels (md := .any) tail l _ _ (Array.replicate (l.length + tail.length) false) a w.drew hpl (fun j oj _ hl => by rw [hf] at hl; cases hl) (by simp) (fun i hi => by simp [hi]) rfl (by simp) hy
  simpa using hz
end

end Go.Proofs.Ytkmkgfgppblleaa

namespace Go.Proofs.Ytkmkgfgppblleaa
open Go.RowKit FL

/-- A row of bools. -/
def isV (l : List (Option UInt8)) : Array Value := (l.map fun x => Value.bool x.isSome).toArray
theorem isV_size (l : List (Option UInt8)) : (isV l).size = l.length := by simp [isV]
theorem isV_get {l : List (Option UInt8)} {j : Nat} (h : j < l.length) : (isV l)[j]? = some (.bool (l.getD j none).isSome) := by
  unfold isV
  simp [h]
theorem isV_set (l : List (Option UInt8)) (j : Nat) (b : Option UInt8) : (isV l).setIfInBounds j (.bool b.isSome) = isV (l.set j b) := by
  unfold isV
  rw [List.setIfInBounds_toArray, List.map_set]
theorem isV_made (n : Nat) : madeCells #[.bool false] n = isV (List.replicate n none) := by
  refine Array.ext (by simp [size_madeCells, isV]) fun j h1 h2 => ?_
  simp [madeCells, isV, Nat.mod_one]
theorem u8V_made (n : Nat) : madeCells #[.int .u8 0] n = (u8s (List.replicate n 0)).toArray := by
  refine Array.ext (by simp [size_madeCells, u8s]) fun j h1 h2 => ?_
  simp [madeCells, u8s, Nat.mod_one]
theorem info_bool : (Try.prog.info? 4).map (fun i => (i.zero, i.size, i.bytes)) = some (some (.bool false), 1, 1) := by kernel_rfl

/-- The reference's queue in memory. -/
structure RAt (w : World) (R bi bb : Nat) (e : Int) (s : FS) : Prop where
  cells : hget w R = some (.cells #[.int .u32 (s.next : Int), .int .i64 (s.size : Int), .string ⟨s.ready.toArray⟩, .slice (some ⟨bi, 0, none⟩) (s.size + 1) (s.size + 1), .slice (some ⟨bb, 0, none⟩) (s.size + 1) (s.size + 1), .bool s.hasEnd, .int .i64 e, .bool s.ended] 48 (0, 0))
  is : hget w bi = some (.cells (isV s.held) 4 (0, 0))
  b : ∃ B, B.length = s.size + 1 ∧ hget w bb = some (.cells (u8s B).toArray 5 (0, 0)) ∧ ∀ i c, s.held.getD i none = some c → B.getD i 0 = c
  ne1 : R ≠ bi
  ne2 : R ≠ bb
  ne3 : bi ≠ bb
  fin : s.hasEnd = true → s.ended = false → e = (s.endo : Int)
def REx (R bi bb : Nat) (k : Nat) : Prop := k = R ∨ k = bi ∨ k = bb
section
variable {w w' : World} {R bi bb : Nat} {e : Int} {s : FS}
theorem RAt.keep (h : RAt w R bi bb e s) (hk : ∀ b o, REx R bi bb b → hget w b = some o → hget w' b = some o) : RAt w' R bi bb e s := by
  obtain ⟨B, h1, h2, h3⟩ := h.b
  exact ⟨hk R _ (.inl rfl) h.cells, hk bi _ (.inr (.inl rfl)) h.is, ⟨B, h1, hk bb _ (.inr (.inr rfl)) h2, h3⟩, h.ne1, h.ne2, h.ne3, h.fin⟩
theorem RAt.out {ex : Nat → Prop} (h : RAt w R bi bb e s) (ho : Out ex w w') (hn : ∀ k, REx R bi bb k → ¬ ex k) : RAt w' R bi bb e s := h.keep fun b _ hb hg => ho.get hg (hn b hb)
theorem RAt.dr (h : RAt w R bi bb e s) (hd : Dr w w') : RAt w' R bi bb e s := h.out (ex := fun _ => False) (Out.of_dr hd) fun _ _ e => e
theorem RAt.below (h : RAt w R bi bb e s) (hd : Below w.heap.size w w') : RAt w' R bi bb e s := h.out (ex := fun _ => False) (Out.of_below hd) fun _ _ e => e
theorem RAt.lt (h : RAt w R bi bb e s) (k : Nat) (hk : REx R bi bb k) : k < w.heap.size := by
  obtain ⟨B, h1, h2, h3⟩ := h.b
  rcases hk with rfl | rfl | rfl
  · exact hget_lt h.cells
  · exact hget_lt h.is
  · exact hget_lt h2

set_option maxHeartbeats 400000 in
theorem rless_any (x y : Nat) (w : World) : Calls Try.prog 15 #[.int .u32 (x : Int), .int .u32 (y : Int)] w fun e w' => e = .returned (.bool (lessB x y)) ∧ Dr w w' := by
  go_enter Try.func15, Try.ntmps15
  go_wp2
  all_goals (go_ret; refine ⟨?_, Dr.refl _⟩; simp only [Array.getD, lessB]; simp; try omega)

set_option maxHeartbeats 400000 in
theorem rin_any (x f n : Nat) (w : World) (hf : f < 4294967296) : Calls Try.prog 17 #[.int .u32 (x : Int), .int .u32 (f : Int), .int .u32 (n : Int)] w fun e w' => e = .returned (.bool (decide (ofs x f < n))) ∧ Dr w w' := by
  have h1 := ofs_int x f hf
  go_enter Try.func17, Try.ntmps17
  go_wp2
  go_ret
  exact ⟨rfl, Dr.refl _⟩

set_option maxHeartbeats 400000 in
theorem rmay_any (n : Int) (w : World) : Calls Try.prog 18 #[.int .i64 n] w fun e w' => e = .returned (.bool (decide (1 ≤ n) && decide (n ≤ 65536))) ∧ Dr w w' := by
  by_cases h : 1 ≤ n
  · have d1 : decide (1 ≤ n) = true := decide_eq_true h
    go_enter Try.func18, Try.ntmps18
    go_wp2
    go_ret
    first | exact ⟨rfl, Dr.refl _⟩ | (rw [d1]; exact ⟨rfl, Dr.refl _⟩)
  · have d1 : decide (1 ≤ n) = false := decide_eq_false h
    go_enter Try.func18, Try.ntmps18
    go_wp2
    go_ret
    first | exact ⟨rfl, Dr.refl _⟩ | (rw [d1]; exact ⟨rfl, Dr.refl _⟩)

set_option maxHeartbeats 400000 in
theorem rwindow_any (hq : RAt w R bi bb e s) (h1 : s.ready.length ≤ s.size) (h2 : s.size ≤ 65536) : Calls Try.prog 23 #[.pointer (some ⟨R, 0, none⟩)] w fun r w' => r = .returned (.int .i64 (s.win : Int)) ∧ Dr w w' := by
  have gR := hq.cells
  have cR0 : w.cell? ⟨R, 0, none⟩ = some (.int .u32 (s.next : Int)) := cell_at gR 0
  have cR1 : w.cell? ⟨R, 1, none⟩ = some (.int .i64 (s.size : Int)) := cell_at gR 1
  have cR2 : w.cell? ⟨R, 2, none⟩ = some (.string ⟨s.ready.toArray⟩) := cell_at gR 2
  have cR3 : w.cell? ⟨R, 3, none⟩ = some (.slice (some ⟨bi, 0, none⟩) (s.size + 1) (s.size + 1)) := cell_at gR 3
  have cR4 : w.cell? ⟨R, 4, none⟩ = some (.slice (some ⟨bb, 0, none⟩) (s.size + 1) (s.size + 1)) := cell_at gR 4
  have cR5 : w.cell? ⟨R, 5, none⟩ = some (.bool s.hasEnd) := cell_at gR 5
  have cR6 : w.cell? ⟨R, 6, none⟩ = some (.int .i64 e) := cell_at gR 6
  have cR7 : w.cell? ⟨R, 7, none⟩ = some (.bool s.ended) := cell_at gR 7
  have fR := free_at gR
  have hsz : (⟨s.ready.toArray⟩ : ByteArray).size = s.ready.length := by simp [ByteArray.size]
  go_enter Try.func23, Try.ntmps23
  go_wp2_with fail
  · go_ret
    refine ⟨?_, Dr.refl _⟩
    unfold FS.win
    simp only [*, if_true]
    rfl
  · go_quiet (fail)
    go_wp2
    go_ret
    refine ⟨?_, (Dr.refl _).drewN _⟩
    unfold FS.win
    simp only [*, Bool.false_eq_true, if_false]
    show Ending.returned (Value.int .i64 _) = _
    congr 2
    omega

/-- How many of the first k are held. -/
theorem count_step (l : List (Option UInt8)) (k : Nat) (hk : k < l.length) : ((l.take (k + 1)).countP Option.isSome) = (l.take k).countP Option.isSome + (if (l.getD k none).isSome then 1 else 0) := by
  rw [List.take_succ_eq_append_getElem hk, List.countP_append, List.getD_eq_getElem?_getD, List.getElem?_eq_getElem hk]
  simp [List.countP_cons]

set_option maxHeartbeats 1000000 in
theorem rheld_any (hq : RAt w R bi bb e s) (hs : Inv s) : Calls Try.prog 26 #[.pointer (some ⟨R, 0, none⟩)] w fun r w' => r = .returned (.int .i64 (s.cnt : Int)) ∧ Dr w w' := by
  have gR := hq.cells
  have cR0 : w.cell? ⟨R, 0, none⟩ = some (.int .u32 (s.next : Int)) := cell_at gR 0
  have cR1 : w.cell? ⟨R, 1, none⟩ = some (.int .i64 (s.size : Int)) := cell_at gR 1
  have cR2 : w.cell? ⟨R, 2, none⟩ = some (.string ⟨s.ready.toArray⟩) := cell_at gR 2
  have cR3 : w.cell? ⟨R, 3, none⟩ = some (.slice (some ⟨bi, 0, none⟩) (s.size + 1) (s.size + 1)) := cell_at gR 3
  have cR4 : w.cell? ⟨R, 4, none⟩ = some (.slice (some ⟨bb, 0, none⟩) (s.size + 1) (s.size + 1)) := cell_at gR 4
  have cR5 : w.cell? ⟨R, 5, none⟩ = some (.bool s.hasEnd) := cell_at gR 5
  have cR6 : w.cell? ⟨R, 6, none⟩ = some (.int .i64 e) := cell_at gR 6
  have cR7 : w.cell? ⟨R, 7, none⟩ = some (.bool s.ended) := cell_at gR 7
  have fR := free_at gR
  have hlen := hs.len
  have hz := hs.size
  have gI := hq.is
  have HQ := hid hq
  clear hq hs
  go_enter Try.func26, Try.ntmps26
  go_wp2_with fail
  go_loopw [3, 4] (fun n i wr => ∃ k : Nat, k ≤ s.size + 1 ∧ i = .int .i64 (k : Int) ∧ n = .int .i64 (((s.held.take k).countP Option.isSome : Nat) : Int) ∧ wr = w) (fun _ i _ => ((s.size : Int) + 1 - intOf i).toNat)
  case atStart => exact ⟨0, by omega, rfl, by simp, rfl⟩
  case round =>
    obtain ⟨k, hk, rfl, rfl, rfl⟩ := hrel
    have hcl := List.countP_le_length (p := Option.isSome) (l := s.held.take k)
    rw [List.length_take] at hcl
    obtain ⟨n, hn⟩ : ∃ n, (s.held.take k).countP Option.isSome = n := ⟨_, rfl⟩
    rw [hn] at hcl ⊢
    by_cases hkl : k < s.size + 1
    · have dk : decide ((k : Int) < (s.size : Int) + 1) = true := decide_eq_true (by omega)
      have hk0 : 0 ≤ (k : Int) := by omega
      have hk1 : (k : Int) < (s.size : Int) + 1 := by omega
      have hst := count_step s.held k (by omega)
      rw [hn] at hst
      obtain ⟨b, hb⟩ : ∃ b, (s.held.getD k none).isSome = b := ⟨_, rfl⟩
      have cI : wr.cell? ⟨bi, k, none⟩ = some (.bool b) := by rw [cell_at gI, isV_get (by omega), hb]
      rw [hb] at hst
      have HST := hid hst
      clear hb hst hn
      cases b
      · go_wp2_with fail
        exact ⟨⟨k + 1, by omega, by simp, by rw [HST.out]; simp, trivial⟩, by simp only [intOf]; omega⟩
      · go_wp2_with fail
        exact ⟨⟨k + 1, by omega, by simp, by rw [HST.out]; simp, trivial⟩, by simp only [intOf]; omega⟩
    · have dk : decide ((k : Int) < (s.size : Int) + 1) = false := decide_eq_false (by omega)
      have hk' : s.held.take k = s.held := List.take_of_length_le (by omega)
      rw [hk'] at hn
      have HN := hid hn
      clear hn
      go_wp2_with fail
      go_ret
      refine ⟨?_, Dr.refl _⟩
      show Ending.returned (Value.int .i64 (n : Int)) = _
      rw [← HN.out]; rfl

set_option maxHeartbeats 1000000 in
theorem rread_any (hq : RAt w R bi bb e s) (hs : Inv s) (most : Int) : Calls Try.prog 20 #[.pointer (some ⟨R, 0, none⟩), .int .i64 most] w fun r w' => r = .returned (.string ⟨(s.ready.take (readN s most)).toArray⟩) ∧ RAt w' R bi bb e (read s most) ∧ Out (REx R bi bb) w w' := by
  have gR := hq.cells
  have hroom := hs.room
  have hsz := hs.size
  have hN : min (max most 0) (s.ready.length : Int) = ((readN s most : Nat) : Int) := by unfold readN; omega
  have hNl : readN s most ≤ s.ready.length := by unfold readN; omega
  have HRD := hid (show FL.read s most = { s with ready := s.ready.drop (readN s most) } from rfl)
  generalize readN s most = N at *
  have cR0 : w.cell? ⟨R, 0, none⟩ = some (.int .u32 (s.next : Int)) := cell_at gR 0
  have cR1 : w.cell? ⟨R, 1, none⟩ = some (.int .i64 (s.size : Int)) := cell_at gR 1
  have cR2 : w.cell? ⟨R, 2, none⟩ = some (.string ⟨s.ready.toArray⟩) := cell_at gR 2
  have cR3 : w.cell? ⟨R, 3, none⟩ = some (.slice (some ⟨bi, 0, none⟩) (s.size + 1) (s.size + 1)) := cell_at gR 3
  have cR4 : w.cell? ⟨R, 4, none⟩ = some (.slice (some ⟨bb, 0, none⟩) (s.size + 1) (s.size + 1)) := cell_at gR 4
  have cR5 : w.cell? ⟨R, 5, none⟩ = some (.bool s.hasEnd) := cell_at gR 5
  have cR6 : w.cell? ⟨R, 6, none⟩ = some (.int .i64 e) := cell_at gR 6
  have cR7 : w.cell? ⟨R, 7, none⟩ = some (.bool s.ended) := cell_at gR 7
  have fR := free_at gR
  have HQ := hid hq
  clear hq
  obtain ⟨L, hL⟩ : ∃ L, s.ready.length = L := ⟨_, rfl⟩
  have hs2 : (⟨s.ready.toArray⟩ : ByteArray).size = L := by rw [← hL]; simp [ByteArray.size]
  have e1 : (⟨s.ready.toArray⟩ : ByteArray).extract 0 N = ⟨(s.ready.take N).toArray⟩ := by
    apply ByteArray.ext; apply Array.ext'; simp [ByteArray.data_extract, List.extract]
  have e2 : (⟨s.ready.toArray⟩ : ByteArray).extract N L = ⟨(s.ready.drop N).toArray⟩ := by
    apply ByteArray.ext; apply Array.ext'
    simp only [ByteArray.data_extract, Array.toList_extract, List.extract]
    exact List.take_of_length_le (by rw [List.length_drop]; omega)
  have E1 := hid e1
  have E2 := hid e2
  clear e1 e2
  obtain ⟨sb, hsb⟩ : ∃ sb, (⟨s.ready.toArray⟩ : ByteArray) = sb := ⟨_, rfl⟩
  rw [hsb] at cR2 hs2 E1 E2
  rw [hL] at hN hNl
  clear hL
  go_enter Try.func20, Try.ntmps20
  go_wp2_with fail
  go_ret
  rw [E1.out, E2.out, HRD.out]
  have hq := HQ.out
  have g1 := hget_setCell gR 2 (.string ⟨(s.ready.drop N).toArray⟩)
  obtain ⟨B, h1, h2, h3⟩ := hq.b
  exact ⟨rfl, ⟨g1, hget_setCell_ne hq.is (p := ⟨R, 2, none⟩) (Ne.symm hq.ne1) _, ⟨B, h1, hget_setCell_ne h2 (p := ⟨R, 2, none⟩) (Ne.symm hq.ne2) _, h3⟩, hq.ne1, hq.ne2, hq.ne3, hq.fin⟩, (Out.refl (REx R bi bb) w).setCell (p := ⟨R, 2, none⟩) (.inl (Or.inl rfl)) _⟩

set_option maxHeartbeats 1000000 in
theorem rnew_any (x n : Nat) (w : World) (_hx : x < 4294967296) (h : 1 ≤ n ∧ n ≤ 65536) : Calls Try.prog 19 #[.int .u32 (x : Int), .int .i64 (n : Int)] w fun r w' => ∃ R bi bb, r = .returned (.pointer (some ⟨R, 0, none⟩)) ∧ RAt w' R bi bb 0 (new x n) ∧ Below w.heap.size w w' ∧ (∀ k, REx R bi bb k → w.heap.size ≤ k) := by
  have hmk := run_make_row' (P := Try.prog) 30 4 (.bool false) 1 Try.underlying30 info_bool rfl .i64 .i64 (n + 1) (by omega) (by omega)
  have hmk2 := run_make_row' (P := Try.prog) 24 5 (.int .u8 0) 1 Try.underlying24 info_u8 rfl .i64 .i64 (n + 1) (by omega) (by omega)
  rw [isV_made, Int.natCast_add, Int.natCast_one] at hmk
  rw [u8V_made, Int.natCast_add, Int.natCast_one] at hmk2
  go_enter Try.func19, Try.ntmps19
  go_wp2_with fail
  refine wp_region_gho_tail 8 [4, 7] (fun p u w' => ∃ b, w.heap.size ≤ b ∧ u = .slice (some ⟨b, 0, none⟩) (n + 1) (n + 1) ∧ hget w' b = some (if p = 4 then .cells (isV (List.replicate (n + 1) none)) 4 (0, 0) else .cells (u8s (List.replicate (n + 1) 0)).toArray 5 (0, 0))) (by kernel_rfl) (by kernel_rfl) (by kernel_rfl) (by kernel_rfl) (fun p u w w' ⟨b, h0, h1, h2⟩ hb => ⟨b, h0, h1, keepB hb h2⟩) ?_
  simp only [List.take_succ_cons, List.take_zero, List.drop_succ_cons, List.drop_zero]
  repeat (first | (refine wpGho_plain (by kernel_rfl) (by decide) (by rfl) (by rfl) (fun K hK => ?_); go_simp; refine hK _ ?_; clear hK K; try go_ints))
  refine wpGho_make (by kernel_rfl) (by decide) (by rfl) (by rfl) (by rfl) (fun K hK => ?_)
  go_simp
  refine ⟨fun x => ⟨below_new _, _, x.h.size, rfl, alloc_at _ _⟩, hK _ ?_⟩
  clear hK K
  try simp only [Act.put, List.setIfInBounds_toArray, List.set_cons_zero, List.set_cons_succ]
  repeat (first | (refine wpGho_plain (by kernel_rfl) (by decide) (by rfl) (by rfl) (fun K hK => ?_); go_simp; refine hK _ ?_; clear hK K; try go_ints))
  refine wpGho_make (by kernel_rfl) (by decide) (by rfl) (by rfl) (by rfl) (fun K hK => ?_)
  go_simp
  refine ⟨fun x => ⟨below_new _, _, x.h.size, rfl, alloc_at _ _⟩, hK _ ?_⟩
  clear hK K
  try simp only [Act.put, List.setIfInBounds_toArray, List.set_cons_zero, List.set_cons_succ]
  refine wpGho_nil ?_
  intro g wM hwM hR
  obtain ⟨⟨w8, hM⟩, e8⟩ := hwM
  change wM = w8 at e8
  subst e8
  obtain ⟨b4, h40, h41, h42⟩ := hR 4 (by decide)
  obtain ⟨b7, h70, h71, h72⟩ := hR 7 (by decide)
  rw [show ∀ a, over _ [4, 7] g a = Act.put (Act.put a (some 9) (g 4)) (some 12) (g 7) from fun _ => rfl, h41, h71]
  simp only [Act.put, List.setIfInBounds_toArray, List.set_cons_zero, List.set_cons_succ]
  rw [if_pos rfl] at h42
  rw [if_neg (by decide)] at h72
  have hne : b4 ≠ b7 := fun e => by
    rw [e, h72] at h42
    injection h42 with h42
    injection h42 with _ h42
    exact absurd h42 (by decide)
  have HM := hid hM
  have H4 := hid h42
  have H7 := hid h72
  clear hR h41 h71 h42 h72 hM
  go_wp2_with fail
  go_ret
  have l4 := hget_lt H4.out
  have l7 := hget_lt H7.out
  refine ⟨wM.heap.size, b4, b7, rfl, ⟨alloc_at _ _, keepB (below_new _) H4.out, ⟨List.replicate (n + 1) 0, by simp [new], keepB (below_new _) H7.out, fun i c hc => ?_⟩, by omega, by omega, hne, fun h => by cases h⟩, below_alloc HM.out _, fun k hk => ?_⟩
  · change (List.replicate (n + 1) (none : Option UInt8)).getD i none = some c at hc
    rw [List.getD_eq_getElem?_getD, List.getElem?_replicate] at hc
    split at hc <;> cases hc
  · have := HM.out.size
    rcases hk with rfl | rfl | rfl <;> omega
end
end Go.Proofs.Ytkmkgfgppblleaa

namespace Go.Proofs.Ytkmkgfgppblleaa
open Go.RowKit FL

/-- The row while it is moved: the first k bytes are moved already. -/
def shiftK (l : List (Option UInt8)) (n k : Nat) : List (Option UInt8) := (l.drop n ++ List.replicate n none).take k ++ l.drop k
theorem shiftK_zero (l : List (Option UInt8)) (n : Nat) : shiftK l n 0 = l := by simp [shiftK]
theorem moved_len {l : List (Option UInt8)} {n : Nat} (h : n ≤ l.length) : (l.drop n ++ List.replicate n none).length = l.length := by
  rw [List.length_append, List.length_drop, List.length_replicate]; omega
theorem shiftK_len {l : List (Option UInt8)} {n k : Nat} (h : n ≤ l.length) (hk : k ≤ l.length) : (shiftK l n k).length = l.length := by
  unfold shiftK
  rw [List.length_append, List.length_take, moved_len h, List.length_drop]; omega
theorem shiftK_all {l : List (Option UInt8)} {n : Nat} (h : n ≤ l.length) : shiftK l n l.length = l.drop n ++ List.replicate n none := by
  unfold shiftK
  rw [List.drop_length, List.append_nil, List.take_of_length_le (by rw [moved_len h]; exact Nat.le_refl _)]
theorem shiftK_get {l : List (Option UInt8)} {n k i : Nat} (h : n ≤ l.length) (hk : k ≤ l.length) (hi : k ≤ i) : (shiftK l n k).getD i none = l.getD i none := by
  unfold shiftK
  have hl : ((l.drop n ++ List.replicate n none).take k).length = k := by rw [List.length_take, moved_len h]; omega
  rw [List.getD_eq_getElem?_getD, List.getElem?_append_right (by omega), hl, List.getElem?_drop, Nat.add_sub_cancel' hi, ← List.getD_eq_getElem?_getD]
theorem shiftK_step {l : List (Option UInt8)} {n k : Nat} (h : n ≤ l.length) (hk : k < l.length) : shiftK l n (k + 1) = (shiftK l n k).set k (l.getD (k + n) none) := by
  have hl : ((l.drop n ++ List.replicate n none).take k).length = k := by rw [List.length_take, moved_len h]; omega
  have hk2 : k < (l.drop n ++ List.replicate n none).length := by rw [moved_len h]; exact hk
  unfold shiftK
  rw [List.set_append_right _ _ (by omega), hl, Nat.sub_self, List.take_succ_eq_append_getElem hk2, List.append_assoc]
  congr 1
  have e1 : (l.drop n ++ List.replicate n none)[k] = l.getD (k + n) none := by
    rw [← getD_shift, List.getD_eq_getElem?_getD, List.getElem?_eq_getElem hk2]; rfl
  rw [e1, List.drop_eq_getElem_cons hk]
  rfl
section
variable {w : World} {R bi bb : Nat} {e : Int} {s : FS}
/-- A byte that is not held. -/
theorem RAt.unlay {l : List (Option UInt8)} (h : RAt w R bi bb e { s with held := l }) (A : Nat) : RAt (w.setCell ⟨bi, A, none⟩ (.bool false)) R bi bb e { s with held := l.set A none } := by
  obtain ⟨B, h1, h2, h3⟩ := h.b
  have g1 := hget_setCell_ne h.cells (p := ⟨bi, A, none⟩) h.ne1 (.bool false)
  have g2 := hget_setCell h.is A (.bool false)
  have g3 := hget_setCell_ne h2 (p := ⟨bi, A, none⟩) (Ne.symm h.ne3) (.bool false)
  have e2 := isV_set l A none
  change (isV l).setIfInBounds A (.bool false) = _ at e2
  rw [e2] at g2
  refine ⟨g1, g2, ⟨B, h1, g3, fun i c hc => ?_⟩, h.ne1, h.ne2, h.ne3, h.fin⟩
  change (l.set A none).getD i none = some c at hc
  rw [getD_set] at hc
  split at hc
  · cases hc
  · exact h3 i c hc
theorem RAt.ready' (h : RAt w R bi bb e s) (t : List UInt8) : RAt (w.setCell ⟨R, 2, none⟩ (.string ⟨t.toArray⟩)) R bi bb e { s with ready := t } := by
  obtain ⟨B, h1, h2, h3⟩ := h.b
  have n1 : bi ≠ R := Ne.symm h.ne1
  have n2 : bb ≠ R := Ne.symm h.ne2
  exact ⟨hget_setCell h.cells 2 _, hget_setCell_ne h.is (p := ⟨R, 2, none⟩) n1 _, ⟨B, h1, hget_setCell_ne h2 (p := ⟨R, 2, none⟩) n2 _, h3⟩, h.ne1, h.ne2, h.ne3, h.fin⟩
/-- What is told at the end. -/
theorem RAt.told (h : RAt w R bi bb e s) {nx eo : Nat} {e' : Int} {dn : Bool} {w' : World} (hw : hget w' R = some (.cells #[.int .u32 (nx : Int), .int .i64 (s.size : Int), .string ⟨s.ready.toArray⟩, .slice (some ⟨bi, 0, none⟩) (s.size + 1) (s.size + 1), .slice (some ⟨bb, 0, none⟩) (s.size + 1) (s.size + 1), .bool s.hasEnd, .int .i64 e', .bool dn] 48 (0, 0)))
    (ho : Out (· = R) w w') (hf : s.hasEnd = true → dn = false → e' = (eo : Int)) : RAt w' R bi bb e' { s with next := nx, endo := eo, ended := dn } := by
  obtain ⟨B, h1, h2, h3⟩ := h.b
  exact ⟨hw, ho.get h.is (Ne.symm h.ne1), ⟨B, h1, ho.get h2 (Ne.symm h.ne2), h3⟩, h.ne1, h.ne2, h.ne3, hf⟩
theorem RAt.byte (h : RAt w R bi bb e s) {i : Nat} {c : UInt8} (hc : s.held.getD i none = some c) (hi : i < s.size + 1) : w.cell? ⟨bb, i, none⟩ = some (.int .u8 (c.toNat : Int)) := by
  obtain ⟨B, h1, h2, h3⟩ := h.b
  rw [cell_at h2]
  have := h3 i c hc
  unfold u8s
  have hl : i < B.length := by omega
  rw [List.getD_eq_getElem?_getD, List.getElem?_eq_getElem hl] at this
  have h9 : B[i] = c := by simpa using this
  simp [hl, h9]
theorem RAt.is_at (h : RAt w R bi bb e s) {i : Nat} (hi : i < s.held.length) : w.cell? ⟨bi, i, none⟩ = some (.bool (s.held.getD i none).isSome) := by
  rw [cell_at h.is, isV_get hi]
theorem RAt.drew (h : RAt w R bi bb e s) : RAt w.drew R bi bb e s := h.dr ⟨1, rfl⟩
/-- What is held next, as a text. -/
theorem RAt.text (h : RAt w R bi bb e s) (hl : s.held.length = s.size + 1) {n : Nat} (hn : ∀ i, i < n → (s.held.getD i none).isSome = true) (hns : n ≤ s.size + 1) :
    (convert 24 9 (.slice (some ⟨bb, 0, none⟩) n (s.size + 1))).run Try.prog w = .ok (.string ⟨(FL.bytes (s.held.take n)).toArray⟩) w := by
  have key : ∀ m, m ≤ n → (FL.bytes (s.held.take m)).length = m ∧ ∀ j, j < m → w.cell? ⟨bb, j, none⟩ = some (.int .u8 (((FL.bytes (s.held.take m)).getD j 0).toNat : Int)) := by
    intro m
    induction m with
    | zero => exact fun _ => ⟨by simp [FL.bytes], fun j hj => absurd hj (by omega)⟩
    | succ m ih =>
      intro hm
      obtain ⟨h1, h2⟩ := ih (by omega)
      obtain ⟨c, hc⟩ := Option.isSome_iff_exists.1 (hn m (by omega))
      have hml : m < s.held.length := by omega
      have e : FL.bytes (s.held.take (m + 1)) = FL.bytes (s.held.take m) ++ [c] := by
        unfold FL.bytes
        rw [List.take_succ_eq_append_getElem hml, List.filterMap_append]
        rw [List.getD_eq_getElem?_getD, List.getElem?_eq_getElem hml] at hc
        have hc' : s.held[m] = some c := by simpa using hc
        rw [hc']
        rfl
      refine ⟨by rw [e, List.length_append, h1]; rfl, fun j hj => ?_⟩
      rw [e]
      rcases Nat.lt_or_ge j m with h3 | h3
      · rw [h2 j h3, List.getD_eq_getElem?_getD, List.getD_eq_getElem?_getD, List.getElem?_append_left (by omega)]
      · have : j = m := by omega
        subst this
        rw [h.byte hc (by omega), List.getD_eq_getElem?_getD, List.getElem?_append_right (by omega), h1, Nat.sub_self]
        rfl
  obtain ⟨h1, h2⟩ := key n (Nat.le_refl _)
  exact conv_string w bb 0 n (s.size + 1) _ h1 (fun j hj => by rw [Nat.zero_add]; exact h2 j hj)
end
theorem str_app (a b : List UInt8) : (⟨a.toArray⟩ : ByteArray) ++ ⟨b.toArray⟩ = ⟨(a ++ b).toArray⟩ := by
  apply ByteArray.ext
  simp
theorem move_eq {s : FS} {k : Nat} {T : List UInt8} (hk : k = lead s.held) (hT : s.ready ++ FL.bytes (s.held.take k) = T) : FL.move s = { s with next := if (s.hasEnd && decide (s.endo = k)) then ((s.next + k) % 4294967296 + 1) % 4294967296 else (s.next + k) % 4294967296, ready := T, held := s.held.drop k ++ List.replicate k none, endo := s.endo - k, ended := s.hasEnd && decide (s.endo = k) } := by
  subst hk
  subst hT
  rfl
theorem bne_cast2 {a : Int} {n m : Nat} (h : a = (n : Int)) : (a != (m : Int)) = (n != m) := by
  subst h
  by_cases e : n = m
  · subst e; simp
  · rw [bne_iff_ne.2 e, bne_iff_ne.2 (by omega)]
theorem lead_win {s : FS} (hs : Inv s) : lead s.held ≤ s.win ∧ s.win ≤ s.size := by
  refine ⟨?_, win_size hs⟩
  rcases Nat.eq_zero_or_pos (lead s.held) with h | h
  · omega
  · have := hs.held _ (lead_some s.held (lead s.held - 1) (by omega)); omega
theorem lead_end {s : FS} (hs : Inv s) (he : s.hasEnd = true) (hd : s.ended = false) : lead s.held ≤ s.endo := by
  rcases Nat.eq_zero_or_pos (lead s.held) with h | h
  · omega
  · have := (hs.behind he hd).2 _ (lead_some s.held (lead s.held - 1) (by omega)); omega
end Go.Proofs.Ytkmkgfgppblleaa

namespace Go.Proofs.Ytkmkgfgppblleaa
open Go Go.RowKit

section
variable {P : Program} {ops : Array Oper} {md : Region.Mode} {C : World → Prop}
/-- So many operations, each below n, each quiet in the class; then L. -/
def wpAnyT (P : Program) (md : Region.Mode) (ops : Array Oper) (C : World → Prop) (n : Nat) (L : Array Bool → Act → Prop) : Nat → Array Bool → Act → Prop
  | 0, listed, a => L listed a
  | f + 1, listed, a => Region.ready md ops listed ≠ [] ∧ ∀ i ∈ Region.ready md ops listed, i < n ∧ qOp P ops C i (wpAnyT P md ops C n L f (listed.setIfInBounds i true)) a
theorem wpAny_of_headT {n g : Nat} {L : Array Bool → Act → Prop} {Q' : Exit → Act → World → Prop} (hL : ∀ listed a w, C w → L listed a → wpAny P md ops Q' g listed a w) :
    ∀ (f : Nat) (listed : Array Bool) (a : Act) (w : World), C w → wpAnyT P md ops C n L f listed a → wpAny P md ops Q' (f + g) listed a w
  | 0, listed, a, w, hw, h => by rw [Nat.zero_add]; exact hL _ _ _ hw h
  | f + 1, listed, a, w, hw, h => by
    rw [show f + 1 + g = (f + g) + 1 by omega]
    exact ⟨fun h0 => absurd h0 h.1, fun i hi => wpOp_of_qOp hw (fun a' w' hw' h' => wpAny_of_headT hL f _ a' w' hw' h') (h.2 i hi).2⟩
theorem wpAnyT_first {n i : Nat} {oi : Oper} {v : Value} {L : Array Bool → Act → Prop} (hi : ops[i]? = some oi) (hsel : ∀ (j : Nat) (o : Oper) cs b, ops[j]? = some o → o.op ≠ .select cs b)
    (hs : Region.sinkB md ops n = true) (hc : Region.chainB md ops n = true) (hn : n < ops.size) (hin : i < n)
    (hdone : ∀ listed a, L listed a → ∀ j ∈ Region.ready md ops listed, n ≤ j) :
    ∀ (f : Nat) (listed : Array Bool) (a : Act), HeadInv md ops n listed →
      (∀ j oj, ops[j]? = some oj → j ≠ i → listed.getD j true = false → (∀ e ∈ oj.after, Region.binds md e = true → e.on ≠ i) → oi.apart ops oj = true) →
      i ∈ Region.ready md ops listed → YieldsIn P ops C oi v a →
      wpAnyT P md ops C n L f (listed.setIfInBounds i true) (a.put oi.dst v) → wpAnyT P md ops C n L (f + 1) listed a := by
  intro f
  have below : ∀ {listed : Array Bool}, HeadInv md ops n listed → listed.getD i true = false → ∀ j ∈ Region.ready md ops listed, j < n := fun {listed} inv hun j hj => by
    rcases Nat.lt_or_ge j n with h | h
    · exact h
    · exact absurd hj (tail_waits hs hc hn inv _ i rfl hin hun j h)
  induction f with
  | zero =>
    intro listed a inv _ hr hy H
    have hun := (mem_ready.1 hr).1
    refine ⟨fun h => (by rw [h] at hr; cases hr), fun j hj => ⟨below inv hun j hj, ?_⟩⟩
    by_cases hji : j = i
    · subst hji; exact hy.qOp hi H
    · have := hdone _ _ H j (ready_mono hj hji)
      have := below inv hun j hj
      omega
  | succ f ih =>
    intro listed a inv hfree hr hy H
    have hun := (mem_ready.1 hr).1
    refine ⟨fun h => (by rw [h] at hr; cases hr), fun j hj => ?_⟩
    have hjn := below inv hun j hj
    refine ⟨hjn, ?_⟩
    by_cases hji : j = i
    · subst hji; exact hy.qOp hi H
    · have h1 := (H.2 j (ready_mono hj hji)).2
      obtain ⟨hjun, oj, hoj, hall⟩ := mem_ready.1 hj
      have hnot : ∀ e ∈ oj.after, Region.binds md e = true → e.on ≠ i := fun e he hb heq => by
        have h1 := hall e he hb
        rw [heq, getD_both hun] at h1
        cases h1
      have h2 := qOp_put hoj (hfree j oj hoj hji hjun hnot) (fun cs b => hsel i oi cs b hi) (fun cs b => hsel j oj cs b hoj) hy h1
      have hfree' : ∀ k ok, ops[k]? = some ok → k ≠ i → (listed.setIfInBounds j true).getD k true = false →
          (∀ e ∈ ok.after, Region.binds md e = true → e.on ≠ i) → oi.apart ops ok = true := fun k ok hk hki hun hno => by
        refine hfree k ok hk hki ?_ hno
        by_cases hjk : j = k
        · subst hjk; exact hjun
        · rw [getD_set_ne true hjk] at hun; exact hun
      refine qOp_mono (fun a' h3 => ih (listed.setIfInBounds j true) a' (inv.set hj hjn) hfree' (ready_mono hr (Ne.symm hji)) h3.1 ?_) h2
      rw [Array.setIfInBounds_comm _ _ hji]
      exact h3.2
theorem wpAnyT_lex {n g : Nat} {Lq : Act → Prop} (hsel : Region.noSelect ops = true) (hs : Region.sinkB md ops n = true) (hc : Region.chainB md ops n = true) (hn : n < ops.size) :
    ∀ (l : List Oper) (k : Nat) (listed : Array Bool) (a : Act), (∀ j, j < l.length → l[j]? = ops[k + j]?) → k + l.length = n → HeadInv md ops n listed →
    Region.lexHead md ops g l.length k listed = true → wpQuiet P ops C Lq l a →
    wpAnyT P md ops C n (fun listed' a' => Region.seqB md ops g n listed' = true ∧ Lq a') l.length listed a
  | [], k, listed, a, _, hk, _, hB, h => by
    have : k = n := by simpa using hk
    subst this
    exact ⟨by simpa [Region.lexHead] using hB, h⟩
  | o :: l, k, listed, a, hl, hk, inv, hB, h => by
    have h0 : ops[k]? = some o := by simpa using (hl 0 (by simp)).symm
    simp only [List.length_cons, Region.lexHead, Bool.and_eq_true] at hB
    obtain ⟨⟨hr, hf⟩, hB'⟩ := hB
    have hkn : k < n := by simp only [List.length_cons] at hk; omega
    have hr' : k ∈ Region.ready md ops listed := by simpa using hr
    have hst : qOp P ops C k (wpQuiet P ops C Lq l) a := by unfold qOp; simp only [h0]; exact h
    obtain ⟨v, hy, hK⟩ := yieldsIn_of_qOp h0 hst
    exact wpAnyT_first h0 (Region.noSelect_spec hsel) hs hc hn hkn (fun listed' a' hL => seqB_ready hL.1) l.length listed a inv (Region.free_spec h0 hf) hr' hy
      (wpAnyT_lex hsel hs hc hn l (k + 1) _ _ (fun j hj => by have := hl (j + 1) (by simp; omega); simpa [Nat.add_assoc, Nat.add_comm 1 j] using this) (by simp only [List.length_cons] at hk; omega) (inv.set hr' hkn) hB' hK)

/-- The law: the operations before number n read and call; those from n on come one behind the other. -/
theorem wp_region_later_tail {id : Nat} {Q : Exit → Act → World → Prop} {a : Act} {w : World} {l : List Oper} (n : Nat) (hm : P.follows .mixedOrders = true) (hB : Region.lexTailB .any l.toArray n = true)
    (h : wpQuiet P l.toArray (fun w' => ∃ x : Later w, w' = x.w') (fun a' => ∀ w', (∃ x : Later w, w' = x.w') → wpList P l.toArray Q (l.drop n) a' w') (l.take n) a) : (Code.region id l.toArray true).wp P Q a w := by
  simp only [Region.lexTailB, Bool.and_eq_true, decide_eq_true_eq] at hB
  obtain ⟨⟨⟨⟨hsel, hn⟩, hs⟩, hc⟩, hlex⟩ := hB
  have hn' : n < l.length := by simpa using hn
  have htl : (l.take n).length = n := by simp; omega
  have hdl : (l.drop n).length = l.toArray.size - n := by simp
  have inv0 : HeadInv .any l.toArray n (Array.replicate l.toArray.size false) :=
    ⟨by simp, fun j oj _ hl => (by rw [getD_replicate_false] at hl; cases hl), fun t _ ht => getD_in (by simpa using ht) (getD_replicate_false _ _)⟩
  have H := wpAnyT_lex (md := .any) (g := l.toArray.size - n) hsel hs hc hn (l.take n) 0 _ a (fun j hj => by
    have hj' : j < n := by rw [htl] at hj; exact hj
    simp [hj']) (by simpa using htl) inv0 (by rw [htl]; exact hlex) h
  refine wp_region_any hm ?_
  have := wpAny_of_headT (Q' := Q) (g := l.toArray.size - n) (fun listed a' w' hw' hL => by
    have := wpAny_of_seq (md := .any) (Q' := Q) (l.drop n) n listed a' w' (fun j => by simp [List.getElem?_drop]) (by rw [hdl]; exact hL.1) (hL.2 w' hw')
    rwa [hdl] at this) _ _ _ _ (⟨⟨w.drew, (Below.refl _ _).drew⟩, rfl⟩ : ∃ x : Later w, w.drew = x.w') H
  rw [htl, show n + (l.toArray.size - n) = l.toArray.size by omega] at this
  exact this
end

end Go.Proofs.Ytkmkgfgppblleaa
