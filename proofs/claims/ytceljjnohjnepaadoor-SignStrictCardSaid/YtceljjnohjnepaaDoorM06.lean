/- A region that draws its order and whose last operation waits for all the others: the others by whatever law, then the last. The walks of the numbers: Inv, Root. Plain: what the program reckons and what the document reckons are the same modulo the prime. Plain: the numbers that are not 0 are the powers of 2; which of them have roots. The walks of the numbers: Add. Plain: the laws of a field, as the program reckons; roots. -/
import Derived.Test.YtceljjnohjnepaaDoorM05
import Derived.Test.YtceljjnohjnepaaDoorM04
import Derived.Test.YtceljjnohjnepaaDoorM01
import Derived.Test.YtceljjnohjnepaaDoorM02
import Derived.Test.YtceljjnohjnepaaDoorM03
namespace Go.Proofs.YtceljjnohjnepaaDoor
open Go Go.RowKit

section
variable {P : Program} {md : Region.Mode} {l : List Oper} {st : Oper} {Q : Exit → Act → World → Prop}

/-- What is asked of the operations. -/
structure Peel (md : Region.Mode) (l : List Oper) (st : Oper) : Prop where
  ordered : ∀ (i : Nat) (o : Oper), l[i]? = some o → ∀ e ∈ o.after, Region.binds md e = true → e.on < i
  guards : ∀ (i : Nat) (o : Oper), l[i]? = some o → ∀ j b, o.guard = some (j, b) → j < l.length
  waits : ∀ i, i < l.length → (∃ e ∈ st.after, Region.binds md e = true ∧ e.on = i) ∨ ∃ j o, i < j ∧ l[j]? = some o ∧ ∃ e ∈ o.after, Region.binds md e = true ∧ e.on = i
  stok : ∀ e ∈ st.after, Region.binds md e = true → e.on < l.length
def peelB (md : Region.Mode) (l : List Oper) (st : Oper) : Bool :=
  ((List.range l.length).all fun i => match l[i]? with
    | some o => (o.after.toList.all fun e => !Region.binds md e || decide (e.on < i)) && (match o.guard with | some (j, _) => decide (j < l.length) | none => true)
    | none => true) &&
  ((List.range l.length).all fun i => (st.after.toList.any fun e => Region.binds md e && e.on == i) || (List.range l.length).any fun j => decide (i < j) && (match l[j]? with | some o => o.after.toList.any fun e => Region.binds md e && e.on == i | none => false)) && (st.after.toList.all fun e => !Region.binds md e || decide (e.on < l.length))
set_option maxRecDepth 100000 in
theorem Peel.of (h : peelB md l st = true) : Peel md l st := by
  unfold peelB at h
  simp only [Bool.and_eq_true, List.all_eq_true, List.mem_range] at h
  obtain ⟨⟨h1, h2⟩, h3⟩ := h
  have g1 : ∀ (i : Nat) (o : Oper), l[i]? = some o → (∀ e ∈ o.after, Region.binds md e = true → e.on < i) ∧ ∀ j b, o.guard = some (j, b) → j < l.length := fun i o ho => by
    have hi : i < l.length := (List.getElem?_eq_some_iff.1 ho).1
    have h4 := h1 i hi
    rw [ho] at h4
    simp only [Bool.and_eq_true, List.all_eq_true] at h4
    refine ⟨fun e he hb => ?_, fun j b hg => ?_⟩
    · have := h4.1 e (Array.mem_toList_iff.2 he)
      simpa [hb] using this
    · have := h4.2
      rw [hg] at this
      simpa using this
  refine ⟨fun i o ho => (g1 i o ho).1, fun i o ho => (g1 i o ho).2, fun i hi => ?_, fun e he hb => ?_⟩
  · rcases Bool.or_eq_true_iff.1 (h2 i hi) with h4 | h4
    · obtain ⟨e, he, hb⟩ := List.any_eq_true.1 h4
      simp only [Bool.and_eq_true, beq_iff_eq] at hb
      exact .inl ⟨e, Array.mem_toList_iff.1 he, hb.1, hb.2⟩
    · obtain ⟨j, hj, hb⟩ := List.any_eq_true.1 h4
      simp only [Bool.and_eq_true, decide_eq_true_eq] at hb
      obtain ⟨hij, hb⟩ := hb
      have hjl := List.mem_range.1 hj
      rw [List.getElem?_eq_getElem hjl] at hb
      obtain ⟨e, he, hb⟩ := List.any_eq_true.1 hb
      simp only [Bool.and_eq_true, beq_iff_eq] at hb
      exact .inr ⟨j, l[j], hij, List.getElem?_eq_getElem hjl, e, Array.mem_toList_iff.1 he, hb.1, hb.2⟩
  · have := h3 e (Array.mem_toList_iff.2 he)
    simpa [hb] using this

/-- What the others come to. -/
def before (P : Program) (l : List Oper) (st : Oper) (Q : Exit → Act → World → Prop) : Exit → Act → World → Prop
  | .normal, a, w => wpOp P (l ++ [st]).toArray Q l.length (fun a w => Q .normal a w) a w
  | e, a, w => Q e a w

set_option maxRecDepth 100000 in
theorem out_before (h : LetsOut (before P l st Q)) : LetsOut Q := h
set_option maxRecDepth 100000 in
theorem wp_before {o : Oper} {a : Act} {w : World} {K K' : Act → World → Prop} (hk : ∀ a w, K a w → K' a w) (hh : o.wp P a w K (before P l st Q)) : o.wp P a w K' Q := by
  unfold Oper.wp at *
  generalize (execOp a.eval o).run P w = r at *
  cases r with
  | ok n w' =>
    cases n <;> simp only [Oper.upon] at hh ⊢ <;>
      first
        | exact hk _ _ hh
        | exact Calls.mono hh (fun e w'' he => by cases e <;> first | exact hk _ _ he | exact he)
        | exact Rows.mono hh (fun _ _ he => hk _ _ he)
  | halt x w' => cases x <;> simp only [Oper.upon] at hh ⊢ <;> exact hh

set_option maxRecDepth 100000 in
theorem get_app {i : Nat} (h : i < l.length) : (l ++ [st]).toArray[i]? = l.toArray[i]? := by
  simp [List.getElem?_append_left h]
set_option maxRecDepth 100000 in
theorem get_last : (l ++ [st]).toArray[l.length]? = some st := by simp
set_option maxRecDepth 100000 in
theorem yielded_app (_hj : ∀ j b, (o : Oper) → o.guard = some (j, b) → True) {j : Nat} (h : j < l.length) (t : Array Value) : yielded (l ++ [st]).toArray t j = yielded l.toArray t j := by
  unfold yielded
  rw [get_app h]
set_option maxRecDepth 100000 in
theorem wanted_app (hp : Peel md l st) {i : Nat} {o : Oper} (ho : l[i]? = some o) (t : Array Value) : Region.wanted o (yielded (l ++ [st]).toArray t) = Region.wanted o (yielded l.toArray t) := by
  unfold Region.wanted
  cases hg : o.guard with
  | none => rfl
  | some g =>
    obtain ⟨j, b⟩ := g
    simp only []
    rw [yielded_app (fun _ _ _ _ => trivial) (hp.guards i o ho j b hg)]
set_option maxRecDepth 100000 in
theorem wpOp_app (hp : Peel md l st) {i : Nat} (hi : i < l.length) {a : Act} {w : World} {K K' : Act → World → Prop} (hk : ∀ a w, K a w → K' a w) (h : wpOp P l.toArray (before P l st Q) i K a w) : wpOp P (l ++ [st]).toArray Q i K' a w := by
  unfold wpOp at *
  rw [get_app hi]
  have ho : l.toArray[i]? = some l[i] := by simp
  have ho' : l[i]? = some l[i] := by simp
  simp only [ho] at h ⊢
  rw [wanted_app hp ho']
  split
  · rename_i hw
    rw [if_pos hw] at h
    exact h.imp (wp_before hk) (fun ⟨x, y⟩ => ⟨x, out_before y⟩)
  · rename_i hw
    rw [if_neg hw] at h
    exact hk _ _ h

set_option maxRecDepth 100000 in
theorem getD_tf {L : Array Bool} {i : Nat} (h : i < L.size) : L.getD i false = L.getD i true := by simp [h]
set_option maxRecDepth 100000 in
theorem all_listed (hp : Peel md l st) {L : Array Bool} (hL : L.size = l.length) (h : Region.ready md l.toArray L = []) : ∀ i, i < l.length → L.getD i true = true := by
  intro i
  induction i using Nat.strongRecOn with
  | ind i ih =>
    intro hi
    cases hl : L.getD i true with
    | true => rfl
    | false =>
      exfalso
      have : i ∈ Region.ready md l.toArray L := mem_ready.2 ⟨hl, l[i], by simp, fun e he hb => by
        have h1 := hp.ordered i l[i] (by simp) e he hb
        rw [getD_tf (by omega)]
        exact ih e.on h1 (by omega)⟩
      rw [h] at this
      cases this

set_option maxRecDepth 100000 in
/-- What the last one waits for, directly or through others, has come up. -/
theorem all_waited (hp : Peel md l st) {L : Array Bool} (_hL : L.size = l.length) (hc : Closed md l.toArray L) (h2 : ∀ e ∈ st.after, Region.binds md e = true → L.getD e.on false = true) : ∀ k i, l.length - i = k → i < l.length → L.getD i false = true := by
  intro k
  induction k using Nat.strongRecOn with
  | ind k ih =>
    intro i hk hi
    rcases hp.waits i hi with ⟨e, he, hb, rfl⟩ | ⟨j, o, hij, ho, e, he, hb, rfl⟩
    · exact h2 e he hb
    · have hj : j < l.length := (List.getElem?_eq_some_iff.1 ho).1
      exact hc j o (by simpa using ho) (ih (l.length - j) (by omega) j rfl hj) e he hb
set_option maxRecDepth 100000 in
theorem wpAny_peel (hp : Peel md l st) : ∀ (f : Nat) (L L' : Array Bool) (a : Act) (w : World), Closed md l.toArray L → L.size = l.length → L'.size = l.length + 1 → (∀ i, i < l.length → L'.getD i true = L.getD i true) → L'.getD l.length true = false →
    wpAny P md l.toArray (before P l st Q) f L a w → wpAny P md (l ++ [st]).toArray Q (f + 1) L' a w := by
  have last : ∀ (f : Nat) (L L' : Array Bool) (a : Act) (w : World), L.size = l.length → L'.size = l.length + 1 → (∀ i, i < l.length → L'.getD i true = L.getD i true) → Region.ready md l.toArray L = [] → before P l st Q .normal a w →
      wpOp P (l ++ [st]).toArray Q l.length (wpAny P md (l ++ [st]).toArray Q f (L'.setIfInBounds l.length true)) a w := by
    intro f L L' a w hL hL' hag hr hb
    have hall := all_listed hp hL hr
    have hnone : Region.ready md (l ++ [st]).toArray (L'.setIfInBounds l.length true) = [] := by
      refine List.eq_nil_iff_forall_not_mem.2 fun j hj => ?_
      obtain ⟨h1, o, ho, _⟩ := mem_ready.1 hj
      have hjl : j < (l ++ [st]).toArray.size := (Array.getElem?_eq_some_iff.1 ho).1
      simp at hjl
      rcases Nat.lt_or_ge j l.length with h2 | h2
      · rw [getD_set_ne true (by omega), hag j h2, hall j h2] at h1
        cases h1
      · have : j = l.length := by omega
        subst this
        simp [hL'] at h1
    refine wpOp_mono (fun a' w' hq => ?_) hb
    cases f with
    | zero => exact ⟨hnone, hq⟩
    | succ f => exact ⟨fun _ => hq, fun i hi => by rw [hnone] at hi; cases hi⟩
  have rdy : ∀ (L L' : Array Bool), Closed md l.toArray L → L.size = l.length → L'.size = l.length + 1 → (∀ i, i < l.length → L'.getD i true = L.getD i true) → L'.getD l.length true = false →
      ∀ i, i ∈ Region.ready md (l ++ [st]).toArray L' ↔ (i ∈ Region.ready md l.toArray L ∨ (i = l.length ∧ Region.ready md l.toArray L = [])) := by
    intro L L' hc hL hL' hag hn i
    constructor
    · intro hi
      obtain ⟨h1, o, ho, h2⟩ := mem_ready.1 hi
      have hjl : i < (l ++ [st]).toArray.size := (Array.getElem?_eq_some_iff.1 ho).1
      simp at hjl
      rcases Nat.lt_or_ge i l.length with h3 | h3
      · refine .inl (mem_ready.2 ⟨by rw [← hag i h3]; exact h1, o, by rw [← get_app h3]; exact ho, fun e he hb => ?_⟩)
        have h4 := hp.ordered i o (by rw [get_app h3] at ho; simpa using ho) e he hb
        have h5 := h2 e he hb
        rw [getD_tf (by omega)] at h5 ⊢
        rw [← hag e.on (by omega)]
        exact h5
      · have hil : i = l.length := by omega
        refine .inr ⟨hil, ?_⟩
        subst hil
        have : o = st := by rw [get_last] at ho; exact (Option.some.inj ho).symm
        subst this
        refine List.eq_nil_iff_forall_not_mem.2 fun j hj => ?_
        obtain ⟨g1, oj, hoj, _⟩ := mem_ready.1 hj
        have hjl2 : j < l.toArray.size := (Array.getElem?_eq_some_iff.1 hoj).1
        simp at hjl2
        have h5 := all_waited hp hL hc (fun e he hb => by
          have h4 := hp.stok e he hb
          have h5 := h2 e he hb
          rw [getD_tf (by omega), hag e.on h4] at h5
          rw [getD_tf (by omega)]; exact h5) _ j rfl hjl2
        rw [getD_tf (by omega)] at h5
        rw [h5] at g1
        cases g1
    · rintro (hi | ⟨rfl, hr⟩)
      · obtain ⟨h1, o, ho, h2⟩ := mem_ready.1 hi
        have h3 : i < l.length := by have := (Array.getElem?_eq_some_iff.1 ho).1; simpa using this
        refine mem_ready.2 ⟨by rw [hag i h3]; exact h1, o, by rw [get_app h3]; exact ho, fun e he hb => ?_⟩
        have h4 := hp.ordered i o (by simpa using ho) e he hb
        have h5 := h2 e he hb
        rw [getD_tf (by omega)] at h5 ⊢
        rw [hag e.on (by omega)]
        exact h5
      · have hall := all_listed hp hL hr
        refine mem_ready.2 ⟨hn, st, get_last, fun e he hb => ?_⟩
        have h4 := hp.stok e he hb
        rw [getD_tf (by omega), hag e.on h4]
        exact hall e.on h4
  intro f
  induction f with
  | zero =>
    intro L L' a w hc hL hL' hag hn h
    have hr := rdy L L' hc hL hL' hag hn
    refine ⟨fun h0 => ?_, fun i hi => ?_⟩
    · have := (hr l.length).2 (.inr ⟨rfl, h.1⟩)
      rw [h0] at this; cases this
    · rcases (hr i).1 hi with h1 | ⟨rfl, _⟩
      · rw [h.1] at h1; cases h1
      · exact last 0 L L' a w hL hL' hag h.1 h.2
  | succ f ih =>
    intro L L' a w hc hL hL' hag hn h
    have hr := rdy L L' hc hL hL' hag hn
    refine ⟨fun h0 => ?_, fun i hi => ?_⟩
    · exfalso
      by_cases hz : Region.ready md l.toArray L = []
      · have := (hr l.length).2 (.inr ⟨rfl, hz⟩)
        rw [h0] at this; cases this
      · obtain ⟨j, hj⟩ := List.exists_mem_of_ne_nil _ hz
        have := (hr j).2 (.inl hj)
        rw [h0] at this; cases this
    · rcases (hr i).1 hi with h1 | ⟨rfl, hz⟩
      · obtain ⟨_, o, ho, _⟩ := mem_ready.1 h1
        have h3 : i < l.length := by have := (Array.getElem?_eq_some_iff.1 ho).1; simpa using this
        refine wpOp_app hp h3 (fun a' w' hk => ih (L.setIfInBounds i true) (L'.setIfInBounds i true) a' w' (hc.set h1) (by simpa using hL) (by simpa using hL') (fun j hj => ?_) ?_ hk) (h.2 i h1)
        · by_cases hij : i = j
          · subst hij; simp [hL, hL', h3, Nat.lt_succ_of_lt h3]
          · rw [getD_set_ne true hij, getD_set_ne true hij]; exact hag j hj
        · rw [getD_set_ne true (by omega)]; exact hn
      · exact last _ L L' a w hL hL' hag hz (h.1 hz)

set_option maxRecDepth 100000 in
/-- The law on private operations, with a last operation behind all. -/
theorem wp_region_gho_last {id : Nat} {a : Act} {w : World} {l' : List Oper} {st : Oper} (n : Nat) (pv : List Nat) (Rel : Nat → Value → World → Prop) (hm : P.follows .mixedOrders = true) (hB : Region.lexB .any (l'.take n).toArray = true) (hP : privB (l'.take n).toArray pv = true)
    (hst : l'.drop n = [st]) (hpl : peelB .any (l'.take n) st = true) (hg : st.guard = none) (hR : ∀ p u w w', Rel p u w → Below w.heap.size w w' → Rel p u w')
    (h : wpGho P (l'.take n).toArray pv Rel (fun w' => ∃ x : Later w, w' = x.w') (Post1 pv Rel) (fun a' => ∀ g w', (∃ x : Later w, w' = x.w') → (∀ p ∈ pv, Rel p (g p) w') → wpList P l'.toArray Q [st] (over (l'.take n).toArray pv g a') w') 0 (l'.take n) a) : (Code.region id l'.toArray true).wp P Q a w := by
  have hl : l' = l'.take n ++ [st] := by rw [← hst, List.take_append_drop]
  generalize l'.take n = l at *
  subst hl
  simp only [Region.lexB, Bool.and_eq_true] at hB
  refine wp_region_any hm ?_
  have hp := Priv.of hP
  have h' : wpGho P l.toArray pv Rel (fun w' => ∃ x : Later w, w' = x.w') (Post1 pv Rel) (fun a' => ∀ g w', (∃ x : Later w, w' = x.w') → (∀ p ∈ pv, Rel p (g p) w') → before P l st Q .normal (over l.toArray pv g a') w') 0 l a := by
    refine (?_ : ∀ (k : Nat) (m : List Oper) (b : Act), wpGho P l.toArray pv Rel (fun w' => ∃ x : Later w, w' = x.w') (Post1 pv Rel) _ k m b → wpGho P l.toArray pv Rel (fun w' => ∃ x : Later w, w' = x.w') (Post1 pv Rel) _ k m b) 0 l a h
    intro k m
    induction m generalizing k with
    | nil =>
      intro b hb g w' hw hr
      have h1 := hb g w' hw hr
      show wpOp P (l ++ [st]).toArray Q l.length _ _ _
      unfold wpOp
      rw [get_last]
      unfold wpList at h1
      have hw : Region.wanted st (yielded (l ++ [st]).toArray (over l.toArray pv g b).tmps) = true := by unfold Region.wanted; rw [hg]
      simp only [hw, if_true] at h1 ⊢
      exact h1
    | cons o m ih =>
      rintro b ⟨v, h1, h2⟩
      exact ⟨v, h1, ih _ _ h2⟩
  have hx := wpAnyG_lex (P := P) (pv := pv) (Rel := Rel) (C := fun w' => ∃ x : Later w, w' = x.w') hp hB.1 l 0 (Array.replicate l.toArray.size false) a (by simp) (by simp) (fun j hj => absurd hj (Nat.not_lt_zero _)) (by simpa using hB.2) h'
  have hf : ∀ m j, (Array.replicate m false).getD j false = false := fun m j => by
    rcases Nat.lt_or_ge j m with h | h
    · simp [h]
    · simp [h]
  have hy := wpAny_of_gho (P := P) (ops := l.toArray) (pv := pv) (Rel := Rel) (C := fun w' => ∃ x : Later w, w' = x.w') (Post := Post1 pv Rel) hp (Region.noSelect_spec hB.1) (Q' := before P l st Q) l.length (fun _ _ => True)
    (fun hm => by obtain ⟨o, _, ho, _⟩ := hp.has _ hm; simp at ho) (fun o ho => by simp at ho) (fun listed hz _ hl => by
      have hz' : listed.size = l.length := by simpa using hz
      simp [Array.getElem?_eq_none (xs := listed) (i := l.length) (by omega)] at hl) (fun w1 w2 ⟨x, hx⟩ hb => by
      subst hx; exact ⟨⟨w2, below_to x.h hb⟩, rfl⟩) hR (fun _ _ _ _ _ => trivial) (fun _ _ _ _ _ _ _ h => h) (fun hlt => by simp at hlt) (fun g a w' hw _ hr hq => hq g w' hw (hr (by simp))) _ _ _ (fun _ => undef) a w.drew (fun j oj _ hl => by rw [hf] at hl; cases hl)
    ⟨rfl, rfl, fun t _ => by
      unfold valAt
      have : (pv.find? fun p => (Array.replicate l.toArray.size false).getD p false && dstOf l.toArray p == some t) = none := by
        rw [List.find?_eq_none]; intro p _; rw [hf]; simp
      rw [this]⟩ ⟨⟨w.drew, (Below.refl _ _).drew⟩, rfl⟩ (fun _ => trivial) (fun _ p _ hl => by rw [hf] at hl; cases hl) (by simp) hx
  have hz := wpAny_peel (md := .any) (Peel.of hpl) _ _ (Array.replicate (l ++ [st]).toArray.size false) a w.drew (fun j oj _ hl => by rw [hf] at hl; cases hl) (by simp) (by simp) (fun i hi => by simp [hi, Nat.lt_succ_of_lt hi]) (by simp) hy
  simpa using hz
end

end Go.Proofs.YtceljjnohjnepaaDoor

namespace Go.Proofs.YtceljjnohjnepaaDoor
open Go.RowKit DG
attribute [local go_sem ↓] exl_Elem exs_Elem
                 attribute [local go_sem] ldr_Elem str_Elem
attribute [local go_sem] to_quad0

def invN (a : Nat) : Nat := raisedN a [0, 1, 0, 1, 1]

set_option maxRecDepth 100000 in
set_option maxHeartbeats 1000000 in
theorem inv_any (a : Nat) (W : World) (ha : a < p2) : Calls Tryd.prog 26 #[.agg (quad a)] W fun e w' => e = .returned (.agg (quad (invN a))) ∧ Below W.heap.size W w' := by
  have hr := fun b w h => raised_any a b 5 [0, 1, 0, 1, 1] w ha (by intro x hx; simp at hx; omega) (by decide) (by decide) h
  change ∀ b w, _ → Calls _ _ _ _ (fun e w' => e = .returned (.agg (quad (invN a))) ∧ _) at hr
  generalize invN a = r at *
  have HR := hid hr
  clear hr
  go_enter Tryd.func26, Tryd.ntmps26
  go_wp2_with fail
  obtain ⟨w1, hw1⟩ : ∃ w1, ((W.alloc (.cells (quad a) 44)).alloc (.cells (quad 0) 44)).alloc (.cells #[.int .u8 0, .int .u8 1, .int .u8 0, .int .u8 1, .int .u8 1] 5) = w1 := ⟨_, rfl⟩
  have kR := kept (show hget w1 (W.heap.size + 1) = some (.cells (quad 0) 44 (0, 0)) by rw [← hw1]; clear hw1; go_simp)
  have kB := kept (show hget w1 (W.heap.size + 1 + 1) = some (.cells #[.int .u8 0, .int .u8 1, .int .u8 0, .int .u8 1, .int .u8 1] 5 (0, 0)) by rw [← hw1]; clear hw1; go_simp)
  have b1 : Hid (Below W.heap.size W w1) := by rw [← hw1]; repeat (first | exact Below.refl _ _ | exact below_new _ | assumption | refine Below.drew ?_ | refine Below.drewN ?_ _ | refine below_alloc ?_ _ | refine below_blk' ?_ (by omega) _)
  rw [hw1]
  clear hw1
  try clear gR lR nR mR
  try clear jR
  have jR := kR.later
  obtain ⟨gR, lR, nR, mR⟩ := kR
  try clear gB lB nB mB
  try clear jB
  have jB := kB.later
  obtain ⟨gB, lB, nB, mB⟩ := kB
  refine (HR.out _ _ gB).mono ?_
  rintro e w2 ⟨rfl, hb2⟩
  have kR := Kept.on (kept (b := W.heap.size + 1) (o := .cells (quad 0) 44 (0, 0)) (by go_simp)) hb2
  have b2 : Hid (Below W.heap.size W w2) := below_to (by repeat (first | exact Below.refl _ _ | exact below_new _ | exact b1.out | assumption | refine Below.drew ?_ | refine Below.drewN ?_ _ | refine below_alloc ?_ _ | refine below_blk' ?_ (by omega) _)) hb2
  clear hb2
  try clear gR lR nR mR
  obtain ⟨gR, lR, nR, mR⟩ := kR
  clear b1
  go_wp2_with fail
  refine bodyPost_ret (v := .agg (quad r)) (results_cell_row Tryd.results26 _ _ (W.heap.size + 1) 44 (quad r) (0, 0) _ (by rfl) (by rw [← hget_eq]; go_simp) Tryd.underlying44 rfl (by rw [info_Elem]; go_simp)) rfl ?_
  exact ⟨rfl, by repeat (first | exact Below.refl _ _ | exact below_new _ | exact b2.out | assumption | refine Below.drew ?_ | refine Below.drewN ?_ _ | refine below_alloc ?_ _ | refine below_blk' ?_ (by omega) _)⟩

/-- The root, as the program reckons it. -/
def root0 (a : Nat) : Nat := raisedN a [1, 0]
def rootS : Nat := raisedN 2 [0, 1, 1]
def root1 (a : Nat) : Nat := if decide (mulN (root0 a) (root0 a) % pP = a % pP) = true then root0 a else mulN (root0 a) rootS
def root2 (a : Nat) (odd : Bool) : Nat := if (decide (root1 a % pP % 2 = 1) == odd) = true then root1 a else subN 0 (root1 a)
def rootOk (a : Nat) (odd : Bool) : Bool := decide (mulN (root2 a odd) (root2 a odd) % pP = a % pP) && (decide (root2 a odd % pP % 2 = 1) == odd)
set_option maxRecDepth 100000 in
theorem rootS_lt : rootS < p2 := raised_lt (by decide)
set_option maxRecDepth 100000 in
theorem root0_lt {a : Nat} (ha : a < p2) : root0 a < p2 := raised_lt ha
set_option maxRecDepth 100000 in
theorem root1_lt {a : Nat} (ha : a < p2) : root1 a < p2 := by
  unfold root1; split
  · exact root0_lt ha
  · exact mul_lt (root0_lt ha) rootS_lt
set_option maxRecDepth 100000 in
theorem root2_lt {a : Nat} (ha : a < p2) (odd : Bool) : root2 a odd < p2 := by
  unfold root2; split
  · exact root1_lt ha
  · exact sub_lt (by decide) (root1_lt ha)

set_option maxRecDepth 100000 in
set_option maxHeartbeats 4000000 in
theorem root_any (a : Nat) (odd : Bool) (W : World) (ha : a < p2) : Calls Tryd.prog 38 #[.agg (quad a), .bool odd] W fun e w' => e = .returned (.tuple #[.agg (quad (if rootOk a odd then root2 a odd else 0)), .bool (rootOk a odd)]) ∧ Below W.heap.size W w' := by
  have l0 := root0_lt ha
  have l1 := root1_lt ha
  have l2 := root2_lt ha odd
  have ls := rootS_lt
  have hr0 := fun b w h => raised_any a b 2 [1, 0] w ha (by intro x hx; simp at hx; omega) (by decide) (by decide) h
  have hrs := fun b w h => raised_any 2 b 3 [0, 1, 1] w (by decide) (by intro x hx; simp at hx; omega) (by decide) (by decide) h
  simp only [show raisedN a [1, 0] = root0 a from rfl] at hr0
  simp only [show raisedN 2 [0, 1, 1] = rootS from rfl] at hrs
  have HR0 := hid hr0
  have HRS := hid hrs
  clear hr0 hrs
  have e1 : root1 a = if decide (mulN (root0 a) (root0 a) % pP = a % pP) = true then root0 a else mulN (root0 a) rootS := rfl
  have e2 : root2 a odd = if (decide (root1 a % pP % 2 = 1) == odd) = true then root1 a else subN 0 (root1 a) := rfl
  have e3 : rootOk a odd = (decide (mulN (root2 a odd) (root2 a odd) % pP = a % pP) && (decide (root2 a odd % pP % 2 = 1) == odd)) := rfl
  generalize root0 a = c0 at *
  generalize rootS = s at *
  generalize root1 a = c1 at *
  generalize root2 a odd = c2 at *
  generalize rootOk a odd = ok at *
  have M0 := hid (fun w => mul_any c0 c0 w l0 l0)
  have lm0 := mul_lt l0 l0
  have S0 := hid (fun w => same_any (mulN c0 c0) a w lm0 ha)
  have MS := hid (fun w => mul_any c0 s w l0 ls)
  have lms := mul_lt l0 ls
  have SE1 := fun w => select_any (decide (mulN c0 c0 % pP = a % pP)) (mulN c0 s) c0 w lms l0
  rw [← e1] at SE1
  have HSE1 := hid SE1
  generalize decide (mulN c0 c0 % pP = a % pP) = q1 at *
  generalize mulN c0 c0 = m0 at *
  generalize mulN c0 s = ms at *
  have O1 := hid (fun w => odd_any c1 w l1)
  have U1 := hid (fun w => sub_any 0 c1 w (by decide) l1)
  have lu := sub_lt (a := 0) (b := c1) (by decide) l1
  have SE2 := fun w => select_any (decide (c1 % pP % 2 = 1) == odd) (subN 0 c1) c1 w lu l1
  rw [← e2] at SE2
  have HSE2 := hid SE2
  generalize decide (c1 % pP % 2 = 1) = q2 at *
  generalize subN 0 c1 = u at *
  have M2 := hid (fun w => mul_any c2 c2 w l2 l2)
  have lm2 := mul_lt l2 l2
  have S2 := hid (fun w => same_any (mulN c2 c2) a w lm2 ha)
  have O2 := hid (fun w => odd_any c2 w l2)
  generalize decide (mulN c2 c2 % pP = a % pP) = q3 at *
  generalize decide (c2 % pP % 2 = 1) = q4 at *
  generalize mulN c2 c2 = m2 at *
  have HE := hid e3
  have SM := hid (fun w => small_any 2 w (by decide))
  obtain ⟨rr, hrr⟩ : ∃ rr, (if ok = true then c2 else 0) = rr := ⟨_, rfl⟩
  rw [hrr]
  have HRR := hid hrr
  clear hrr
  clear e1 e2 e3 SE1 SE2 l0 l1 l2 ls lm0 lms lu lm2
  go_enter Tryd.func38, Tryd.ntmps38
  go_wp2_with fail
  obtain ⟨w1, hw1⟩ : ∃ w1, ((W.alloc (.cells (quad a) 44)).alloc (.cells (quad 0) 44)).alloc (.cells #[.int .u8 1, .int .u8 0] 5) = w1 := ⟨_, rfl⟩
  have kA := kept (show hget w1 (W.heap.size) = some (.cells (quad a) 44 (0, 0)) by rw [← hw1]; clear hw1; go_simp)
  have kR := kept (show hget w1 (W.heap.size + 1) = some (.cells (quad 0) 44 (0, 0)) by rw [← hw1]; clear hw1; go_simp)
  have kB := kept (show hget w1 (W.heap.size + 1 + 1) = some (.cells #[.int .u8 1, .int .u8 0] 5 (0, 0)) by rw [← hw1]; clear hw1; go_simp)
  have b1 : Hid (Below W.heap.size W w1) := by rw [← hw1]; repeat (first | exact Below.refl _ _ | exact below_new _ | assumption | refine Below.drew ?_ | refine Below.drewN ?_ _ | refine below_alloc ?_ _ | refine below_blk' ?_ (by omega) _)
  rw [hw1]
  clear hw1
  try clear gA lA nA mA
  try clear jA
  have jA := kA.later
  obtain ⟨gA, lA, nA, mA⟩ := kA
  try clear gR lR nR mR
  try clear jR
  have jR := kR.later
  obtain ⟨gR, lR, nR, mR⟩ := kR
  try clear gB lB nB mB
  try clear jB
  have jB := kB.later
  obtain ⟨gB, lB, nB, mB⟩ := kB
  refine (HR0.out _ _ gB).mono ?_
  rintro e w2 ⟨rfl, hb2⟩
  have kA := Kept.on (kept (b := W.heap.size) (o := .cells (quad a) 44 (0, 0)) (by go_simp)) hb2
  have kR := Kept.on (kept (b := W.heap.size + 1) (o := .cells (quad 0) 44 (0, 0)) (by go_simp)) hb2
  have b2 : Hid (Below W.heap.size W w2) := below_to (by repeat (first | exact Below.refl _ _ | exact below_new _ | exact b1.out | assumption | refine Below.drew ?_ | refine Below.drewN ?_ _ | refine below_alloc ?_ _ | refine below_blk' ?_ (by omega) _)) hb2
  clear hb2
  try clear gA lA nA mA
  obtain ⟨gA, lA, nA, mA⟩ := kA
  try clear gR lR nR mR
  obtain ⟨gR, lR, nR, mR⟩ := kR
  clear b1
  clear gB lB nB mB jA jR jB
  go_wp2_with fail
  have hXW := lR
  obtain ⟨w3, hw3⟩ : ∃ w3, w2.alloc (.cells (quad c0) 44) = w3 := ⟨_, rfl⟩
  have kA := kept (show hget w3 (W.heap.size) = some (.cells (quad a) 44 (0, 0)) by rw [← hw3]; clear hw3; go_simp)
  have kR := kept (show hget w3 (W.heap.size + 1) = some (.cells (quad 0) 44 (0, 0)) by rw [← hw3]; clear hw3; go_simp)
  have kX := kept (show hget w3 (w2.heap.size) = some (.cells (quad c0) 44 (0, 0)) by rw [← hw3]; clear hw3; go_simp)
  have b3 : Hid (Below W.heap.size W w3) := by rw [← hw3]; repeat (first | exact Below.refl _ _ | exact below_new _ | exact b2.out | assumption | refine Below.drew ?_ | refine Below.drewN ?_ _ | refine below_alloc ?_ _ | refine below_blk' ?_ (by omega) _)
  rw [hw3]
  clear hw3
  try clear gA lA nA mA
  try clear jA
  have jA := kA.later
  obtain ⟨gA, lA, nA, mA⟩ := kA
  try clear gR lR nR mR
  try clear jR
  have jR := kR.later
  obtain ⟨gR, lR, nR, mR⟩ := kR
  try clear gX lX nX mX
  try clear jX
  have jX := kX.later
  obtain ⟨gX, lX, nX, mX⟩ := kX
  clear b2
  generalize w2.heap.size = X at *
  have q1' : (W.heap.size = X) = False := by simp; omega
  have q2' : (W.heap.size + 1 = X) = False := by simp; omega
  have hWX : W.heap.size ≤ X := by omega
  refine wp_region_gho_last 12 [7] (fun _ u w => ∃ b, u = .slice (some ⟨b, 0, none⟩) 3 3 ∧ w.heap[b]? = some (.cells #[.int .u8 0, .int .u8 1, .int .u8 1] 5 (0, 0))) (by kernel_rfl) (by kernel_rfl) (by kernel_rfl) (by rfl) (by kernel_rfl) (by rfl) (fun _ u w w' ⟨b, h1, h2⟩ hb => ⟨b, h1, keepB hb h2⟩) ?_
  simp only [List.take_succ_cons, List.take_zero]
  repeat (first | (refine wpGho_plain (by kernel_rfl) (by decide) (by rfl) (by rfl) (fun K hK => ?_); go_simp; refine hK _ ?_; clear hK K; try go_ints) | (refine wpGho_plain (by kernel_rfl) (by decide) (by rfl) (by rfl) (fun K hK => ?_); go_simp; refine ⟨_, fun x => (M0.out _), hK _ ?_⟩; clear hK K; try go_ints) | (refine wpGho_plain (by kernel_rfl) (by decide) (by rfl) (by rfl) (fun K hK => ?_); go_simp; refine ⟨_, fun x => (S0.out _), hK _ ?_⟩; clear hK K; try go_ints) | (refine wpGho_plain (by kernel_rfl) (by decide) (by rfl) (by rfl) (fun K hK => ?_); go_simp; refine ⟨_, fun x => (SM.out _), hK _ ?_⟩; clear hK K; try go_ints))
  refine wpGho_make (by kernel_rfl) (by decide) (by rfl) (by rfl) (by rfl) (fun K hK => ?_)
  go_simp
  refine ⟨fun x => ⟨below_new _, _, rfl, alloc_at _ _⟩, hK _ ?_⟩
  clear hK K
  refine wpGho_read (by decide) (by rfl) (fun K hK => ?_)
  refine ⟨.agg (quad s), fun g x hR => ?_, hK _ ?_⟩
  · obtain ⟨b, hb, hc⟩ := hR 7 (by decide) (by kernel_rfl)
    rw [show ∀ a, over _ [7] g a = Act.put a (some 17) (g 7) from fun _ => rfl, hb]
    go_simp
    exact HRS.out b _ hc
  clear hK K
  simp only [Act.put, List.setIfInBounds_toArray, List.set_cons_zero, List.set_cons_succ]
  repeat (first | (refine wpGho_plain (by kernel_rfl) (by decide) (by rfl) (by rfl) (fun K hK => ?_); go_simp; refine hK _ ?_; clear hK K; try go_ints) | (refine wpGho_plain (by kernel_rfl) (by decide) (by rfl) (by rfl) (fun K hK => ?_); go_simp; refine ⟨_, fun x => (MS.out _), hK _ ?_⟩; clear hK K; try go_ints) | (refine wpGho_plain (by kernel_rfl) (by decide) (by rfl) (by rfl) (fun K hK => ?_); go_simp; refine ⟨_, fun x => (HSE1.out _), hK _ ?_⟩; clear hK K; try go_ints))
  refine wpGho_nil ?_
  intro g wM hwM hR
  obtain ⟨⟨w8, hM⟩, e8⟩ := hwM
  change wM = w8 at e8
  subst e8
  obtain ⟨b8, hb8, hc8⟩ := hR 7 (by decide)
  rw [show ∀ a, over _ [7] g a = Act.put a (some 17) (g 7) from fun _ => rfl, hb8]
  simp only [Act.put, List.setIfInBounds_toArray, List.set_cons_zero, List.set_cons_succ]
  have kX : Kept wM _ _ := kept (jX ⟨_, hM⟩)
  have kA : Kept wM _ _ := kept (jA ⟨_, hM⟩)
  have kR : Kept wM _ _ := kept (jR ⟨_, hM⟩)
  have b4 := hid (below_to b3.out hM)
  clear gX gA gR jX jA jR lX lA lR nX nA nR mX mA mR hM hb8 hc8 hR b3
  obtain ⟨gX, lX, nX, mX⟩ := kX
  obtain ⟨gA, lA, nA, mA⟩ := kA
  obtain ⟨gR, lR, nR, mR⟩ := kR
  go_wp2_with fail
  obtain ⟨w5, hw5⟩ : ∃ w5, blk wM X (.cells (quad c1) 44 (0, 0)) = w5 := ⟨_, rfl⟩
  have kA := kept (show hget w5 (W.heap.size) = some (.cells (quad a) 44 (0, 0)) by rw [← hw5]; clear hw5; go_simp)
  have kR := kept (show hget w5 (W.heap.size + 1) = some (.cells (quad 0) 44 (0, 0)) by rw [← hw5]; clear hw5; go_simp)
  have kX := kept (show hget w5 (X) = some (.cells (quad c1) 44 (0, 0)) by rw [← hw5]; clear hw5; go_simp)
  have b5 : Hid (Below W.heap.size W w5) := by rw [← hw5]; repeat (first | exact Below.refl _ _ | exact below_new _ | exact b4.out | assumption | refine Below.drew ?_ | refine Below.drewN ?_ _ | refine below_alloc ?_ _ | refine below_blk' ?_ (by omega) _)
  rw [hw5]
  clear hw5
  try clear gA lA nA mA
  try clear jA
  have jA := kA.later
  obtain ⟨gA, lA, nA, mA⟩ := kA
  try clear gR lR nR mR
  try clear jR
  have jR := kR.later
  obtain ⟨gR, lR, nR, mR⟩ := kR
  try clear gX lX nX mX
  try clear jX
  have jX := kX.later
  obtain ⟨gX, lX, nX, mX⟩ := kX
  clear b4
  refine wp_region_later_tail 9 (by kernel_rfl) (by kernel_rfl) ?_
  simp only [List.take_succ_cons, List.take_zero, List.drop_succ_cons, List.drop_zero]
  repeat ((go_big_quiet_step ((first | (go_at_call 29; with_reducible exact calls_later (O1.out _)) | (go_at_call 35; with_reducible exact calls_later (U1.out _)) | (go_at_call 52; with_reducible exact calls_later (HSE2.out _))))))
  refine wpQuiet_nil ?_
  intro wL hwL
  obtain ⟨⟨w8, hL⟩, e8⟩ := hwL
  change wL = w8 at e8
  subst e8
  obtain ⟨gX, lX, nX, mX⟩ := kept (jX ⟨_, hL⟩)
  obtain ⟨gA, lA, nA, mA⟩ := kept (jA ⟨_, hL⟩)
  obtain ⟨gR, lR, nR, mR⟩ := kept (jR ⟨_, hL⟩)
  have b6 := hid (below_to b5.out hL)
  clear jX jA jR b5
  go_wp2_with fail
  obtain ⟨w7, hw7⟩ : ∃ w7, blk wL X (.cells (quad c2) 44 (0, 0)) = w7 := ⟨_, rfl⟩
  have kA := kept (show hget w7 (W.heap.size) = some (.cells (quad a) 44 (0, 0)) by rw [← hw7]; clear hw7; go_simp)
  have kR := kept (show hget w7 (W.heap.size + 1) = some (.cells (quad 0) 44 (0, 0)) by rw [← hw7]; clear hw7; go_simp)
  have kX := kept (show hget w7 (X) = some (.cells (quad c2) 44 (0, 0)) by rw [← hw7]; clear hw7; go_simp)
  have b7 : Hid (Below W.heap.size W w7) := by rw [← hw7]; repeat (first | exact Below.refl _ _ | exact below_new _ | exact b6.out | assumption | refine Below.drew ?_ | refine Below.drewN ?_ _ | refine below_alloc ?_ _ | refine below_blk' ?_ (by omega) _)
  rw [hw7]
  clear hw7
  try clear gA lA nA mA
  try clear jA
  have jA := kA.later
  obtain ⟨gA, lA, nA, mA⟩ := kA
  try clear gR lR nR mR
  try clear jR
  have jR := kR.later
  obtain ⟨gR, lR, nR, mR⟩ := kR
  try clear gX lX nX mX
  try clear jX
  have jX := kX.later
  obtain ⟨gX, lX, nX, mX⟩ := kX
  clear b6
  clear hL
  have e3 := HE.out
  cases q3
  · skip
    have E := hid e3
    clear e3
    refine wp_region_later (by kernel_rfl) (by kernel_rfl) ?_
    repeat ((go_big_quiet_step ((first | (go_at_call 27; with_reducible exact calls_later (M2.out _)) | (go_at_call 43; with_reducible exact calls_later (S2.out _)) | (go_at_call 29; with_reducible exact calls_later (O2.out _))))))
    refine wpQuiet_nil ?_
    intro wL hwL
    obtain ⟨⟨w8, hL⟩, e8⟩ := hwL
    change wL = w8 at e8
    subst e8
    have kR : Kept wL _ _ := kept (jR ⟨_, hL⟩)
    have b8 := hid (below_to b7.out hL)
    clear jX jA jR b7 hL gX gA gR lX lA lR nX nA nR mX mA mR
    obtain ⟨gR, lR, nR, mR⟩ := kR
    go_wp2_with fail
    refine bodyPost_ret (v := .tuple #[.agg (quad 0), .bool false]) (results_cell_tmp Tryd.results38 _ _ (W.heap.size + 1) 44 (quad 0) (0, 0) _ (.bool false) (by rfl) (by rfl) (by rw [← hget_eq]; go_simp) Tryd.underlying44 rfl (by rw [info_Elem]; go_simp)) rfl ?_
    exact ⟨by rw [← HRR.out, E.out]; simp, by repeat (first | exact Below.refl _ _ | exact below_new _ | exact b8.out | assumption | refine Below.drew ?_ | refine Below.drewN ?_ _ | refine below_alloc ?_ _ | refine below_blk' ?_ (by omega) _)⟩
  · have hne : (q4 != odd) = !(q4 == odd) := rfl
    cases hq : (q4 == odd)
    · rw [hq] at e3 hne
      have E := hid e3
      clear e3
      refine wp_region_later (by kernel_rfl) (by kernel_rfl) ?_
      repeat ((go_big_quiet_step ((first | (go_at_call 27; with_reducible exact calls_later (M2.out _)) | (go_at_call 43; with_reducible exact calls_later (S2.out _)) | (go_at_call 29; with_reducible exact calls_later (O2.out _))))))
      refine wpQuiet_nil ?_
      intro wL hwL
      obtain ⟨⟨w8, hL⟩, e8⟩ := hwL
      change wL = w8 at e8
      subst e8
      have kR : Kept wL _ _ := kept (jR ⟨_, hL⟩)
      have b8 := hid (below_to b7.out hL)
      clear jX jA jR b7 hL gX gA gR lX lA lR nX nA nR mX mA mR
      obtain ⟨gR, lR, nR, mR⟩ := kR
      go_wp2_with fail
      refine bodyPost_ret (v := .tuple #[.agg (quad 0), .bool false]) (results_cell_tmp Tryd.results38 _ _ (W.heap.size + 1) 44 (quad 0) (0, 0) _ (.bool false) (by rfl) (by rfl) (by rw [← hget_eq]; go_simp) Tryd.underlying44 rfl (by rw [info_Elem]; go_simp)) rfl ?_
      exact ⟨by rw [← HRR.out, E.out]; simp, by repeat (first | exact Below.refl _ _ | exact below_new _ | exact b8.out | assumption | refine Below.drew ?_ | refine Below.drewN ?_ _ | refine below_alloc ?_ _ | refine below_blk' ?_ (by omega) _)⟩
    · rw [hq] at e3 hne
      have E := hid e3
      clear e3
      refine wp_region_later (by kernel_rfl) (by kernel_rfl) ?_
      repeat ((go_big_quiet_step ((first | (go_at_call 27; with_reducible exact calls_later (M2.out _)) | (go_at_call 43; with_reducible exact calls_later (S2.out _)) | (go_at_call 29; with_reducible exact calls_later (O2.out _))))))
      refine wpQuiet_nil ?_
      intro wL hwL
      obtain ⟨⟨w8, hL⟩, e8⟩ := hwL
      change wL = w8 at e8
      subst e8
      have kR : Kept wL _ _ := kept (jR ⟨_, hL⟩)
      have kX : Kept wL _ _ := kept (jX ⟨_, hL⟩)
      have b8 := hid (below_to b7.out hL)
      clear jX jA jR b7 hL gX gA gR lX lA lR nX nA nR mX mA mR
      obtain ⟨gR, lR, nR, mR⟩ := kR
      obtain ⟨gX, lX, nX, mX⟩ := kX
      go_wp2_with fail
      refine bodyPost_ret (v := .tuple #[.agg (quad c2), .bool true]) (results_cell_tmp Tryd.results38 _ _ (W.heap.size + 1) 44 (quad c2) (0, 0) _ (.bool true) (by rfl) (by rfl) (by rw [← hget_eq]; go_simp) Tryd.underlying44 rfl (by rw [info_Elem]; go_simp)) rfl ?_
      exact ⟨by rw [← HRR.out, E.out]; simp, by repeat (first | exact Below.refl _ _ | exact below_new _ | exact b8.out | assumption | refine Below.drew ?_ | refine Below.drewN ?_ _ | refine below_alloc ?_ _ | refine below_blk' ?_ (by omega) _)⟩

end Go.Proofs.YtceljjnohjnepaaDoor

namespace Go.Proofs.YtceljjnohjnepaaDoor
open DG

set_option maxRecDepth 100000 in
theorem mm (a b : Nat) : mulN a b % pP = (a % pP) * (b % pP) % pP := by rw [mul_mod, Nat.mul_mod]
set_option maxRecDepth 100000 in
theorem ones_mod (a k : Nat) : onesN a k % pP = rOnes (a % pP) k := by
  induction k with
  | zero => exact (by decide : (1 : Nat) % pP = 1)
  | succ k ih =>
    show mulN (mulN (onesN a k) (onesN a k)) a % pP = (rOnes (a % pP) k * rOnes (a % pP) k % pP) * (a % pP) % pP
    rw [mm, mm, ih]
set_option maxRecDepth 100000 in
theorem bits_mod {a x r : Nat} {bits : List Nat} {l : List UInt8} (hb : ∀ k, (((bits.getD k 0 : Nat) : Int) == 1) = (((l.getD k 0).toNat : Int) == 49)) (hx : x % pP = r) (k : Nat) : bitsN a x bits k % pP = rBits (a % pP) r l k := by
  induction k with
  | zero => exact hx
  | succ k ih =>
    show (if (((bits.getD k 0 : Nat) : Int) == 1) = true then mulN (mulN (bitsN a x bits k) (bitsN a x bits k)) a else mulN (bitsN a x bits k) (bitsN a x bits k)) % pP =
      if (((l.getD k 0).toNat : Int) == 49) = true then (rBits (a % pP) r l k * rBits (a % pP) r l k % pP) * (a % pP) % pP else rBits (a % pP) r l k * rBits (a % pP) r l k % pP
    rw [hb k]
    split
    · rw [mm, mm, ih]
    · rw [mm, ih]
set_option maxRecDepth 100000 in
theorem raised_mod {a : Nat} {bits : List Nat} {l : List UInt8} (hb : ∀ k, (((bits.getD k 0 : Nat) : Int) == 1) = (((l.getD k 0).toNat : Int) == 49)) (hl : bits.length = l.length) : raisedN a bits % pP = rPow (a % pP) l := by
  unfold raisedN rPow
  rw [hl]
  exact bits_mod hb (ones_mod a 250) _
set_option maxRecDepth 100000 in
theorem inv_mod (a : Nat) : invN a % pP = rInv (a % pP) := raised_mod (bits := [0, 1, 0, 1, 1]) (l := [48, 49, 48, 49, 49]) (fun k => by (match k with | 0 | 1 | 2 | 3 | 4 => rfl | k + 5 => simp)) rfl
set_option maxRecDepth 100000 in
theorem root0_mod (a : Nat) : root0 a % pP = rRoot0 (a % pP) := raised_mod (bits := [1, 0]) (l := [49, 48]) (fun k => by (match k with | 0 | 1 => rfl | k + 2 => simp)) rfl
set_option maxRecDepth 100000 in
theorem rootS_mod : rootS % pP = rRootS := by
  have := raised_mod (a := 2) (bits := [0, 1, 1]) (l := [48, 49, 49]) (fun k => by (match k with | 0 | 1 | 2 => rfl | k + 3 => simp)) rfl
  rw [show 2 % pP = 2 from by decide] at this
  unfold rootS rRootS
  exact this
set_option maxRecDepth 100000 in
theorem root1_mod (a : Nat) : root1 a % pP = rRoot1 (a % pP) := by
  unfold root1 rRoot1
  rw [mm, root0_mod]
  split
  · exact root0_mod a
  · rw [mm, root0_mod, rootS_mod]
set_option maxRecDepth 100000 in
theorem neg_key {P s r : Nat} (hs : s < P) (hr : r < P) (h : (s + r) % P = 0) : s = (0 + (P - r)) % P := by
  rcases Nat.lt_or_ge (s + r) P with h1 | h1
  · rw [Nat.mod_eq_of_lt h1] at h
    have : r = 0 := by omega
    subst this
    rw [Nat.zero_add, Nat.sub_zero, Nat.mod_self]; omega
  · rw [Nat.mod_eq_sub_mod h1, Nat.mod_eq_of_lt (by omega)] at h
    rw [Nat.mod_eq_of_lt (by omega)]; omega
set_option maxRecDepth 100000 in
theorem sub0_mod {c : Nat} (hc : c < p2) : subN 0 c % pP = (0 + (pP - c % pP)) % pP := by
  have h := sub_mod (a := 0) (b := c) (by decide) hc
  rw [Nat.zero_mod, Nat.add_mod] at h
  exact neg_key (Nat.mod_lt _ (by decide)) (Nat.mod_lt _ (by decide)) h
set_option maxRecDepth 100000 in
theorem root2_mod {a : Nat} (ha : a < p2) (odd : Bool) : root2 a odd % pP = rRoot2 (a % pP) odd := by
  unfold root2 rRoot2
  rw [root1_mod]
  cases hd : decide (rRoot1 (a % pP) % 2 = 1) <;> cases odd <;> simp [sub0_mod (root1_lt ha), root1_mod]
set_option maxRecDepth 100000 in
theorem sq_neg {P r : Nat} (hr : r < P) : ((0 + (P - r)) % P) * ((0 + (P - r)) % P) % P = r * r % P := by
  rw [← Nat.mul_mod, Nat.zero_add]
  have e : (P - r) * (P - r) + r * (2 * (P - r)) + r * r = P * P := by
    obtain ⟨d, rfl⟩ : ∃ d, P = r + d := ⟨P - r, by omega⟩
    rw [show r + d - r = d by omega, Nat.add_mul, Nat.mul_add, Nat.mul_add, Nat.mul_left_comm r 2 d, Nat.two_mul, Nat.mul_comm d r]
    omega
  have h2 : (P - r) * (P - r) + P * (2 * r) = r * r + P * P := by
    obtain ⟨d, rfl⟩ : ∃ d, P = r + d := ⟨P - r, by omega⟩
    rw [show r + d - r = d by omega] at e ⊢
    rw [Nat.add_mul r d (2 * r), Nat.add_mul, Nat.mul_add, Nat.mul_add, Nat.mul_left_comm r 2 r, Nat.mul_left_comm d 2 r, Nat.mul_comm d r, Nat.two_mul, Nat.two_mul]
    omega
  have h3 := congrArg (· % P) h2
  simpa using h3
set_option maxRecDepth 100000 in
theorem rsq (b : Nat) (odd : Bool) : rRoot2 b odd * rRoot2 b odd % pP = rRoot1 b * rRoot1 b % pP := by
  unfold rRoot2
  split
  · exact sq_neg (rRoot1_lt b)
  · rfl
set_option maxRecDepth 100000 in
theorem ok_mod {a : Nat} (ha : a < p2) (odd : Bool) : rootOk a odd = (rIs (a % pP) && (decide (rRoot2 (a % pP) odd % 2 = 1) == odd)) := by
  unfold rootOk rIs
  rw [mm, root2_mod ha, rsq]
set_option maxRecDepth 100000 in
theorem parity {P r : Nat} (hP : P % 2 = 1) (hr : r < P) (h0 : r ≠ 0) : decide ((0 + (P - r)) % P % 2 = 1) = !decide (r % 2 = 1) := by
  rw [Nat.mod_eq_of_lt (a := 0 + (P - r)) (b := P) (by omega)]
  by_cases h : r % 2 = 1
  · rw [decide_eq_true h, decide_eq_false (by omega)]; rfl
  · rw [decide_eq_false h, decide_eq_true (by omega)]; rfl
set_option maxRecDepth 100000 in
theorem rRoot2_zero {b : Nat} {odd : Bool} (h : (decide (rRoot2 b odd % 2 = 1) == odd) = false) : rRoot2 b odd = 0 := by
  unfold rRoot2 at h ⊢
  by_cases hc : (decide (rRoot1 b % 2 = 1) != odd) = true
  · rw [if_pos hc] at h ⊢
    by_cases h0 : rRoot1 b = 0
    · rw [h0, Nat.zero_add, Nat.sub_zero, Nat.mod_self]
    · rw [parity (by decide) (rRoot1_lt b) h0] at h
      cases hd : decide (rRoot1 b % 2 = 1) <;> cases odd <;> simp [hd] at h hc
  · rw [if_neg hc] at h
    cases hd : decide (rRoot1 b % 2 = 1) <;> cases odd <;> simp [hd] at h hc
/-- The value that is handed back. -/
def rootV (a : Nat) (odd : Bool) : Nat := if rootOk a odd = true then root2 a odd else 0
set_option maxRecDepth 100000 in
theorem rootV_lt {a : Nat} (ha : a < p2) (odd : Bool) : rootV a odd < p2 := by
  unfold rootV; split
  · exact root2_lt ha odd
  · decide
set_option maxRecDepth 100000 in
theorem rootV_mod {a : Nat} (ha : a < p2) (odd : Bool) : rootV a odd % pP = if rIs (a % pP) = true then rRoot2 (a % pP) odd else 0 := by
  unfold rootV
  rw [ok_mod ha]
  cases h1 : rIs (a % pP)
  · rfl
  · cases h2 : (decide (rRoot2 (a % pP) odd % 2 = 1) == odd)
    · rw [rRoot2_zero h2]; rfl
    · exact root2_mod ha odd
set_option maxRecDepth 100000 in
theorem add_mod2 (a b : Nat) : addN a b % pP = (a % pP + b % pP) % pP := by rw [add_mod, Nat.add_mod]
set_option maxRecDepth 100000 in
theorem sub_key2 {P s a b : Nat} (hs : s < P) (_ha : a < P) (hb : b < P) (h : (s + b) % P = a) : s = (a + (P - b)) % P := by
  rcases Nat.lt_or_ge (s + b) P with h1 | h1
  · rw [Nat.mod_eq_of_lt h1] at h
    rw [show a + (P - b) = s + P by omega, Nat.add_mod_right, Nat.mod_eq_of_lt hs]
  · rw [Nat.mod_eq_sub_mod h1, Nat.mod_eq_of_lt (by omega)] at h
    rw [show a + (P - b) = s by omega, Nat.mod_eq_of_lt hs]
set_option maxRecDepth 100000 in
theorem sub_mod2 {a b : Nat} (ha : a < p2) (hb : b < p2) : subN a b % pP = (a % pP + (pP - b % pP)) % pP := by
  have h := sub_mod ha hb
  rw [Nat.add_mod] at h
  exact sub_key2 (Nat.mod_lt _ (by decide)) (Nat.mod_lt _ (by decide)) (Nat.mod_lt _ (by decide)) h
end Go.Proofs.YtceljjnohjnepaaDoor

namespace Go.Proofs.YtceljjnohjnepaaDoor
open DG

set_option maxRecDepth 100000 in
theorem P_eq : NT.P = pP := rfl
/-- Powers of 2, modulo the prime. -/
def gP (e : Nat) : Nat := 2 ^ e % pP
set_option maxRecDepth 100000 in
theorem g_lt (e : Nat) : gP e < pP := Nat.mod_lt _ (by decide)
set_option maxRecDepth 100000 in
theorem g_add (a b : Nat) : gP (a + b) = gP a * gP b % pP := by unfold gP; rw [Nat.pow_add, Nat.mul_mod]
set_option maxRecDepth 100000 in
theorem g_log {a : Nat} (h0 : 0 < a) (h1 : a < pP) : ∃ k, gP k = a := by
  obtain ⟨k, _, hk⟩ := NT.P_log a h0 h1
  exact ⟨k, hk⟩
set_option maxRecDepth 100000 in
theorem g_zero : gP 0 = 1 := by unfold gP; decide
set_option maxRecDepth 100000 in
theorem g_of {e n : Nat} (h : 2 ^ e % NT.P = n) : gP e = n := h
set_option maxRecDepth 100000 in
theorem g_pm1 : gP 57896044618658097711785492504343953926634992332820282019728792003956564819948 = 1 := by rw [← (by decide : NT.P - 1 = 57896044618658097711785492504343953926634992332820282019728792003956564819948)]; exact g_of NT.P_one
set_option maxRecDepth 100000 in
theorem g_half : gP 28948022309329048855892746252171976963317496166410141009864396001978282409974 = pP - 1 := by rw [← (by decide : (NT.P - 1) / 2 = 28948022309329048855892746252171976963317496166410141009864396001978282409974)]; exact g_of NT.P_half
attribute [irreducible] gP
set_option maxRecDepth 100000 in
theorem g_one1 : gP 1 = 2 := by unfold gP; decide
set_option maxRecDepth 100000 in
theorem g_period (k : Nat) : gP (k * 57896044618658097711785492504343953926634992332820282019728792003956564819948) = 1 := by
  induction k with
  | zero => rw [Nat.zero_mul]; exact g_zero
  | succ k ih => rw [Nat.succ_mul, g_add, ih, g_pm1]; decide
set_option maxRecDepth 100000 in
theorem g_pos (e : Nat) : gP e ≠ 0 := fun h => by
  have h1 := g_period e
  rw [show e * 57896044618658097711785492504343953926634992332820282019728792003956564819948 = e + e * 57896044618658097711785492504343953926634992332820282019728792003956564819947 by omega, g_add, h, Nat.zero_mul, Nat.zero_mod] at h1
  exact absurd h1 (by decide)
set_option maxRecDepth 100000 in
theorem neg_mul {x : Nat} (h0 : 0 < x) (h1 : x < pP) : x * (pP - 1) % pP = pP - x := by
  have e : x * (pP - 1) = (pP - x) + (x - 1) * pP := by
    obtain ⟨y, rfl⟩ : ∃ y, x = y + 1 := ⟨x - 1, by omega⟩
    have hp : 1 ≤ pP := by decide
    rw [Nat.mul_sub, Nat.mul_one, Nat.add_sub_cancel, Nat.add_mul, Nat.one_mul]
    omega
  rw [e, Nat.add_mul_mod_self_right, Nat.mod_eq_of_lt (by omega)]
set_option maxRecDepth 100000 in
theorem g_neg (e : Nat) : gP (e + 28948022309329048855892746252171976963317496166410141009864396001978282409974) = pP - gP e := by
  rw [g_add, g_half]
  exact neg_mul (Nat.pos_of_ne_zero (g_pos e)) (g_lt e)
set_option maxRecDepth 100000 in
/-- A multiple of half the period. -/
theorem g_halves (e m : Nat) : gP (e + m * 28948022309329048855892746252171976963317496166410141009864396001978282409974) = if m % 2 = 0 then gP e else pP - gP e := by
  induction m with
  | zero => rw [Nat.zero_mul, Nat.add_zero]; rfl
  | succ m ih =>
    rw [Nat.succ_mul, ← Nat.add_assoc, g_neg, ih]
    have := g_lt e
    by_cases h : m % 2 = 0
    · rw [if_pos h, if_neg (by omega)]
    · rw [if_neg h, if_pos (by omega)]; omega

set_option maxRecDepth 100000 in
theorem ones_g (k n : Nat) : rOnes (gP k) n = gP (k * (2 ^ n - 1)) := by
  induction n with
  | zero => rw [Nat.pow_zero, Nat.sub_self, Nat.mul_zero, g_zero]; rfl
  | succ n ih =>
    show (rOnes (gP k) n * rOnes (gP k) n % pP) * gP k % pP = _
    rw [ih, ← g_add, ← g_add]
    congr 1
    have h1 : 0 < 2 ^ n := Nat.two_pow_pos n
    rw [Nat.pow_succ]
    obtain ⟨m, hm⟩ : ∃ m, 2 ^ n = m + 1 := ⟨2 ^ n - 1, by omega⟩
    rw [hm, Nat.add_sub_cancel, show (m + 1) * 2 - 1 = m + m + 1 by omega, Nat.mul_add, Nat.mul_add, Nat.mul_one]
set_option maxRecDepth 100000 in
theorem ones250 (k : Nat) : rOnes (gP k) 250 = gP (k * 1809251394333065553493296640760748560207343510400633813116524750123642650623) := by
  rw [ones_g, show 2 ^ 250 - 1 = 1809251394333065553493296640760748560207343510400633813116524750123642650623 from by decide]
/-- The exponent. -/
def exB (k u : Nat) (l : List UInt8) : Nat → Nat
  | 0 => u
  | j + 1 => if (((l.getD j 0).toNat : Int) == 49) = true then exB k u l j + exB k u l j + k else exB k u l j + exB k u l j
set_option maxRecDepth 100000 in
theorem rBits_g (k u : Nat) (l : List UInt8) (j : Nat) : rBits (gP k) (gP u) l j = gP (exB k u l j) := by
  induction j with
  | zero => rfl
  | succ j ih =>
    show (if (((l.getD j 0).toNat : Int) == 49) = true then (rBits (gP k) (gP u) l j * rBits (gP k) (gP u) l j % pP) * gP k % pP else rBits (gP k) (gP u) l j * rBits (gP k) (gP u) l j % pP) = gP (if (((l.getD j 0).toNat : Int) == 49) = true then exB k u l j + exB k u l j + k else exB k u l j + exB k u l j)
    rw [ih]
    split
    · rw [← g_add, ← g_add]
    · rw [← g_add]
set_option maxRecDepth 100000 in
theorem ex_inv (k u : Nat) : exB k u [48, 49, 48, 49, 49] 5 = 32 * u + 11 * k := by
  show (((u + u) + (u + u) + k) + ((u + u) + (u + u) + k)) + (((u + u) + (u + u) + k) + ((u + u) + (u + u) + k)) + k + ((((u + u) + (u + u) + k) + ((u + u) + (u + u) + k)) + (((u + u) + (u + u) + k) + ((u + u) + (u + u) + k)) + k) + k = _
  omega
set_option maxRecDepth 100000 in
theorem ex_root0 (k u : Nat) : exB k u [49, 48] 2 = 4 * u + 2 * k := by
  show (u + u + k) + (u + u + k) = _
  omega
set_option maxRecDepth 100000 in
theorem ex_rootS (k u : Nat) : exB k u [48, 49, 49] 3 = 8 * u + 3 * k := by
  show ((u + u) + (u + u) + k) + ((u + u) + (u + u) + k) + k = _
  omega
set_option maxRecDepth 100000 in
theorem inv_g (k : Nat) : rInv (gP k) = gP (k * 57896044618658097711785492504343953926634992332820282019728792003956564819947) := by
  unfold rInv rPow
  rw [ones250, rBits_g]
  refine congrArg gP ((ex_inv k _).trans ?_)
  omega
set_option maxRecDepth 100000 in
theorem root0_g (k : Nat) : rRoot0 (gP k) = gP (k * 7237005577332262213973186563042994240829374041602535252466099000494570602494) := by
  unfold rRoot0 rPow
  rw [ones250, rBits_g]
  refine congrArg gP ((ex_root0 k _).trans ?_)
  omega
set_option maxRecDepth 100000 in
theorem rootS_g : rRootS = gP 14474011154664524427946373126085988481658748083205070504932198000989141204987 := by
  unfold rRootS rPow
  rw [← g_one1, ones250, rBits_g]
  refine congrArg gP ((ex_rootS 1 _).trans ?_)
  omega
set_option maxRecDepth 100000 in
/-- What is multiplied by its inverse is 1. -/
theorem inv_one {a : Nat} (h0 : 0 < a) (h1 : a < pP) : a * rInv a % pP = 1 := by
  obtain ⟨k, rfl⟩ := g_log h0 h1
  rw [inv_g, ← g_add, show k + k * 57896044618658097711785492504343953926634992332820282019728792003956564819947 = k * 57896044618658097711785492504343953926634992332820282019728792003956564819948 by omega]
  exact g_period k
set_option maxRecDepth 100000 in
theorem inv_nought : 0 * rInv 0 % pP = 0 := by rw [Nat.zero_mul, Nat.zero_mod]

set_option maxRecDepth 100000 in
theorem odd_half (x : Nat) (h : x < pP) : x ≠ pP - x := by unfold pP at *; omega
set_option maxRecDepth 100000 in
/-- Just the even powers have roots. -/
theorem is_g (k : Nat) : rIs (gP k) = decide (k % 2 = 0) := by
  have hX : gP (k * 7237005577332262213973186563042994240829374041602535252466099000494570602494) * gP (k * 7237005577332262213973186563042994240829374041602535252466099000494570602494) % pP = gP (k + k * 14474011154664524427946373126085988481658748083205070504932198000989141204987) := by rw [← g_add]; exact congrArg gP (by omega)
  have hS : gP 14474011154664524427946373126085988481658748083205070504932198000989141204987 * gP 14474011154664524427946373126085988481658748083205070504932198000989141204987 % pP = gP 28948022309329048855892746252171976963317496166410141009864396001978282409974 := by rw [← g_add]
  have hY : (gP (k * 7237005577332262213973186563042994240829374041602535252466099000494570602494) * gP 14474011154664524427946373126085988481658748083205070504932198000989141204987 % pP) * (gP (k * 7237005577332262213973186563042994240829374041602535252466099000494570602494) * gP 14474011154664524427946373126085988481658748083205070504932198000989141204987 % pP) % pP = gP (k + k * 14474011154664524427946373126085988481658748083205070504932198000989141204987 + 28948022309329048855892746252171976963317496166410141009864396001978282409974) := by rw [← g_add, ← g_add]; exact congrArg gP (by omega)
  unfold rIs rRoot1
  rw [root0_g, rootS_g, hX]
  have hlt := g_lt k
  have hpos := g_pos k
  by_cases hk : k % 2 = 0
  · rw [decide_eq_true hk]
    have hm : k * 14474011154664524427946373126085988481658748083205070504932198000989141204987 = (k / 2) * 28948022309329048855892746252171976963317496166410141009864396001978282409974 := by
      have : k = 2 * (k / 2) := by omega
      omega
    by_cases hx : gP (k + k * 14474011154664524427946373126085988481658748083205070504932198000989141204987) = gP k
    · rw [if_pos (decide_eq_true hx), hX, decide_eq_true hx]
    · rw [if_neg (by simpa using hx), hY]
      rw [hm, g_halves] at hx
      have h4 : (k / 2) % 2 ≠ 0 := fun h => hx (by rw [if_pos h])
      rw [hm, Nat.add_assoc, ← Nat.succ_mul, g_halves, if_pos (by omega), decide_eq_true rfl]
  · rw [decide_eq_false hk]
    -- squares: otherwise a number would be its own negative
    have key : ∀ m, m % 2 = 1 → gP (k + k * 14474011154664524427946373126085988481658748083205070504932198000989141204987 + (m - 1) * 28948022309329048855892746252171976963317496166410141009864396001978282409974) ≠ gP k := by
      intro m hm h
      have h2 : gP (k + k * 14474011154664524427946373126085988481658748083205070504932198000989141204987 + (m - 1) * 28948022309329048855892746252171976963317496166410141009864396001978282409974) * gP (k + k * 14474011154664524427946373126085988481658748083205070504932198000989141204987 + (m - 1) * 28948022309329048855892746252171976963317496166410141009864396001978282409974) % pP = gP k * gP k % pP := by rw [h]
      rw [← g_add, ← g_add] at h2
      rw [show k + k * 14474011154664524427946373126085988481658748083205070504932198000989141204987 + (m - 1) * 28948022309329048855892746252171976963317496166410141009864396001978282409974 + (k + k * 14474011154664524427946373126085988481658748083205070504932198000989141204987 + (m - 1) * 28948022309329048855892746252171976963317496166410141009864396001978282409974) = (k + k) + (k + 2 * (m - 1)) * 28948022309329048855892746252171976963317496166410141009864396001978282409974 by omega, g_halves, if_neg (by omega)] at h2
      exact odd_half _ (g_lt (k + k)) h2.symm
    have k1 := key 1 rfl
    have k2 : gP (k + k * 14474011154664524427946373126085988481658748083205070504932198000989141204987 + 28948022309329048855892746252171976963317496166410141009864396001978282409974) ≠ gP k := by
      intro h
      have h2 : gP (k + k * 14474011154664524427946373126085988481658748083205070504932198000989141204987 + 28948022309329048855892746252171976963317496166410141009864396001978282409974) * gP (k + k * 14474011154664524427946373126085988481658748083205070504932198000989141204987 + 28948022309329048855892746252171976963317496166410141009864396001978282409974) % pP = gP k * gP k % pP := by rw [h]
      rw [← g_add, ← g_add] at h2
      rw [show k + k * 14474011154664524427946373126085988481658748083205070504932198000989141204987 + 28948022309329048855892746252171976963317496166410141009864396001978282409974 + (k + k * 14474011154664524427946373126085988481658748083205070504932198000989141204987 + 28948022309329048855892746252171976963317496166410141009864396001978282409974) = (k + k) + (k + 2) * 28948022309329048855892746252171976963317496166410141009864396001978282409974 by omega, g_halves, if_neg (by omega)] at h2
      exact odd_half _ (g_lt (k + k)) h2.symm
    rw [show k + k * 14474011154664524427946373126085988481658748083205070504932198000989141204987 + (1 - 1) * 28948022309329048855892746252171976963317496166410141009864396001978282409974 = k + k * 14474011154664524427946373126085988481658748083205070504932198000989141204987 by omega] at k1
    rw [if_neg (by simpa using k1), hY, decide_eq_false k2]
set_option maxRecDepth 100000 in
/-- Of a number and twice it just one has roots. -/
theorem is_twice {a : Nat} (h0 : 0 < a) (h1 : a < pP) : rIs ((a + a) % pP) = !rIs a := by
  obtain ⟨k, rfl⟩ := g_log h0 h1
  have e : (gP k + gP k) % pP = gP (k + 1) := by rw [g_add, g_one1, Nat.mul_two]
  rw [e, is_g, is_g]
  by_cases hk : k % 2 = 0
  · rw [decide_eq_true hk, decide_eq_false (by omega)]; rfl
  · rw [decide_eq_false hk, decide_eq_true (by omega)]; rfl
end Go.Proofs.YtceljjnohjnepaaDoor

namespace Go.Proofs.YtceljjnohjnepaaDoor
open Go.RowKit DG
attribute [local go_sem ↓] exl_Elem exs_Elem
                 attribute [local go_sem] ldr_Elem str_Elem
attribute [local go_sem] to_quad0

set_option maxRecDepth 100000 in
set_option maxHeartbeats 1000000 in
theorem add_any (a b : Nat) (W : World) (ha : a < p2) (hb : b < p2) : Calls Tryd.prog 37 #[.agg (quad a), .agg (quad b)] W fun e w' => e = .returned (.agg (quad (addN a b))) ∧ Below W.heap.size W w' := by
  obtain ⟨a0, a1, a2, a3, hq, hw4⟩ := quad_w4 a ha
  have HA := hid hw4
  obtain ⟨h0, h1, h2, h3, h0', h1', h2', h3', _⟩ := hw4
  obtain ⟨b0, b1, b2, b3, hqb, hw4⟩ := quad_w4 b hb
  have HB := hid hw4
  obtain ⟨g0, g1, g2, g3, g0', g1', g2', g3', _⟩ := hw4
  rw [hq, hqb]
  clear hq hqb
  obtain ⟨r, hr⟩ : ∃ r, addN a b = r := ⟨_, rfl⟩
  rw [hr]
  have HR := hid hr
  clear hr
  go_enter Tryd.func37, Tryd.ntmps37
  go_wp2_with fail
  refine wp_loop_rounds 5 ?_
  rw [rounds_succ]
  obtain ⟨d0, e0, hr0, da0, db0, ea0, eb0, pa0, pb0⟩ := add64_run a0 b0 0 (by omega) (by omega) (by omega)
  go_wp2_with fail
  refine wp_region_stf 13 (fun w => w.setCell ⟨W.heap.size, 0, none⟩ (.int .u64 d0)) (by kernel_rfl) (by kernel_rfl) (by decide) ?_
  repeat (first | (refine wpStf_quiet (by decide) (by rfl) (fun K hK => ?_); go_simp; refine hK _ ?_; clear hK K; try go_ints) | (refine wpStf_store (by rfl) (by rfl) (fun K hK => ?_); go_simp; refine hK _ ?_; clear hK K; try go_ints) | (refine wpStf_free (by decide) (fun K hK => ?_); go_simp; refine hK _ ?_; clear hK K; try go_ints))
  refine wpStf_nil ?_
  go_wp2_with fail
  clear hr0
  rw [rounds_succ]
  obtain ⟨d1, e1, hr1, da1, db1, ea1, eb1, pa1, pb1⟩ := add64_run a1 b1 e0 (by omega) (by omega) (by omega)
  go_wp2_with fail
  refine wp_region_stf 13 (fun w => w.setCell ⟨W.heap.size, 1, none⟩ (.int .u64 d1)) (by kernel_rfl) (by kernel_rfl) (by decide) ?_
  repeat (first | (refine wpStf_quiet (by decide) (by rfl) (fun K hK => ?_); go_simp; refine hK _ ?_; clear hK K; try go_ints) | (refine wpStf_store (by rfl) (by rfl) (fun K hK => ?_); go_simp; refine hK _ ?_; clear hK K; try go_ints) | (refine wpStf_free (by decide) (fun K hK => ?_); go_simp; refine hK _ ?_; clear hK K; try go_ints))
  refine wpStf_nil ?_
  go_wp2_with fail
  clear hr1
  rw [rounds_succ]
  obtain ⟨d2, e2, hr2, da2, db2, ea2, eb2, pa2, pb2⟩ := add64_run a2 b2 e1 (by omega) (by omega) (by omega)
  go_wp2_with fail
  refine wp_region_stf 13 (fun w => w.setCell ⟨W.heap.size, 2, none⟩ (.int .u64 d2)) (by kernel_rfl) (by kernel_rfl) (by decide) ?_
  repeat (first | (refine wpStf_quiet (by decide) (by rfl) (fun K hK => ?_); go_simp; refine hK _ ?_; clear hK K; try go_ints) | (refine wpStf_store (by rfl) (by rfl) (fun K hK => ?_); go_simp; refine hK _ ?_; clear hK K; try go_ints) | (refine wpStf_free (by decide) (fun K hK => ?_); go_simp; refine hK _ ?_; clear hK K; try go_ints))
  refine wpStf_nil ?_
  go_wp2_with fail
  clear hr2
  rw [rounds_succ]
  obtain ⟨d3, e3, hr3, da3, db3, ea3, eb3, pa3, pb3⟩ := add64_run a3 b3 e2 (by omega) (by omega) (by omega)
  go_wp2_with fail
  refine wp_region_stf 13 (fun w => w.setCell ⟨W.heap.size, 3, none⟩ (.int .u64 d3)) (by kernel_rfl) (by kernel_rfl) (by decide) ?_
  repeat (first | (refine wpStf_quiet (by decide) (by rfl) (fun K hK => ?_); go_simp; refine hK _ ?_; clear hK K; try go_ints) | (refine wpStf_store (by rfl) (by rfl) (fun K hK => ?_); go_simp; refine hK _ ?_; clear hK K; try go_ints) | (refine wpStf_free (by decide) (fun K hK => ?_); go_simp; refine hK _ ?_; clear hK K; try go_ints))
  refine wpStf_nil ?_
  go_wp2_with fail
  clear hr3
  rw [rounds_succ]
  go_wp2_with fail
  have hs := add_sum (a0 := a0) (a1 := a1) (a2 := a2) (a3 := a3) (b0 := b0) (b1 := b1) (b2 := b2) (b3 := b3) (d0 := d0) (d1 := d1) (d2 := d2) (d3 := d3) (e0 := e0) (e1 := e1) (e2 := e2) (e3 := e3) (by omega) (by omega) (by omega) (by omega)
  have hbnd := four_lt da0 da1 da2 da3 db0 db1 db2 db3
  rw [HA.out.eq, HB.out.eq] at hs
  clear h0 h1 h2 h3 h0' h1' h2' h3' g0 g1 g2 g3 g0' g1' g2' g3' pa0 pb0 pa1 pb1 pa2 pb2 pa3 pb3 ha hb
  have hsp := split_carry (X := a + b) (D := d0 + 18446744073709551616 * d1 + 340282366920938463463374607431768211456 * d2 + 6277101735386680763835789423207666416102355444464034512896 * d3) (e := e3) (by rw [hs]; simp) hbnd.1 hbnd.2 ea3
  have hw4 : W4 ((a + b) % p2) d0 d1 d2 d3 := w4_of ⟨da0, db0⟩ ⟨da1, db1⟩ ⟨da2, db2⟩ ⟨da3, db3⟩ hsp.1
  rw [show #[Value.int IntKind.u64 d0, Value.int IntKind.u64 d1, Value.int IntKind.u64 d2, Value.int IntKind.u64 d3] = quad ((a + b) % p2) from hw4.quad.symm]
  have hn : 38 * ((a + b) / p2) ≤ 10000 := by have := hsp.2; omega
  have he3 : 38 * e3 = ((38 * ((a + b) / p2) : Nat) : Int) := by rw [hsp.2]; omega
  rw [he3]
  refine (plus_any ((a + b) % p2) (38 * ((a + b) / p2)) _ (Nat.mod_lt _ (by decide)) hn).mono ?_
  rintro e w' ⟨rfl, hb1⟩
  rw [show plusN ((a + b) % p2) (38 * ((a + b) / p2)) = r from HR.out]
  have gR := Kept.on (kept (b := W.heap.size + 1 + 1) (o := .cells (quad 0) 44 (0, 0)) (by go_simp)) hb1
  have bb : Hid (Below W.heap.size W w') := below_to (by repeat (first | exact Below.refl _ _ | exact below_new _ | assumption | refine Below.drew ?_ | refine Below.drewN ?_ _ | refine below_alloc ?_ _ | refine below_blk' ?_ (by omega) _)) hb1
  obtain ⟨g1, g2, g3, g4⟩ := gR
  clear hb1 hs hbnd hsp hw4 hn he3
  go_wp2_with fail
  refine bodyPost_ret (v := .agg (quad r)) (results_cell_row Tryd.results37 _ _ (W.heap.size + 1 + 1) 44 (quad r) (0, 0) _ (by rfl) (by rw [← hget_eq]; go_simp) Tryd.underlying44 rfl (by rw [info_Elem]; go_simp)) rfl ?_
  exact ⟨rfl, by repeat (first | exact Below.refl _ _ | exact below_new _ | exact bb.out | assumption | refine Below.drew ?_ | refine Below.drewN ?_ _ | refine below_alloc ?_ _ | refine below_blk' ?_ (by omega) _)⟩

end Go.Proofs.YtceljjnohjnepaaDoor

namespace Go.Proofs.YtceljjnohjnepaaDoor
open DG

set_option maxRecDepth 100000 in
theorem la1 (a b : Nat) : addN a b % pP = addN b a % pP := by rw [add_mod, add_mod, Nat.add_comm]
set_option maxRecDepth 100000 in
theorem la2 (a b : Nat) : mulN a b % pP = mulN b a % pP := by rw [mul_mod, mul_mod, Nat.mul_comm]
set_option maxRecDepth 100000 in
theorem am (a b : Nat) : addN a b % pP = (a % pP + b % pP) % pP := add_mod2 a b
set_option maxRecDepth 100000 in
theorem la3 (a b c : Nat) : addN (addN a b) c % pP = addN a (addN b c) % pP := by
  rw [add_mod, add_mod, Nat.add_mod, add_mod, ← Nat.add_mod, Nat.add_mod a, add_mod, ← Nat.add_mod, Nat.add_assoc]
set_option maxRecDepth 100000 in
theorem la4 (a b c : Nat) : mulN (mulN a b) c % pP = mulN a (mulN b c) % pP := by
  rw [mul_mod, mul_mod, Nat.mul_mod, mul_mod, ← Nat.mul_mod, Nat.mul_mod a, mul_mod, ← Nat.mul_mod, Nat.mul_assoc]
set_option maxRecDepth 100000 in
theorem la5 (a b c : Nat) : mulN a (addN b c) % pP = addN (mulN a b) (mulN a c) % pP := by
  rw [mul_mod, add_mod, Nat.mul_mod, add_mod, ← Nat.mul_mod, Nat.add_mod (mulN a b), mul_mod, mul_mod, ← Nat.add_mod, Nat.mul_add]
set_option maxRecDepth 100000 in
theorem la6 {a b : Nat} (ha : a < p2) (hb : b < p2) : addN (subN a b) b % pP = a % pP := by rw [add_mod]; exact sub_mod ha hb
set_option maxRecDepth 100000 in
theorem la7 {a : Nat} (ha : a < p2) : subN a a % pP = 0 % pP := by
  rw [sub_mod2 ha ha, show a % pP + (pP - a % pP) = pP by have := Nat.mod_lt a (show 0 < pP by decide); omega, Nat.mod_self, Nat.zero_mod]
set_option maxRecDepth 100000 in
/-- Just one of the two is so. -/
theorem zmod : 0 % pP = 0 := Nat.zero_mod _
set_option maxRecDepth 100000 in
theorem omod : 1 % pP = 1 := Nat.mod_eq_of_lt (by unfold pP; omega)
set_option maxRecDepth 100000 in
theorem la8 (a : Nat) : decide (mulN a (invN a) % pP = 1 % pP) = !decide (a % pP = 0 % pP) := by
  rw [mm, inv_mod, omod, zmod]
  have hlt := Nat.mod_lt a (show 0 < pP by decide)
  by_cases h : a % pP = 0
  · rw [h, inv_nought]; rfl
  · rw [inv_one (Nat.pos_of_ne_zero h) hlt, decide_eq_false h]; rfl

set_option maxRecDepth 100000 in
/-- The root of a number that is not 0 is not 0. -/
theorem root1_ne {b : Nat} (h : rIs b = true) (h0 : b ≠ 0) : rRoot1 b ≠ 0 := fun e => by
  unfold rIs at h
  rw [e, Nat.zero_mul, Nat.zero_mod] at h
  exact h0 (of_decide_eq_true h).symm
set_option maxRecDepth 100000 in
theorem root2_par {b : Nat} (odd : Bool) (h0 : rRoot1 b ≠ 0) : (decide (rRoot2 b odd % 2 = 1) == odd) = true := by
  unfold rRoot2
  by_cases hc : (decide (rRoot1 b % 2 = 1) != odd) = true
  · rw [if_pos hc, parity (by decide) (rRoot1_lt b) h0]
    cases hd : decide (rRoot1 b % 2 = 1) <;> cases odd <;> simp [hd] at hc ⊢
  · rw [if_neg hc]
    cases hd : decide (rRoot1 b % 2 = 1) <;> cases odd <;> simp [hd] at hc ⊢
set_option maxRecDepth 100000 in
theorem ok_is {a : Nat} (ha : a < p2) (odd : Bool) (h0 : a % pP ≠ 0) : rootOk a odd = rIs (a % pP) := by
  rw [ok_mod ha]
  cases h : rIs (a % pP)
  · rfl
  · rw [root2_par odd (root1_ne h h0)]; rfl
set_option maxRecDepth 100000 in
theorem v_is {a : Nat} (ha : a < p2) (odd : Bool) (h : rIs (a % pP) = true) : rootV a odd % pP = rRoot2 (a % pP) odd := by rw [rootV_mod ha, if_pos h]
set_option maxRecDepth 100000 in
theorem v_sq {a : Nat} (ha : a < p2) (odd : Bool) (h : rIs (a % pP) = true) : mulN (rootV a odd) (rootV a odd) % pP = a % pP := by
  rw [mm, v_is ha odd h, rsq]
  unfold rIs at h
  exact of_decide_eq_true h
set_option maxRecDepth 100000 in
theorem v_par {a : Nat} (ha : a < p2) (odd : Bool) (h : rIs (a % pP) = true) (h0 : a % pP ≠ 0) : decide (rootV a odd % pP % 2 = 1) = odd := by
  rw [v_is ha odd h]
  have := root2_par odd (root1_ne h h0)
  simpa using this
set_option maxRecDepth 100000 in
theorem v_sum {a : Nat} (ha : a < p2) (h : rIs (a % pP) = true) : addN (rootV a false) (rootV a true) % pP = 0 % pP := by
  rw [am, v_is ha _ h, v_is ha _ h]
  unfold rRoot2
  have hr := rRoot1_lt (a % pP)
  have key : ∀ P r : Nat, r < P → ((r + (0 + (P - r)) % P) % P = 0 ∧ ((0 + (P - r)) % P + r) % P = 0) := fun P r h => by
    rw [Nat.add_mod_mod, Nat.mod_add_mod, show r + (0 + (P - r)) = P by omega, show 0 + (P - r) + r = P by omega, Nat.mod_self]
    exact ⟨rfl, rfl⟩
  rw [zmod]
  cases hd : decide (rRoot1 (a % pP) % 2 = 1)
  · rw [if_neg (by decide), if_pos (by decide)]; exact (key _ _ hr).1
  · rw [if_pos (by decide), if_neg (by decide)]; exact (key _ _ hr).2
set_option maxRecDepth 100000 in
theorem twice_is {a : Nat} (h0 : a % pP ≠ 0) : rIs (addN a a % pP) = !rIs (a % pP) := by
  rw [am]
  exact is_twice (Nat.pos_of_ne_zero h0) (Nat.mod_lt _ (by decide))
set_option maxRecDepth 100000 in
theorem twice_key {P x : Nat} (hP : P % 2 = 1) (h0 : x ≠ 0) (h1 : x < P) : (x + x) % P ≠ 0 := fun h => by
  by_cases hc : x + x < P
  · rw [Nat.mod_eq_of_lt hc] at h; omega
  · rw [Nat.mod_eq_sub_mod (by omega), Nat.mod_eq_of_lt (by omega)] at h; omega
set_option maxRecDepth 100000 in
theorem twice_ne {a : Nat} (h0 : a % pP ≠ 0) : addN a a % pP ≠ 0 := by
  rw [am]
  exact twice_key (by decide) h0 (Nat.mod_lt a (by decide))
set_option maxRecDepth 100000 in
/-- Of 0. -/
theorem rOnes_nought (k : Nat) : rOnes 0 (k + 1) = 0 := by
  show (rOnes 0 k * rOnes 0 k % pP) * 0 % pP = 0
  rw [Nat.mul_zero, Nat.zero_mod]
set_option maxRecDepth 100000 in
theorem rBits_nought (l : List UInt8) (k : Nat) : rBits 0 0 l k = 0 := by
  induction k with
  | zero => rfl
  | succ k ih =>
    show (if _ then (rBits 0 0 l k * rBits 0 0 l k % pP) * 0 % pP else rBits 0 0 l k * rBits 0 0 l k % pP) = 0
    rw [ih, Nat.mul_zero, Nat.mul_zero, Nat.zero_mod]
    split <;> rfl
set_option maxRecDepth 100000 in
theorem root0_nought : rRoot0 0 = 0 := by
  unfold rRoot0 rPow
  rw [rOnes_nought 249, rBits_nought]
set_option maxRecDepth 100000 in
theorem root00 : rRoot1 0 = 0 := by
  unfold rRoot1
  rw [root0_nought, Nat.zero_mul, Nat.zero_mod, if_pos (decide_eq_true rfl)]
set_option maxRecDepth 100000 in
theorem is0 : rIs 0 = true := by
  unfold rIs
  rw [root00, Nat.zero_mul, Nat.zero_mod]
  rfl
set_option maxRecDepth 100000 in
theorem neg_nought : (0 + (pP - 0)) % pP = 0 := by rw [Nat.zero_add, Nat.sub_zero, Nat.mod_self]
set_option maxRecDepth 100000 in
theorem ok_nought {a : Nat} (ha : a < p2) (odd : Bool) (h0 : a % pP = 0) : rootOk a odd = !odd := by
  rw [ok_mod ha, h0, is0]
  unfold rRoot2
  rw [root00, neg_nought]
  cases odd <;> rfl
set_option maxRecDepth 100000 in
theorem v_nought {a : Nat} (ha : a < p2) (odd : Bool) (h0 : a % pP = 0) : rootV a odd % pP = 0 % pP := by
  rw [rootV_mod ha, h0, is0, if_pos rfl, Nat.zero_mod]
  unfold rRoot2
  rw [root00, neg_nought]
  split <;> rfl
set_option maxRecDepth 100000 in
theorem twice_nought {a : Nat} (h0 : a % pP = 0) : addN a a % pP = 0 := by rw [am, h0, Nat.zero_mod]
end Go.Proofs.YtceljjnohjnepaaDoor
