/- A region that draws its order and whose last operation waits for all the others: the others by whatever law, then the last. -/
import Derived.Test.YtejkimhmpnogkaaDoorGHO
import Derived.Test.YtejkimhmpnogkaaDoorFLT
namespace Go.Proofs.YtejkimhmpnogkaaDoor
open Go Go.RowKit

section
variable {P : Program} {md : Region.Mode} {l : List Oper} {st : Oper} {Q : Exit → Act → World → Prop}

/-- What is asked of the operations. -/
structure Peel (md : Region.Mode) (l : List Oper) (st : Oper) : Prop where
  ordered : ∀ (i : Nat) (o : Oper), l[i]? = some o → ∀ e ∈ o.after, Region.binds md e = true → e.on < i
  guards : ∀ (i : Nat) (o : Oper), l[i]? = some o → ∀ j b, o.guard = some (j, b) → j < l.length
  waits : ∀ i, i < l.length → (∃ e ∈ st.after, Region.binds md e = true ∧ e.on = i) ∨ ∃ j o, i < j ∧ l[j]? = some o ∧ ∃ e ∈ o.after, Region.binds md e = true ∧ e.on = i
  stok : ∀ e ∈ st.after, Region.binds md e = true → e.on < l.length
def peelB (md : Region.Mode) (l : List Oper) (st : Oper) : Bool :=
  ((List.range l.length).all fun i => match l[i]? with
    | some o => (o.after.toList.all fun e => !Region.binds md e || decide (e.on < i)) && (match o.guard with | some (j, _) => decide (j < l.length) | none => true)
    | none => true) &&
  ((List.range l.length).all fun i => (st.after.toList.any fun e => Region.binds md e && e.on == i) || (List.range l.length).any fun j => decide (i < j) && (match l[j]? with | some o => o.after.toList.any fun e => Region.binds md e && e.on == i | none => false)) && (st.after.toList.all fun e => !Region.binds md e || decide (e.on < l.length))
theorem Peel.of (h : peelB md l st = true) : Peel md l st := by
  unfold peelB at h
  simp only [Bool.and_eq_true, List.all_eq_true, List.mem_range] at h
  obtain ⟨⟨h1, h2⟩, h3⟩ := h
  have g1 : ∀ (i : Nat) (o : Oper), l[i]? = some o → (∀ e ∈ o.after, Region.binds md e = true → e.on < i) ∧ ∀ j b, o.guard = some (j, b) → j < l.length := fun i o ho => by
    have hi : i < l.length := (List.getElem?_eq_some_iff.1 ho).1
    have h4 := h1 i hi
    rw [ho] at h4
    simp only [Bool.and_eq_true, List.all_eq_true] at h4
    refine ⟨fun e he hb => ?_, fun j b hg => ?_⟩
    · have := h4.1 e (Array.mem_toList_iff.2 he)
      simpa [hb] using this
    · have := h4.2
      rw [hg] at this
      simpa using this
  refine ⟨fun i o ho => (g1 i o ho).1, fun i o ho => (g1 i o ho).2, fun i hi => ?_, fun e he hb => ?_⟩
  · rcases Bool.or_eq_true_iff.1 (h2 i hi) with h4 | h4
    · obtain ⟨e, he, hb⟩ := List.any_eq_true.1 h4
      simp only [Bool.and_eq_true, beq_iff_eq] at hb
      exact .inl ⟨e, Array.mem_toList_iff.1 he, hb.1, hb.2⟩
    · obtain ⟨j, hj, hb⟩ := List.any_eq_true.1 h4
      simp only [Bool.and_eq_true, decide_eq_true_eq] at hb
      obtain ⟨hij, hb⟩ := hb
      have hjl := List.mem_range.1 hj
      rw [List.getElem?_eq_getElem hjl] at hb
      obtain ⟨e, he, hb⟩ := List.any_eq_true.1 hb
      simp only [Bool.and_eq_true, beq_iff_eq] at hb
      exact .inr ⟨j, l[j], hij, List.getElem?_eq_getElem hjl, e, Array.mem_toList_iff.1 he, hb.1, hb.2⟩
  · have := h3 e (Array.mem_toList_iff.2 he)
    simpa [hb] using this

/-- What the others come to. -/
def before (P : Program) (l : List Oper) (st : Oper) (Q : Exit → Act → World → Prop) : Exit → Act → World → Prop
  | .normal, a, w => wpOp P (l ++ [st]).toArray Q l.length (fun a w => Q .normal a w) a w
  | e, a, w => Q e a w

theorem out_before (h : LetsOut (before P l st Q)) : LetsOut Q := h
theorem wp_before {o : Oper} {a : Act} {w : World} {K K' : Act → World → Prop} (hk : ∀ a w, K a w → K' a w) (hh : o.wp P a w K (before P l st Q)) : o.wp P a w K' Q := by
  unfold Oper.wp at *
  generalize (execOp a.eval o).run P w = r at *
  cases r with
  | ok n w' =>
    cases n <;> simp only [Oper.upon] at hh ⊢ <;>
      first
        | exact hk _ _ hh
        | exact Calls.mono hh (fun e w'' he => by cases e <;> first | exact hk _ _ he | exact he)
        | exact Rows.mono hh (fun _ _ he => hk _ _ he)
  | halt x w' => cases x <;> simp only [Oper.upon] at hh ⊢ <;> exact hh

theorem get_app {i : Nat} (h : i < l.length) : (l ++ [st]).toArray[i]? = l.toArray[i]? := by
  simp [List.getElem?_append_left h]
theorem get_last : (l ++ [st]).toArray[l.length]? = some st := by simp
theorem yielded_app (_hj : ∀ j b, (o : Oper) → o.guard = some (j, b) → True) {j : Nat} (h : j < l.length) (t : Array Value) : yielded (l ++ [st]).toArray t j = yielded l.toArray t j := by
  unfold yielded
  rw [get_app h]
theorem wanted_app (hp : Peel md l st) {i : Nat} {o : Oper} (ho : l[i]? = some o) (t : Array Value) : Region.wanted o (yielded (l ++ [st]).toArray t) = Region.wanted o (yielded l.toArray t) := by
  unfold Region.wanted
  cases hg : o.guard with
  | none => rfl
  | some g =>
    obtain ⟨j, b⟩ := g
    simp only []
    rw [yielded_app (fun _ _ _ _ => trivial) (hp.guards i o ho j b hg)]
theorem wpOp_app (hp : Peel md l st) {i : Nat} (hi : i < l.length) {a : Act} {w : World} {K K' : Act → World → Prop} (hk : ∀ a w, K a w → K' a w) (h : wpOp P l.toArray (before P l st Q) i K a w) : wpOp P (l ++ [st]).toArray Q i K' a w := by
  unfold wpOp at *
  rw [get_app hi]
  have ho : l.toArray[i]? = some l[i] := by simp
  have ho' : l[i]? = some l[i] := by simp
  simp only [ho] at h ⊢
  rw [wanted_app hp ho']
  split
  · rename_i hw
    rw [if_pos hw] at h
    exact h.imp (wp_before hk) (fun ⟨x, y⟩ => ⟨x, out_before y⟩)
  · rename_i hw
    rw [if_neg hw] at h
    exact hk _ _ h

theorem getD_tf {L : Array Bool} {i : Nat} (h : i < L.size) : L.getD i false = L.getD i true := by simp [h]
theorem all_listed (hp : Peel md l st) {L : Array Bool} (hL : L.size = l.length) (h : Region.ready md l.toArray L = []) : ∀ i, i < l.length → L.getD i true = true := by
  intro i
  induction i using Nat.strongRecOn with
  | ind i ih =>
    intro hi
    cases hl : L.getD i true with
    | true => rfl
    | false =>
      exfalso
      have : i ∈ Region.ready md l.toArray L := mem_ready.2 ⟨hl, l[i], by simp, fun e he hb => by
        have h1 := hp.ordered i l[i] (by simp) e he hb
        rw [getD_tf (by omega)]
        exact ih e.on h1 (by omega)⟩
      rw [h] at this
      cases this

/-- What the last one waits for, directly or through others, has come up. -/
theorem all_waited (hp : Peel md l st) {L : Array Bool} (_hL : L.size = l.length) (hc : Closed md l.toArray L) (h2 : ∀ e ∈ st.after, Region.binds md e = true → L.getD e.on false = true) : ∀ k i, l.length - i = k → i < l.length → L.getD i false = true := by
  intro k
  induction k using Nat.strongRecOn with
  | ind k ih =>
    intro i hk hi
    rcases hp.waits i hi with ⟨e, he, hb, rfl⟩ | ⟨j, o, hij, ho, e, he, hb, rfl⟩
    · exact h2 e he hb
    · have hj : j < l.length := (List.getElem?_eq_some_iff.1 ho).1
      exact hc j o (by simpa using ho) (ih (l.length - j) (by omega) j rfl hj) e he hb
theorem wpAny_peel (hp : Peel md l st) : ∀ (f : Nat) (L L' : Array Bool) (a : Act) (w : World), Closed md l.toArray L → L.size = l.length → L'.size = l.length + 1 → (∀ i, i < l.length → L'.getD i true = L.getD i true) → L'.getD l.length true = false →
    wpAny P md l.toArray (before P l st Q) f L a w → wpAny P md (l ++ [st]).toArray Q (f + 1) L' a w := by
  have last : ∀ (f : Nat) (L L' : Array Bool) (a : Act) (w : World), L.size = l.length → L'.size = l.length + 1 → (∀ i, i < l.length → L'.getD i true = L.getD i true) → Region.ready md l.toArray L = [] → before P l st Q .normal a w →
      wpOp P (l ++ [st]).toArray Q l.length (wpAny P md (l ++ [st]).toArray Q f (L'.setIfInBounds l.length true)) a w := by
    intro f L L' a w hL hL' hag hr hb
    have hall := all_listed hp hL hr
    have hnone : Region.ready md (l ++ [st]).toArray (L'.setIfInBounds l.length true) = [] := by
      refine List.eq_nil_iff_forall_not_mem.2 fun j hj => ?_
      obtain ⟨h1, o, ho, _⟩ := mem_ready.1 hj
      have hjl : j < (l ++ [st]).toArray.size := (Array.getElem?_eq_some_iff.1 ho).1
      simp at hjl
      rcases Nat.lt_or_ge j l.length with h2 | h2
      · rw [getD_set_ne true (by omega), hag j h2, hall j h2] at h1
        cases h1
      · have : j = l.length := by omega
        subst this
        simp [hL'] at h1
    refine wpOp_mono (fun a' w' hq => ?_) hb
    cases f with
    | zero => exact ⟨hnone, hq⟩
    | succ f => exact ⟨fun _ => hq, fun i hi => by rw [hnone] at hi; cases hi⟩
  have rdy : ∀ (L L' : Array Bool), Closed md l.toArray L → L.size = l.length → L'.size = l.length + 1 → (∀ i, i < l.length → L'.getD i true = L.getD i true) → L'.getD l.length true = false →
      ∀ i, i ∈ Region.ready md (l ++ [st]).toArray L' ↔ (i ∈ Region.ready md l.toArray L ∨ (i = l.length ∧ Region.ready md l.toArray L = [])) := by
    intro L L' hc hL hL' hag hn i
    constructor
    · intro hi
      obtain ⟨h1, o, ho, h2⟩ := mem_ready.1 hi
      have hjl : i < (l ++ [st]).toArray.size := (Array.getElem?_eq_some_iff.1 ho).1
      simp at hjl
      rcases Nat.lt_or_ge i l.length with h3 | h3
      · refine .inl (mem_ready.2 ⟨by rw [← hag i h3]; exact h1, o, by rw [← get_app h3]; exact ho, fun e he hb => ?_⟩)
        have h4 := hp.ordered i o (by rw [get_app h3] at ho; simpa using ho) e he hb
        have h5 := h2 e he hb
        rw [getD_tf (by omega)] at h5 ⊢
        rw [← hag e.on (by omega)]
        exact h5
      · have hil : i = l.length := by omega
        refine .inr ⟨hil, ?_⟩
        subst hil
        have : o = st := by rw [get_last] at ho; exact (Option.some.inj ho).symm
        subst this
        refine List.eq_nil_iff_forall_not_mem.2 fun j hj => ?_
        obtain ⟨g1, oj, hoj, _⟩ := mem_ready.1 hj
        have hjl2 : j < l.toArray.size := (Array.getElem?_eq_some_iff.1 hoj).1
        simp at hjl2
        have h5 := all_waited hp hL hc (fun e he hb => by
          have h4 := hp.stok e he hb
          have h5 := h2 e he hb
          rw [getD_tf (by omega), hag e.on h4] at h5
          rw [getD_tf (by omega)]; exact h5) _ j rfl hjl2
        rw [getD_tf (by omega)] at h5
        rw [h5] at g1
        cases g1
    · rintro (hi | ⟨rfl, hr⟩)
      · obtain ⟨h1, o, ho, h2⟩ := mem_ready.1 hi
        have h3 : i < l.length := by have := (Array.getElem?_eq_some_iff.1 ho).1; simpa using this
        refine mem_ready.2 ⟨by rw [hag i h3]; exact h1, o, by rw [get_app h3]; exact ho, fun e he hb => ?_⟩
        have h4 := hp.ordered i o (by simpa using ho) e he hb
        have h5 := h2 e he hb
        rw [getD_tf (by omega)] at h5 ⊢
        rw [hag e.on (by omega)]
        exact h5
      · have hall := all_listed hp hL hr
        refine mem_ready.2 ⟨hn, st, get_last, fun e he hb => ?_⟩
        have h4 := hp.stok e he hb
        rw [getD_tf (by omega), hag e.on h4]
        exact hall e.on h4
  intro f
  induction f with
  | zero =>
    intro L L' a w hc hL hL' hag hn h
    have hr := rdy L L' hc hL hL' hag hn
    refine ⟨fun h0 => ?_, fun i hi => ?_⟩
    · have := (hr l.length).2 (.inr ⟨rfl, h.1⟩)
      rw [h0] at this; cases this
    · rcases (hr i).1 hi with h1 | ⟨rfl, _⟩
      · rw [h.1] at h1; cases h1
      · exact last 0 L L' a w hL hL' hag h.1 h.2
  | succ f ih =>
    intro L L' a w hc hL hL' hag hn h
    have hr := rdy L L' hc hL hL' hag hn
    refine ⟨fun h0 => ?_, fun i hi => ?_⟩
    · exfalso
      by_cases hz : Region.ready md l.toArray L = []
      · have := (hr l.length).2 (.inr ⟨rfl, hz⟩)
        rw [h0] at this; cases this
      · obtain ⟨j, hj⟩ := List.exists_mem_of_ne_nil _ hz
        have := (hr j).2 (.inl hj)
        rw [h0] at this; cases this
    · rcases (hr i).1 hi with h1 | ⟨rfl, hz⟩
      · obtain ⟨_, o, ho, _⟩ := mem_ready.1 h1
        have h3 : i < l.length := by have := (Array.getElem?_eq_some_iff.1 ho).1; simpa using this
        refine wpOp_app hp h3 (fun a' w' hk => ih (L.setIfInBounds i true) (L'.setIfInBounds i true) a' w' (hc.set h1) (by simpa using hL) (by simpa using hL') (fun j hj => ?_) ?_ hk) (h.2 i h1)
        · by_cases hij : i = j
          · subst hij; simp [hL, hL', h3, Nat.lt_succ_of_lt h3]
          · rw [getD_set_ne true hij, getD_set_ne true hij]; exact hag j hj
        · rw [getD_set_ne true (by omega)]; exact hn
      · exact last _ L L' a w hL hL' hag hz (h.1 hz)

/-- The law on private operations, with a last operation behind all. -/
theorem wp_region_gho_last {id : Nat} {a : Act} {w : World} {l' : List Oper} {st : Oper} (n : Nat) (pv : List Nat) (Rel : Nat → Value → World → Prop) (hm : P.follows .mixedOrders = true) (hB : Region.lexB .any (l'.take n).toArray = true) (hP : privB (l'.take n).toArray pv = true)
    (hst : l'.drop n = [st]) (hpl : peelB .any (l'.take n) st = true) (hg : st.guard = none) (hR : ∀ p u w w', Rel p u w → Below w.heap.size w w' → Rel p u w')
    (h : wpGho P (l'.take n).toArray pv Rel (fun w' => ∃ x : Later w, w' = x.w') (Post1 pv Rel) (fun a' => ∀ g w', (∃ x : Later w, w' = x.w') → (∀ p ∈ pv, Rel p (g p) w') → wpList P l'.toArray Q [st] (over (l'.take n).toArray pv g a') w') 0 (l'.take n) a) : (Code.region id l'.toArray true).wp P Q a w := by
  have hl : l' = l'.take n ++ [st] := by rw [← hst, List.take_append_drop]
  generalize l'.take n = l at *
  subst hl
  simp only [Region.lexB, Bool.and_eq_true] at hB
  refine wp_region_any hm ?_
  have hp := Priv.of hP
  have h' : wpGho P l.toArray pv Rel (fun w' => ∃ x : Later w, w' = x.w') (Post1 pv Rel) (fun a' => ∀ g w', (∃ x : Later w, w' = x.w') → (∀ p ∈ pv, Rel p (g p) w') → before P l st Q .normal (over l.toArray pv g a') w') 0 l a := by
    refine (?_ : ∀ (k : Nat) (m : List Oper) (b : Act), wpGho P l.toArray pv Rel (fun w' => ∃ x : Later w, w' = x.w') (Post1 pv Rel) _ k m b → wpGho P l.toArray pv Rel (fun w' => ∃ x : Later w, w' = x.w') (Post1 pv Rel) _ k m b) 0 l a h
    intro k m
    induction m generalizing k with
    | nil =>
      intro b hb g w' hw hr
      have h1 := hb g w' hw hr
      show wpOp P (l ++ [st]).toArray Q l.length _ _ _
      unfold wpOp
      rw [get_last]
      unfold wpList at h1
      have hw : Region.wanted st (yielded (l ++ [st]).toArray (over l.toArray pv g b).tmps) = true := by unfold Region.wanted; rw [hg]
      simp only [hw, if_true] at h1 ⊢
      exact h1
    | cons o m ih =>
      rintro b ⟨v, h1, h2⟩
      exact ⟨v, h1, ih _ _ h2⟩
  have hx := wpAnyG_lex (P := P) (pv := pv) (Rel := Rel) (C := fun w' => ∃ x : Later w, w' = x.w') hp hB.1 l 0 (Array.replicate l.toArray.size false) a (by simp) (by simp) (fun j hj => absurd hj (Nat.not_lt_zero _)) (by simpa using hB.2) h'
  have hf : ∀ m j, (Array.replicate m false).getD j false = false := fun m j => by
    rcases Nat.lt_or_ge j m with h | h
    · simp [h]
    · simp [h]
  have hy := wpAny_of_gho (P := P) (ops := l.toArray) (pv := pv) (Rel := Rel) (C := fun w' => ∃ x : Later w, w' = x.w') (Post := Post1 pv Rel) hp (Region.noSelect_spec hB.1) (Q' := before P l st Q) l.length (fun _ _ => True)
    (fun hm => by obtain ⟨o, _, ho, _⟩ := hp.has _ hm; simp at ho) (fun o ho => by simp at ho) (fun listed hz _ hl => by
      have hz' : listed.size = l.length := by simpa using hz
      simp [Array.getElem?_eq_none (xs := listed) (i := l.length) (by omega)] at hl) (fun w1 w2 ⟨x, hx⟩ hb => by
      subst hx; exact ⟨⟨w2, below_to x.h hb⟩, rfl⟩) hR (fun _ _ _ _ _ => trivial) (fun _ _ _ _ _ _ _ h => h) (fun hlt => by simp at hlt) (fun g a w' hw _ hr hq => hq g w' hw (hr (by simp))) _ _ _ (fun _ => undef) a w.drew (fun j oj _ hl => by rw [hf] at hl; cases hl)
    ⟨rfl, rfl, fun t _ => by
      unfold valAt
      have : (pv.find? fun p => (Array.replicate l.toArray.size false).getD p false && dstOf l.toArray p == some t) = none := by
        rw [List.find?_eq_none]; intro p _; rw [hf]; simp
      rw [this]⟩ ⟨⟨w.drew, (Below.refl _ _).drew⟩, rfl⟩ (fun _ => trivial) (fun _ p _ hl => by rw [hf] at hl; cases hl) (by simp) hx
  have hz := wpAny_peel (md := .any) (Peel.of hpl) _ _ (Array.replicate (l ++ [st]).toArray.size false) a w.drew (fun j oj _ hl => by rw [hf] at hl; cases hl) (by simp) (by simp) (fun i hi => by simp [hi, Nat.lt_succ_of_lt hi]) (by simp) hy
  simpa using hz
end

end Go.Proofs.YtejkimhmpnogkaaDoor
