/- A region that draws its order and whose last operation waits for all the others: the others by whatever law, then the last. The queue's Read. The laws' helpers: works; and no queue. Plain: what a queue takes is never more than its window. Openers for arguments: a slice of structs of one-cell fields, at a plain address. A slice of structs that came in: its cells, and what its fields weigh. A script in memory; heavy. -/
import Derived.Test.YtkmkgfgppblleaaM03
import Derived.Test.YtkmkgfgppblleaaM02
import Derived.Test.YtkmkgfgppblleaaM01
import Derived.ProofKit
import Derived.OpenShut
import Derived.ShutString
import Derived.ChangeOld
import Derived.Deep.Slices
import Derived.Deep.Fields
import Derived.ChangeSame
import Derived.SizedLaws
namespace Go.Proofs.Ytkmkgfgppblleaa
open Go Go.RowKit

section
variable {P : Program} {md : Region.Mode} {l : List Oper} {st : Oper} {Q : Exit → Act → World → Prop}

/-- What is asked of the operations. -/
structure Peel (md : Region.Mode) (l : List Oper) (st : Oper) : Prop where
  ordered : ∀ (i : Nat) (o : Oper), l[i]? = some o → ∀ e ∈ o.after, Region.binds md e = true → e.on < i
  guards : ∀ (i : Nat) (o : Oper), l[i]? = some o → ∀ j b, o.guard = some (j, b) → j < l.length
  waits : ∀ i, i < l.length → (∃ e ∈ st.after, Region.binds md e = true ∧ e.on = i) ∨ ∃ j o, i < j ∧ l[j]? = some o ∧ ∃ e ∈ o.after, Region.binds md e = true ∧ e.on = i
  stok : ∀ e ∈ st.after, Region.binds md e = true → e.on < l.length
def peelB (md : Region.Mode) (l : List Oper) (st : Oper) : Bool :=
  ((List.range l.length).all fun i => match l[i]? with
    | some o => (o.after.toList.all fun e => !Region.binds md e || decide (e.on < i)) && (match o.guard with | some (j, _) => decide (j < l.length) | none => true)
    | none => true) &&
  ((List.range l.length).all fun i => (st.after.toList.any fun e => Region.binds md e && e.on == i) || (List.range l.length).any fun j => decide (i < j) && (match l[j]? with | some o => o.after.toList.any fun e => Region.binds md e && e.on == i | none => false)) && (st.after.toList.all fun e => !Region.binds md e || decide (e.on < l.length))
theorem Peel.of (h : peelB md l st = true) : Peel md l st := by
  unfold peelB at h
  simp only [Bool.and_eq_true, List.all_eq_true, List.mem_range] at h
  obtain ⟨⟨h1, h2⟩, h3⟩ := h
  have g1 : ∀ (i : Nat) (o : Oper), l[i]? = some o → (∀ e ∈ o.after, Region.binds md e = true → e.on < i) ∧ ∀ j b, o.guard = some (j, b) → j < l.length := fun i o ho => by
    have hi : i < l.length := (List.getElem?_eq_some_iff.1 ho).1
    have h4 := h1 i hi
    rw [ho] at h4
    simp only [Bool.and_eq_true, List.all_eq_true] at h4
    refine ⟨fun e he hb => ?_, fun j b hg => ?_⟩
    · have := h4.1 e (Array.mem_toList_iff.2 he)
      simpa [hb] using this
    · have := h4.2
      rw [hg] at this
      simpa using this
  refine ⟨fun i o ho => (g1 i o ho).1, fun i o ho => (g1 i o ho).2, fun i hi => ?_, fun e he hb => ?_⟩
  · rcases Bool.or_eq_true_iff.1 (h2 i hi) with h4 | h4
    · obtain ⟨e, he, hb⟩ := List.any_eq_true.1 h4
      simp only [Bool.and_eq_true, beq_iff_eq] at hb
      exact .inl ⟨e, Array.mem_toList_iff.1 he, hb.1, hb.2⟩
    · obtain ⟨j, hj, hb⟩ := List.any_eq_true.1 h4
      simp only [Bool.and_eq_true, decide_eq_true_eq] at hb
      obtain ⟨hij, hb⟩ := hb
      have hjl := List.mem_range.1 hj
      rw [List.getElem?_eq_getElem hjl] at hb
      obtain ⟨e, he, hb⟩ := List.any_eq_true.1 hb
      simp only [Bool.and_eq_true, beq_iff_eq] at hb
      exact .inr ⟨j, l[j], hij, List.getElem?_eq_getElem hjl, e, Array.mem_toList_iff.1 he, hb.1, hb.2⟩
  · have := h3 e (Array.mem_toList_iff.2 he)
    simpa [hb] using this

/-- What the others come to. -/
def before (P : Program) (l : List Oper) (st : Oper) (Q : Exit → Act → World → Prop) : Exit → Act → World → Prop
  | .normal, a, w => wpOp P (l ++ [st]).toArray Q l.length (fun a w => Q .normal a w) a w
  | e, a, w => Q e a w

theorem out_before (h : LetsOut (before P l st Q)) : LetsOut Q := h
theorem wp_before {o : Oper} {a : Act} {w : World} {K K' : Act → World → Prop} (hk : ∀ a w, K a w → K' a w) (hh : o.wp P a w K (before P l st Q)) : o.wp P a w K' Q := by
  unfold Oper.wp at *
  generalize (execOp a.eval o).run P w = r at *
  cases r with
  | ok n w' =>
    cases n <;> simp only [Oper.upon] at hh ⊢ <;>
      first
        | exact hk _ _ hh
        | exact Calls.mono hh (fun e w'' he => by cases e <;> first | exact hk _ _ he | exact he)
        | exact Rows.mono hh (fun _ _ he => hk _ _ he)
  | halt x w' => cases x <;> simp only [Oper.upon] at hh ⊢ <;> exact hh

theorem get_app {i : Nat} (h : i < l.length) : (l ++ [st]).toArray[i]? = l.toArray[i]? := by
  simp [List.getElem?_append_left h]
theorem get_last : (l ++ [st]).toArray[l.length]? = some st := by simp
theorem yielded_app (_hj : ∀ j b, (o : Oper) → o.guard = some (j, b) → True) {j : Nat} (h : j < l.length) (t : Array Value) : yielded (l ++ [st]).toArray t j = yielded l.toArray t j := by
  unfold yielded
  rw [get_app h]
theorem wanted_app (hp : Peel md l st) {i : Nat} {o : Oper} (ho : l[i]? = some o) (t : Array Value) : Region.wanted o (yielded (l ++ [st]).toArray t) = Region.wanted o (yielded l.toArray t) := by
  unfold Region.wanted
  cases hg : o.guard with
  | none => rfl
  | some g =>
    obtain ⟨j, b⟩ := g
    simp only []
    rw [yielded_app (fun _ _ _ _ => trivial) (hp.guards i o ho j b hg)]
theorem wpOp_app (hp : Peel md l st) {i : Nat} (hi : i < l.length) {a : Act} {w : World} {K K' : Act → World → Prop} (hk : ∀ a w, K a w → K' a w) (h : wpOp P l.toArray (before P l st Q) i K a w) : wpOp P (l ++ [st]).toArray Q i K' a w := by
  unfold wpOp at *
  rw [get_app hi]
  have ho : l.toArray[i]? = some l[i] := by simp
  have ho' : l[i]? = some l[i] := by simp
  simp only [ho] at h ⊢
  rw [wanted_app hp ho']
  split
  · rename_i hw
    rw [if_pos hw] at h
    exact h.imp (wp_before hk) (fun ⟨x, y⟩ => ⟨x, out_before y⟩)
  · rename_i hw
    rw [if_neg hw] at h
    exact hk _ _ h

theorem getD_tf {L : Array Bool} {i : Nat} (h : i < L.size) : L.getD i false = L.getD i true := by simp [h]
theorem all_listed (hp : Peel md l st) {L : Array Bool} (hL : L.size = l.length) (h : Region.ready md l.toArray L = []) : ∀ i, i < l.length → L.getD i true = true := by
  intro i
  induction i using Nat.strongRecOn with
  | ind i ih =>
    intro hi
    cases hl : L.getD i true with
    | true => rfl
    | false =>
      exfalso
      have : i ∈ Region.ready md l.toArray L := mem_ready.2 ⟨hl, l[i], by simp, fun e he hb => by
        have h1 := hp.ordered i l[i] (by simp) e he hb
        rw [getD_tf (by omega)]
        exact ih e.on h1 (by omega)⟩
      rw [h] at this
      cases this

/-- What the last one waits for, directly or through others, has come up. -/
theorem all_waited (hp : Peel md l st) {L : Array Bool} (_hL : L.size = l.length) (hc : Closed md l.toArray L) (h2 : ∀ e ∈ st.after, Region.binds md e = true → L.getD e.on false = true) : ∀ k i, l.length - i = k → i < l.length → L.getD i false = true := by
  intro k
  induction k using Nat.strongRecOn with
  | ind k ih =>
    intro i hk hi
    rcases hp.waits i hi with ⟨e, he, hb, rfl⟩ | ⟨j, o, hij, ho, e, he, hb, rfl⟩
    · exact h2 e he hb
    · have hj : j < l.length := (List.getElem?_eq_some_iff.1 ho).1
      exact hc j o (by simpa using ho) (ih (l.length - j) (by omega) j rfl hj) e he hb
theorem wpAny_peel (hp : Peel md l st) : ∀ (f : Nat) (L L' : Array Bool) (a : Act) (w : World), Closed md l.toArray L → L.size = l.length → L'.size = l.length + 1 → (∀ i, i < l.length → L'.getD i true = L.getD i true) → L'.getD l.length true = false →
    wpAny P md l.toArray (before P l st Q) f L a w → wpAny P md (l ++ [st]).toArray Q (f + 1) L' a w := by
  have last : ∀ (f : Nat) (L L' : Array Bool) (a : Act) (w : World), L.size = l.length → L'.size = l.length + 1 → (∀ i, i < l.length → L'.getD i true = L.getD i true) → Region.ready md l.toArray L = [] → before P l st Q .normal a w →
      wpOp P (l ++ [st]).toArray Q l.length (wpAny P md (l ++ [st]).toArray Q f (L'.setIfInBounds l.length true)) a w := by
    intro f L L' a w hL hL' hag hr hb
    have hall := all_listed hp hL hr
    have hnone : Region.ready md (l ++ [st]).toArray (L'.setIfInBounds l.length true) = [] := by
      refine List.eq_nil_iff_forall_not_mem.2 fun j hj => ?_
      obtain ⟨h1, o, ho, _⟩ := mem_ready.1 hj
      have hjl : j < (l ++ [st]).toArray.size := (Array.getElem?_eq_some_iff.1 ho).1
      simp at hjl
      rcases Nat.lt_or_ge j l.length with h2 | h2
      · rw [getD_set_ne true (by omega), hag j h2, hall j h2] at h1
        cases h1
      · have : j = l.length := by omega
        subst this
        simp [hL'] at h1
    refine wpOp_mono (fun a' w' hq => ?_) hb
    cases f with
    | zero => exact ⟨hnone, hq⟩
    | succ f => exact ⟨fun _ => hq, fun i hi => by rw [hnone] at hi; cases hi⟩
  have rdy : ∀ (L L' : Array Bool), Closed md l.toArray L → L.size = l.length → L'.size = l.length + 1 → (∀ i, i < l.length → L'.getD i true = L.getD i true) → L'.getD l.length true = false →
      ∀ i, i ∈ Region.ready md (l ++ [st]).toArray L' ↔ (i ∈ Region.ready md l.toArray L ∨ (i = l.length ∧ Region.ready md l.toArray L = [])) := by
    intro L L' hc hL hL' hag hn i
    constructor
    · intro hi
      obtain ⟨h1, o, ho, h2⟩ := mem_ready.1 hi
      have hjl : i < (l ++ [st]).toArray.size := (Array.getElem?_eq_some_iff.1 ho).1
      simp at hjl
      rcases Nat.lt_or_ge i l.length with h3 | h3
      · refine .inl (mem_ready.2 ⟨by rw [← hag i h3]; exact h1, o, by rw [← get_app h3]; exact ho, fun e he hb => ?_⟩)
        have h4 := hp.ordered i o (by rw [get_app h3] at ho; simpa using ho) e he hb
        have h5 := h2 e he hb
        rw [getD_tf (by omega)] at h5 ⊢
        rw [← hag e.on (by omega)]
        exact h5
      · have hil : i = l.length := by omega
        refine .inr ⟨hil, ?_⟩
        subst hil
        have : o = st := by rw [get_last] at ho; exact (Option.some.inj ho).symm
        subst this
        refine List.eq_nil_iff_forall_not_mem.2 fun j hj => ?_
        obtain ⟨g1, oj, hoj, _⟩ := mem_ready.1 hj
        have hjl2 : j < l.toArray.size := (Array.getElem?_eq_some_iff.1 hoj).1
        simp at hjl2
        have h5 := all_waited hp hL hc (fun e he hb => by
          have h4 := hp.stok e he hb
          have h5 := h2 e he hb
          rw [getD_tf (by omega), hag e.on h4] at h5
          rw [getD_tf (by omega)]; exact h5) _ j rfl hjl2
        rw [getD_tf (by omega)] at h5
        rw [h5] at g1
        cases g1
    · rintro (hi | ⟨rfl, hr⟩)
      · obtain ⟨h1, o, ho, h2⟩ := mem_ready.1 hi
        have h3 : i < l.length := by have := (Array.getElem?_eq_some_iff.1 ho).1; simpa using this
        refine mem_ready.2 ⟨by rw [hag i h3]; exact h1, o, by rw [get_app h3]; exact ho, fun e he hb => ?_⟩
        have h4 := hp.ordered i o (by simpa using ho) e he hb
        have h5 := h2 e he hb
        rw [getD_tf (by omega)] at h5 ⊢
        rw [hag e.on (by omega)]
        exact h5
      · have hall := all_listed hp hL hr
        refine mem_ready.2 ⟨hn, st, get_last, fun e he hb => ?_⟩
        have h4 := hp.stok e he hb
        rw [getD_tf (by omega), hag e.on h4]
        exact hall e.on h4
  intro f
  induction f with
  | zero =>
    intro L L' a w hc hL hL' hag hn h
    have hr := rdy L L' hc hL hL' hag hn
    refine ⟨fun h0 => ?_, fun i hi => ?_⟩
    · have := (hr l.length).2 (.inr ⟨rfl, h.1⟩)
      rw [h0] at this; cases this
    · rcases (hr i).1 hi with h1 | ⟨rfl, _⟩
      · rw [h.1] at h1; cases h1
      · exact last 0 L L' a w hL hL' hag h.1 h.2
  | succ f ih =>
    intro L L' a w hc hL hL' hag hn h
    have hr := rdy L L' hc hL hL' hag hn
    refine ⟨fun h0 => ?_, fun i hi => ?_⟩
    · exfalso
      by_cases hz : Region.ready md l.toArray L = []
      · have := (hr l.length).2 (.inr ⟨rfl, hz⟩)
        rw [h0] at this; cases this
      · obtain ⟨j, hj⟩ := List.exists_mem_of_ne_nil _ hz
        have := (hr j).2 (.inl hj)
        rw [h0] at this; cases this
    · rcases (hr i).1 hi with h1 | ⟨rfl, hz⟩
      · obtain ⟨_, o, ho, _⟩ := mem_ready.1 h1
        have h3 : i < l.length := by have := (Array.getElem?_eq_some_iff.1 ho).1; simpa using this
        refine wpOp_app hp h3 (fun a' w' hk => ih (L.setIfInBounds i true) (L'.setIfInBounds i true) a' w' (hc.set h1) (by simpa using hL) (by simpa using hL') (fun j hj => ?_) ?_ hk) (h.2 i h1)
        · by_cases hij : i = j
          · subst hij; simp [hL, hL', h3, Nat.lt_succ_of_lt h3]
          · rw [getD_set_ne true hij, getD_set_ne true hij]; exact hag j hj
        · rw [getD_set_ne true (by omega)]; exact hn
      · exact last _ L L' a w hL hL' hag hz (h.1 hz)

/-- The law on private operations, with a last operation behind all. -/
theorem wp_region_gho_last {id : Nat} {a : Act} {w : World} {l' : List Oper} {st : Oper} (n : Nat) (pv : List Nat) (Rel : Nat → Value → World → Prop) (hm : P.follows .mixedOrders = true) (hB : Region.lexB .any (l'.take n).toArray = true) (hP : privB (l'.take n).toArray pv = true)
    (hst : l'.drop n = [st]) (hpl : peelB .any (l'.take n) st = true) (hg : st.guard = none) (hR : ∀ p u w w', Rel p u w → Below w.heap.size w w' → Rel p u w')
    (h : wpGho P (l'.take n).toArray pv Rel (fun w' => ∃ x : Later w, w' = x.w') (Post1 pv Rel) (fun a' => ∀ g w', (∃ x : Later w, w' = x.w') → (∀ p ∈ pv, Rel p (g p) w') → wpList P l'.toArray Q [st] (over (l'.take n).toArray pv g a') w') 0 (l'.take n) a) : (Code.region id l'.toArray true).wp P Q a w := by
  have hl : l' = l'.take n ++ [st] := by rw [← hst, List.take_append_drop]
  generalize l'.take n = l at *
  subst hl
  simp only [Region.lexB, Bool.and_eq_true] at hB
  refine wp_region_any hm ?_
  have hp := Priv.of hP
  have h' : wpGho P l.toArray pv Rel (fun w' => ∃ x : Later w, w' = x.w') (Post1 pv Rel) (fun a' => ∀ g w', (∃ x : Later w, w' = x.w') → (∀ p ∈ pv, Rel p (g p) w') → before P l st Q .normal (over l.toArray pv g a') w') 0 l a := by
    refine (?_ : ∀ (k : Nat) (m : List Oper) (b : Act), wpGho P l.toArray pv Rel (fun w' => ∃ x : Later w, w' = x.w') (Post1 pv Rel) _ k m b → wpGho P l.toArray pv Rel (fun w' => ∃ x : Later w, w' = x.w') (Post1 pv Rel) _ k m b) 0 l a h
    intro k m
    induction m generalizing k with
    | nil =>
      intro b hb g w' hw hr
      have h1 := hb g w' hw hr
      show wpOp P (l ++ [st]).toArray Q l.length _ _ _
      unfold wpOp
      rw [get_last]
      unfold wpList at h1
      have hw : Region.wanted st (yielded (l ++ [st]).toArray (over l.toArray pv g b).tmps) = true := by unfold Region.wanted; rw [hg]
      simp only [hw, if_true] at h1 ⊢
      exact h1
    | cons o m ih =>
      rintro b ⟨v, h1, h2⟩
      exact ⟨v, h1, ih _ _ h2⟩
  have hx := wpAnyG_lex (P := P) (pv := pv) (Rel := Rel) (C := fun w' => ∃ x : Later w, w' = x.w') hp hB.1 l 0 (Array.replicate l.toArray.size false) a (by simp) (by simp) (fun j hj => absurd hj (Nat.not_lt_zero _)) (by simpa using hB.2) h'
  have hf : ∀ m j, (Array.replicate m false).getD j false = false := fun m j => by
    rcases Nat.lt_or_ge j m with h | h
    · simp [h]
    · simp [h]
  have hy := wpAny_of_gho (P := P) (ops := l.toArray) (pv := pv) (Rel := Rel) (C := fun w' => ∃ x : Later w, w' = x.w') (Post := Post1 pv Rel) hp (Region.noSelect_spec hB.1) (Q' := before P l st Q) l.length (fun _ _ => True)
    (fun hm => by obtain ⟨o, _, ho, _⟩ := hp.has _ hm; simp at ho) (fun o ho => by simp at ho) (fun listed hz _ hl => by
      have hz' : listed.size = l.length := by simpa using hz
      simp [Array.getElem?_eq_none (xs := listed) (i := l.length) (by omega)] at hl) (fun w1 w2 ⟨x, hx⟩ hb => by
      subst hx; exact ⟨⟨w2, below_to x.h hb⟩, rfl⟩) hR (fun _ _ _ _ _ => trivial) (fun _ _ _ _ _ _ _ h => h) (fun hlt => by simp at hlt) (fun g a w' hw _ hr hq => hq g w' hw (hr (by simp))) _ _ _ (fun _ => undef) a w.drew (fun j oj _ hl => by rw [hf] at hl; cases hl)
    ⟨rfl, rfl, fun t _ => by
      unfold valAt
      have : (pv.find? fun p => (Array.replicate l.toArray.size false).getD p false && dstOf l.toArray p == some t) = none := by
        rw [List.find?_eq_none]; intro p _; rw [hf]; simp
      rw [this]⟩ ⟨⟨w.drew, (Below.refl _ _).drew⟩, rfl⟩ (fun _ => trivial) (fun _ p _ hl => by rw [hf] at hl; cases hl) (by simp) hx
  have hz := wpAny_peel (md := .any) (Peel.of hpl) _ _ (Array.replicate (l ++ [st]).toArray.size false) a w.drew (fun j oj _ hl => by rw [hf] at hl; cases hl) (by simp) (by simp) (fun i hi => by simp [hi, Nat.lt_succ_of_lt hi]) (by simp) hy
  simpa using hz
end

end Go.Proofs.Ytkmkgfgppblleaa

namespace Go.Proofs.Ytkmkgfgppblleaa
open Go.RowKit FL

/-- Bytes that are appended to a slice that has no room: a new row, or nothing. -/
theorem run_append_fresh {P : Program} (w : World) (t ty : TypeId) (i : TypeInfo) (ht : P.underlying t = some (.slice 5)) (hi : P.info? 5 = some i) (hz : i.zero = some (.int .u8 0)) (hs1 : i.size = 1) (hb1 : i.bytes = 1)
    (g n c : Nat) (cur : Array Value) (m : List UInt8) (hc : hget w g = some (.cells cur 5 (0, 0))) (hcm : cur.size ≤ maxLen) (hm : ∀ j, j < m.length → w.cell? ⟨g, n + j, none⟩ = some (.int .u8 ((m.getD j 0).toNat : Int))) (hlen : m.length ≤ 140737488355328) :
    ∃ v' w', (Builtin.append_ #[t, t] ty #[.slice (some ⟨g, 0, none⟩) 0 0, .slice (some ⟨g, n, none⟩) m.length c]).run P w = .ok v' w' ∧ OwnsQ w' v' m ∧ Below w.heap.size w w' ∧ (v'.ownBlock = some g ∨ v'.ownBlock = some w.heap.size) := by
  have hsrc : Src P 1 t (.slice (some ⟨g, n, none⟩) m.length c) m.length (u8s m) w := Src.ofSlice (P := P) (size := 1) (tx := t) (w := w) ht ⟨g, n, none⟩ m.length c (u8s m) (by simp [u8s_length]) (fun j u hu => by
    have hj : j < m.length := by have := (List.getElem?_eq_some_iff.1 hu).1; rwa [u8s_length] at this
    rw [Addr.add_mid, hm j hj, ← hu]
    unfold u8s
    simp [hj]) (by unfold u8s; intro u hu; obtain ⟨x, _, rfl⟩ := List.mem_map.1 hu; rfl)
  rcases Nat.eq_zero_or_pos m.length with h0 | h0
  · have hm0 : m = [] := List.eq_nil_of_length_eq_zero h0
    subst hm0
    have hr := run_append_room_src (P := P) w t t ty 5 i ht hi g 0 0 0 _ 0 (u8s []) (by rw [hs1]; exact hsrc) (Nat.le_refl _) (fun j hj => by simp [u8s] at hj) (fun j hj => by simp [u8s] at hj)
    exact ⟨_, _, hr, .inr ⟨g, 0, cur, rfl, hc, Nat.le_refl _, Nat.zero_le _, hcm, by simp [u8s]⟩, Below.refl _ _, .inl rfl⟩
  · obtain ⟨v', w', h1, h2, h3, h4⟩ := run_append_Q (P := P) w t t ty i ht hi hz hs1 hb1 (.slice (some ⟨g, 0, none⟩) 0 0) _ [] m (.inr ⟨g, 0, cur, rfl, hc, Nat.le_refl _, Nat.zero_le _, hcm, by simp [u8s]⟩) hsrc h0 (by simpa using hlen)
    have hr := run_append_grow_src (P := P) w t t ty 5 i (.int .u8 0) ht hi hz (some ⟨g, 0, none⟩) 0 0 [] (by rw [hs1]; simpa using run_firstCells_some (P := P) w.drew 1 0 ⟨g, 0, none⟩ 0 0 [] rfl (fun j u hu => by simp at hu)) _ m.length (u8s m) (by rw [hs1]; exact hsrc) (by omega) (by omega) (by
      rw [hb1, Nat.mul_one]
      have := nextslicecap_le (need := 0 + m.length) (old := 0) (by omega)
      omega)
    rw [h1] at hr
    injection hr with e1 e2
    refine ⟨v', w', h1, by simpa using h2, ?_, by rw [e1]; exact .inr rfl⟩
    rw [e2]
    exact ⟨rfl, rfl, rfl, by simp, fun k hk => heap_alloc_old w.drew _ hk⟩

theorem gOut_append {P : Program} {R : Value → World → Prop} {o : Oper} {a : Act} {w w1 : World} (s x : Operand) (t tx : TypeId) (ho : o.op = .call { callee := .builtin .append, args := #[s, x], argTypes := #[t, tx] }) {v y v' : Value}
    (hv : a.eval s = v) (hy : a.eval x = y) (hr : (Builtin.append_ #[t, tx] o.type #[v, y]).run P w = .ok v' w1) (hb : Below w.heap.size w w1) (hR : R v' w1) : gOut P w R ((execOp a.eval o).run P w) := by
  unfold execOp
  simp only [ho, resolve, invoke, builtin, Sem.run_bind, Sem.run_pure, Result.andThen_ok, List.map_toArray, List.map_cons, List.map_nil, hv, hy, hr]
  exact ⟨hb, hR⟩
theorem conv_nil (w : World) : (convert 24 9 (.slice none 0 0)).run Try.prog w = .ok (.string ⟨#[]⟩) w := by kernel_rfl
theorem app_nil (w : World) : (Builtin.append_ #[24, 24] 24 #[.slice none 0 0, .slice none 0 0]).run Try.prog w = .ok (.slice none 0 0) w := by kernel_rfl

section
variable {w : World} {P M : Nat} {rv : Value} {en : Int} {s : FS}
set_option maxHeartbeats 4000000 in
theorem read_any (hq : QAt w P M rv en s) (hs : Inv s) (most : Int) : Calls Try.prog 11 #[.pointer (some ⟨P, 0, none⟩), .int .i64 most] w fun r w' => r = .returned (.string ⟨(s.ready.take (readN s most)).toArray⟩) ∧ ∃ rv', QAt w' P M rv' en (read s most) ∧ Out (QEx P M rv) w w' ∧ Near w rv rv' := by
  have gP := hq.cells
  have hroom := hs.room
  have hsz := hs.size
  have hN : min (max most 0) (s.ready.length : Int) = ((readN s most : Nat) : Int) := by unfold readN; omega
  have hNl : readN s most ≤ s.ready.length := by unfold readN; omega
  have HRD := hid (show (read s most) = { s with ready := s.ready.drop (readN s most) } from rfl)
  generalize readN s most = N at *
  have HQ := hid hq
  clear hq
  rcases HQ.out.ready with ⟨rfl, hnil⟩ | ⟨g, cap, cur, rfl, hcur, h1, h2, h3, h4⟩
  · have hN1 : min (max most 0) (0 : Int) = 0 := by omega
    rw [hnil] at hNl
    have hN0 : N = 0 := by simpa using hNl
    subst hN0
    have hconv := conv_nil
    have happ := app_nil
    have HNIL := hid hnil
    clear hN hNl hroom hsz hs hnil
    have cP0 : w.cell? ⟨P, 0, none⟩ = some (.int .u32 _) := cell_at gP 0
    have cP1 : w.cell? ⟨P, 1, none⟩ = some (.int .i64 _) := cell_at gP 1
    have cP2 : w.cell? ⟨P, 2, none⟩ = some (.slice none 0 0) := cell_at gP 2
    have cP3 : w.cell? ⟨P, 3, none⟩ = some (.map (some M)) := cell_at gP 3
    have cP4 : w.cell? ⟨P, 4, none⟩ = some (.bool _) := cell_at gP 4
    have cP5 : w.cell? ⟨P, 5, none⟩ = some (.int .u32 _) := cell_at gP 5
    have cP6 : w.cell? ⟨P, 6, none⟩ = some (.bool _) := cell_at gP 6
    have fP := free_at gP
    go_enter Try.func11, Try.ntmps11
    go_wp2_with fail
    refine still_tail 15 (by kernel_rfl) (by kernel_rfl) ?_
    simp only [List.take_succ_cons, List.take_zero, List.drop_succ_cons, List.drop_zero]
    repeat (first | (refine wpStill_step (fun K hK => ?_); go_simp; refine hK _ ?_; clear hK K; try go_ints))
    refine wpStill_nil ?_
    go_wp2_with fail
    go_ret
    rw [HRD.out]
    have hq := HQ.out
    obtain ⟨D, hown, hD⟩ := hq.own
    refine ⟨by simp, .slice none 0 0, ⟨hget_setCell (w := w.drew) gP 2 (.slice none 0 0), ⟨D, World.ownsMap.setCell (w := w.drew) hown (a := ⟨P, 2, none⟩) (Ne.symm hq.ne) _, hD⟩, .inl ⟨rfl, HNIL.out⟩, hq.ne, hq.rp, hq.rm, hq.enr, hq.fin⟩, (Out.refl _ _).drew.setCell (.inl (.inl rfl)) _, .inl rfl⟩
  · have hcells : ∀ j, j < s.ready.length → w.cell? ⟨g, j, none⟩ = some (.int .u8 ((s.ready.getD j 0).toNat : Int)) := fun j hj => by
      rw [cell_at hcur]
      have h5 : cur.toList[j]? = (u8s s.ready)[j]? := by
        have h6 : (cur.toList.take s.ready.length)[j]? = cur.toList[j]? := by rw [List.getElem?_take, if_pos hj]
        rw [← h6, h4]
      rw [← Array.getElem?_toList, h5]
      unfold u8s
      simp [hj]
    have hconv := conv_string w g 0 N cap (s.ready.take N) (by rw [List.length_take]; omega) (fun j hj => by
      rw [Nat.zero_add, hcells j (by omega)]
      simp only [List.getD_eq_getElem?_getD, List.getElem?_take, if_pos hj])
    obtain ⟨n0, hn0, hif⟩ : ∃ n0, (N < s.ready.length → n0 = N) ∧ (if cap = N then some (⟨g, 0, none⟩ : Addr) else some ⟨g, N, none⟩) = some ⟨g, n0, none⟩ := by
      by_cases h : cap = N
      · exact ⟨0, fun h5 => by omega, by rw [if_pos h]⟩
      · exact ⟨N, fun _ => rfl, by rw [if_neg h]⟩
    have happ : ∀ x : Later w, ∃ v' w1, (Builtin.append_ #[24, 24] 24 #[.slice (some ⟨g, 0, none⟩) 0 0, .slice (some ⟨g, n0, none⟩) (s.ready.length - N) (cap - N)]).run Try.prog x.w' = .ok v' w1 ∧ OwnsQ w1 v' (s.ready.drop N) ∧ Below x.w'.heap.size x.w' w1 ∧ (v'.ownBlock = some g ∨ v'.ownBlock = some x.w'.heap.size) := fun x => by
      obtain ⟨i0, hi, hz0, hz1, hz2⟩ := info_parts info_u8
      have h := run_append_fresh (P := Try.prog) x.w' 24 24 i0 Try.underlying24 hi hz0 hz1 hz2 g n0 (cap - N) cur (s.ready.drop N) (later_block hcur x) h3 (fun j hj => by
        rw [List.length_drop] at hj
        rw [hn0 (by omega), later_cell (hcells (N + j) (by omega)) x]
        simp only [List.getD_eq_getElem?_getD, List.getElem?_drop]) (by rw [List.length_drop]; omega)
      rw [List.length_drop] at h
      exact h
    have hgw := hget_lt hcur
    obtain ⟨L, hL⟩ : ∃ L, s.ready.length = L := ⟨_, rfl⟩
    rw [hL] at gP hN hNl h1
    simp only [hL] at happ
    have hcapi : (cap : Int) ≤ 9223372036854775807 := by unfold maxLen at h3; omega
    have HC := hid hcells
    have HAPP := hid happ
    clear hcells h4 happ
    have cP0 : w.cell? ⟨P, 0, none⟩ = some (.int .u32 _) := cell_at gP 0
    have cP1 : w.cell? ⟨P, 1, none⟩ = some (.int .i64 _) := cell_at gP 1
    have cP2 : w.cell? ⟨P, 2, none⟩ = some (.slice (some ⟨g, 0, none⟩) L cap) := cell_at gP 2
    have cP3 : w.cell? ⟨P, 3, none⟩ = some (.map (some M)) := cell_at gP 3
    have cP4 : w.cell? ⟨P, 4, none⟩ = some (.bool _) := cell_at gP 4
    have cP5 : w.cell? ⟨P, 5, none⟩ = some (.int .u32 _) := cell_at gP 5
    have cP6 : w.cell? ⟨P, 6, none⟩ = some (.bool _) := cell_at gP 6
    have fP := free_at gP
    go_enter Try.func11, Try.ntmps11
    go_wp2_with fail
    have jP2 := later_cell cP2
    refine wp_region_gho_last 15 [12] (fun _ u w' => OwnsQ w' u (s.ready.drop N) ∧ (u.ownBlock = some g ∨ ∃ k, u.ownBlock = some k ∧ w.heap.size ≤ k)) (by kernel_rfl) (by kernel_rfl) (by kernel_rfl) (by rfl) (by kernel_rfl) (by rfl) (fun _ u w w' ⟨h1, h2⟩ hb => ⟨h1.keep fun g o _ ho => keepB hb ho, h2⟩) ?_
    simp only [List.take_succ_cons, List.take_zero]
    repeat (first | (refine wpGho_plain (by kernel_rfl) (by decide) (by rfl) (by rfl) (fun K hK => ?_); go_simp; refine hK _ ?_; clear hK K; try go_ints))
    refine wpGho_make (by kernel_rfl) (by decide) (by rfl) (by rfl) (by rfl) (fun K hK => ?_)
    refine ⟨fun x => ?_, hK _ ?_⟩
    · obtain ⟨v', w1, happ, h5, h6, h7⟩ := HAPP.out x
      refine gOut_append _ _ 24 24 rfl rfl rfl happ h6 ⟨h5, ?_⟩
      rcases h7 with h7 | h7
      · exact .inl h7
      · exact .inr ⟨_, h7, x.h.size⟩
    clear hK K
    simp only [Act.put, List.setIfInBounds_toArray, List.set_cons_zero, List.set_cons_succ]
    repeat (first | (refine wpGho_plain (by kernel_rfl) (by decide) (by rfl) (by rfl) (fun K hK => ?_); go_simp; refine hK _ ?_; clear hK K; try go_ints))
    refine wpGho_nil ?_
    intro gg wM hwM hR
    obtain ⟨⟨w8, hM⟩, e8⟩ := hwM
    change wM = w8 at e8
    subst e8
    obtain ⟨h8, h9⟩ := hR 12 (by decide)
    rw [show ∀ a, over _ [12] gg a = Act.put a (some 36) (gg 12) from fun _ => rfl]
    obtain ⟨va, vl, vc, hvs⟩ : ∃ a n c, gg 12 = .slice a n c := by obtain ⟨a, c, h, _⟩ := h8.shape; exact ⟨_, _, _, h⟩
    rw [hvs] at h8 h9 ⊢
    have H8 := hid h8
    have H9 := hid h9
    simp only [Act.put, List.setIfInBounds_toArray, List.set_cons_zero, List.set_cons_succ]
    have gM : hget wM P = _ := later_block gP ⟨_, hM⟩
    have HM := hid hM
    clear cP0 cP1 cP2 cP3 cP4 cP5 cP6 fP h8 h9 hR hM jP2
    have cP0 : wM.cell? ⟨P, 0, none⟩ = some (.int .u32 _) := cell_at gM 0
    have cP1 : wM.cell? ⟨P, 1, none⟩ = some (.int .i64 _) := cell_at gM 1
    have cP2 : wM.cell? ⟨P, 2, none⟩ = some (.slice (some ⟨g, 0, none⟩) L cap) := cell_at gM 2
    have cP3 : wM.cell? ⟨P, 3, none⟩ = some (.map (some M)) := cell_at gM 3
    have cP4 : wM.cell? ⟨P, 4, none⟩ = some (.bool _) := cell_at gM 4
    have cP5 : wM.cell? ⟨P, 5, none⟩ = some (.int .u32 _) := cell_at gM 5
    have cP6 : wM.cell? ⟨P, 6, none⟩ = some (.bool _) := cell_at gM 6
    have fP := free_at gM
    go_wp2_with fail
    go_ret
    rw [HRD.out]
    have hq := HQ.out
    have hqM := hq.below HM.out
    obtain ⟨D, hown, hD⟩ := hqM.own
    have hg : (Value.slice (some ⟨g, 0, none⟩) s.ready.length cap).ownBlock = some g := rfl
    have hgP : g ≠ P := fun e => hq.rp (by rw [hg, e])
    have hgM : g ≠ M := fun e => hq.rm (by rw [hg, e])
    have hPw := hget_lt hq.cells
    have hMw := hq.lt M (.inr (.inl rfl))
    have hvP : (Value.slice va vl vc).ownBlock ≠ some P := by
      rcases H9.out with h | ⟨k, h, h'⟩ <;> rw [h]
      · simp; exact hgP
      · simp; omega
    have hvM : (Value.slice va vl vc).ownBlock ≠ some M := by
      rcases H9.out with h | ⟨k, h, h'⟩ <;> rw [h]
      · simp; exact hgM
      · simp; omega
    refine ⟨rfl, .slice va vl vc, ⟨hget_setCell gM 2 (.slice va vl vc), ⟨D, hown.setCell (a := ⟨P, 2, none⟩) (Ne.symm hq.ne) _, hD⟩, ?_, hq.ne, hvP, hvM, hq.enr, hq.fin⟩, (Out.of_below HM.out).setCell (.inl (.inl rfl)) _, ?_⟩
    · exact H8.out.keep fun g o hg ho => hget_setCell_ne ho (fun e => hvP (by rw [hg, e])) _
    · rcases H9.out with h | h
      · exact .inl (h.trans hg.symm)
      · exact .inr h
end
end Go.Proofs.Ytkmkgfgppblleaa

namespace Go.Proofs.Ytkmkgfgppblleaa
open Go.RowKit FL

section
variable {w : World} {P M : Nat} {rv : Value} {en : Int} {s : FS}
theorem Near.trans {w w' : World} {a b c : Value} (h : Near w a b) (k : Near w' b c) (hs : w.heap.size ≤ w'.heap.size) : Near w a c := by
  rcases k with k | ⟨g, k, hg⟩
  · rcases h with h | ⟨g, h, hg⟩
    · exact .inl (k.trans h)
    · exact .inr ⟨g, k.trans h, hg⟩
  · exact .inr ⟨g, k, Nat.le_trans hs hg⟩
theorem put_any (hq : QAt w P M rv en s) (hs : Inv s) (x : Nat) (hx : x < 4294967296) (d : ByteArray) (f : Bool) :
    Calls Try.prog 10 #[.pointer (some ⟨P, 0, none⟩), .int .u32 (x : Int), .string d, .bool f] w fun r w' => r = .returned (.bool (took s x d.data.toList f)) ∧ ∃ rv' en', QAt w' P M rv' en' (put s x d.data.toList f) ∧ Out (QEx P M rv) w w' ∧ Near w rv rv' := by
  have hl : d.data.toList.length = d.size := by simp
  cases h : (s.ended || decide (65536 < d.size))
  · have hne : s.ended = false := by cases he : s.ended <;> rw [he] at h <;> first | rfl | cases h
    have hd : d.size ≤ 65536 := by rw [hne] at h; simpa using h
    exact put_yes_any hq hs x hx d f hne hd
  · have h2 : (s.ended || decide (65536 < d.data.toList.length)) = true := by rw [hl]; exact h
    refine (put_no_any hq x d f h).mono ?_
    rintro r w' ⟨rfl, hd⟩
    rw [put_no h2]
    refine ⟨?_, rv, en, hq.dr hd, Out.of_dr hd, .inl rfl⟩
    unfold took
    rw [if_pos h2]
end

/-- What stands of a queue that was made behind W, and what stands beside it. -/
def QBeh (W w : World) (P M : Nat) (s : FS) (E : List (Nat × Obj)) : Prop :=
  ∃ rv en, QAt w P M rv en s ∧ Inv s ∧ (∀ k, QEx P M rv k → W.heap.size ≤ k) ∧ Below W.heap.size W w ∧ ∀ p ∈ E, hget w p.1 = some p.2 ∧ ¬ QEx P M rv p.1
section
variable {W w w' : World} {P M : Nat} {s : FS} {E : List (Nat × Obj)}
theorem QBeh.dr (h : QBeh W w P M s E) (hd : Dr w w') : QBeh W w' P M s E := by
  obtain ⟨rv, en, h1, h2, h3, h4, h5⟩ := h
  exact ⟨rv, en, h1.dr hd, h2, h3, h4.trans hd.below, fun p hp => ⟨(Out.of_dr (ex := fun _ => False) hd).get (h5 p hp).1 (fun e => e), (h5 p hp).2⟩⟩
theorem QBeh.below (h : QBeh W w P M s E) (hd : Below w.heap.size w w') : QBeh W w' P M s E := by
  obtain ⟨rv, en, h1, h2, h3, h4, h5⟩ := h
  exact ⟨rv, en, h1.below hd, h2, h3, below_to h4 hd, fun p hp => ⟨(Out.of_below (ex := fun _ => False) hd).get (h5 p hp).1 (fun e => e), (h5 p hp).2⟩⟩
theorem QBeh.old (h : QBeh W w P M s E) : Below W.heap.size W w := by obtain ⟨rv, en, h1, h2, h3, h4, h5⟩ := h; exact h4
theorem QBeh.inv (h : QBeh W w P M s E) : Inv s := by obtain ⟨rv, en, h1, h2, h3, h4, h5⟩ := h; exact h2
theorem QBeh.get (h : QBeh W w P M s E) {b : Nat} {o : Obj} (hm : (b, o) ∈ E) : hget w b = some o := by obtain ⟨rv, en, h1, h2, h3, h4, h5⟩ := h; exact (h5 _ hm).1
theorem QBeh.less (h : QBeh W w P M s E) {E' : List (Nat × Obj)} (hE : ∀ p ∈ E', p ∈ E) : QBeh W w P M s E' := by
  obtain ⟨rv, en, h1, h2, h3, h4, h5⟩ := h
  exact ⟨rv, en, h1, h2, h3, h4, fun p hp => h5 p (hE p hp)⟩
/-- A new block. -/
theorem QBeh.make (h : QBeh W w P M s E) (o : Obj) {o' : Obj} (ho : hget (w.alloc o) w.heap.size = some o') : QBeh W (w.alloc o) P M s ((w.heap.size, o') :: E) := by
  obtain ⟨rv, en, h1, h2, h3, h4, h5⟩ := h.below (below_new o)
  obtain ⟨rv0, en0, h10, _, _, _, _⟩ := h
  refine ⟨rv, en, h1, h2, h3, h4, fun p hp => ?_⟩
  rcases List.mem_cons.1 hp with rfl | hp
  · refine ⟨ho, fun hk => ?_⟩
    have e : rv = rv0 := by
      have g1 := h1.cells
      have g0 := keepB (below_new o) h10.cells
      have := g1.symm.trans g0
      simp at this
      exact this.1
    subst e
    have := h10.lt _ hk
    omega
  · exact h5 p hp
theorem beh_step {rv rv' : Value} {en' : Int} {s' : FS} (_hlt : ∀ k, QEx P M rv k → k < w.heap.size) (h3 : ∀ k, QEx P M rv k → W.heap.size ≤ k) (h4 : Below W.heap.size W w) (h5 : ∀ p ∈ E, hget w p.1 = some p.2 ∧ ¬ QEx P M rv p.1) (hi : Inv s') (hq : QAt w' P M rv' en' s') (ho : Out (QEx P M rv) w w') (hn : Near w rv rv') : QBeh W w' P M s' E := by
  have key : ∀ k, QEx P M rv' k → QEx P M rv k ∨ w.heap.size ≤ k := fun k hk => by
    rcases hk with hk | hk | hk
    · exact .inl (.inl hk)
    · exact .inl (.inr (.inl hk))
    · rcases hn with h | ⟨g, h, hg⟩
      · exact .inl (.inr (.inr (by rw [← h]; exact hk)))
      · rw [h] at hk; injection hk with hk; exact .inr (by omega)
  refine ⟨rv', en', hq, hi, fun k hk => ?_, h4.trans (ho.below h3 h4.size), fun p hp => ⟨ho.get (h5 p hp).1 (h5 p hp).2, fun hk => ?_⟩⟩
  · rcases key k hk with h | h
    · exact h3 k h
    · have := h4.size; omega
  · rcases key _ hk with h | h
    · exact (h5 p hp).2 h
    · have := hget_lt (h5 p hp).1; omega
theorem put_beh (h : QBeh W w P M s E) (x : Nat) (hx : x < 4294967296) (d : ByteArray) (f : Bool) :
    Calls Try.prog 10 #[.pointer (some ⟨P, 0, none⟩), .int .u32 (x : Int), .string d, .bool f] w fun r w' => r = .returned (.bool (took s x d.data.toList f)) ∧ QBeh W w' P M (put s x d.data.toList f) E := by
  obtain ⟨rv, en, h1, h2, h3, h4, h5⟩ := h
  refine (put_any h1 h2 x hx d f).mono ?_
  rintro r w' ⟨rfl, rv', en', hq, ho, hn⟩
  exact ⟨rfl, beh_step h1.lt h3 h4 h5 (inv_put h2 ..) hq ho hn⟩
theorem read_beh (h : QBeh W w P M s E) (most : Int) :
    Calls Try.prog 11 #[.pointer (some ⟨P, 0, none⟩), .int .i64 most] w fun r w' => r = .returned (.string ⟨(s.ready.take (readN s most)).toArray⟩) ∧ QBeh W w' P M (read s most) E := by
  obtain ⟨rv, en, h1, h2, h3, h4, h5⟩ := h
  refine (read_any h1 h2 most).mono ?_
  rintro r w' ⟨rfl, rv', hq, ho, hn⟩
  exact ⟨rfl, beh_step h1.lt h3 h4 h5 (inv_read h2 ..) hq ho hn⟩
theorem new_beh (b : Below W.heap.size W w) (x n : Nat) (hx : x < 4294967296) (h : 1 ≤ n ∧ n ≤ 65536) (h5 : ∀ p ∈ E, hget w p.1 = some p.2) : Calls Try.prog 8 #[.int .u32 (x : Int), .int .i64 (n : Int)] w fun e w' => e = .returned (.tuple #[.pointer (some ⟨w.heap.size + 1, 0, none⟩), .int .i64 0]) ∧ QBeh W w' (w.heap.size + 1) w.heap.size (new x n) E := by
  refine (new_any x n w hx h).mono ?_
  rintro r w' ⟨rfl, hq, hb⟩
  have hs := b.size
  have key : ∀ k, QEx (w.heap.size + 1) w.heap.size (.slice none 0 0) k → w.heap.size ≤ k := fun k hk => by
    rcases hk with hk | hk | hk
    · omega
    · omega
    · simp [Value.ownBlock] at hk
  refine ⟨rfl, _, _, hq, inv_new hx h, fun k hk => by have := key k hk; omega, below_to b hb, fun p hp => ⟨(Out.of_below (ex := fun _ => False) hb).get (h5 p hp) (fun e => e), fun hk => ?_⟩⟩
  have := key _ hk
  have := hget_lt (h5 p hp)
  omega
theorem ended_beh (h : QBeh W w P M s E) : Calls Try.prog 9 #[.pointer (some ⟨P, 0, none⟩)] w fun e w' => e = .returned (.bool s.ended) ∧ Dr w w' := by
  obtain ⟨rv, en, h1, _⟩ := h
  exact ended_any h1
theorem next_beh (h : QBeh W w P M s E) : Calls Try.prog 12 #[.pointer (some ⟨P, 0, none⟩)] w fun e w' => e = .returned (.int .u32 (s.next : Int)) ∧ Dr w w' := by
  obtain ⟨rv, en, h1, _⟩ := h
  exact next_any h1
theorem held_beh (h : QBeh W w P M s E) : Calls Try.prog 25 #[.pointer (some ⟨P, 0, none⟩)] w fun e w' => e = .returned (.int .i64 (s.cnt : Int)) ∧ Dr w w' := by
  obtain ⟨rv, en, h1, _⟩ := h
  exact held_any h1
theorem ready_beh (h : QBeh W w P M s E) : Calls Try.prog 24 #[.pointer (some ⟨P, 0, none⟩)] w fun e w' => e = .returned (.int .i64 (s.ready.length : Int)) ∧ Dr w w' := by
  obtain ⟨rv, en, h1, _⟩ := h
  exact ready_any h1
theorem window_beh (h : QBeh W w P M s E) : Calls Try.prog 22 #[.pointer (some ⟨P, 0, none⟩)] w fun e w' => e = .returned (.int .i64 (s.win : Int)) ∧ Dr w w' := by
  obtain ⟨rv, en, h1, h2, _⟩ := h
  exact window_any h1 h2
end

def wk0 : FS := new 4294967294 8
def wk1 : FS := put wk0 0 [99, 100] false
def wk2 : FS := put wk1 4294967294 [97, 98] false
def wk3 : FS := read wk2 9
def wk4 : FS := put wk3 2 [] true
theorem wk_a : took wk0 0 [99, 100] false = false := by decide +kernel
theorem wk_h : wk1.cnt = 2 := by decide +kernel
theorem wk_b : took wk1 4294967294 [97, 98] false = true := by decide +kernel
theorem wk_s : (⟨(wk2.ready.take (readN wk2 9)).toArray⟩ : ByteArray) = ⟨#[97, 98, 99, 100]⟩ := by decide +kernel
theorem wk_c : took wk3 2 [] true = true := by decide +kernel
theorem wk_e : wk4.ended = true := by decide +kernel
theorem wk_n : wk4.next = 3 := by decide +kernel

set_option maxHeartbeats 1000000 in
theorem works_any (W : World) : Calls Try.prog 7 #[] W fun e w' => e = .returned (.bool true) ∧ Below W.heap.size W w' := by
  have hnew := new_beh (E := []) (Below.refl _ W) 4294967294 8 (by omega) (by omega) (fun p hp => by cases hp)
  go_enter Try.func7, Try.ntmps7
  go_wp2_with fail
  refine hnew.mono ?_
  rintro e w1 ⟨rfl, q⟩
  clear hnew
  change QBeh W w1 _ _ wk0 [] at q
  have Q := hid q
  clear q
  go_wp2_with fail
  refine (put_beh Q.out 0 (by omega) ⟨#[99, 100]⟩ false).mono ?_
  rintro e w2 ⟨rfl, q⟩
  rw [show took wk0 0 (⟨#[99, 100]⟩ : ByteArray).data.toList false = false from wk_a]
  change QBeh W w2 _ _ wk1 [] at q
  replace Q := hid q
  clear q
  go_wp2_with fail
  refine (held_beh Q.out).mono ?_
  rintro e w3 ⟨rfl, hd⟩
  replace Q := hid (Q.out.dr hd)
  clear hd
  rw [wk_h]
  go_wp2_with fail
  refine (put_beh Q.out 4294967294 (by omega) ⟨#[97, 98]⟩ false).mono ?_
  rintro e w4 ⟨rfl, q⟩
  rw [show took wk1 4294967294 (⟨#[97, 98]⟩ : ByteArray).data.toList false = true from wk_b]
  change QBeh W w4 _ _ wk2 [] at q
  replace Q := hid q
  clear q
  go_wp2_with fail
  refine (read_beh Q.out 9).mono ?_
  rintro e w5 ⟨rfl, q⟩
  rw [wk_s]
  change QBeh W w5 _ _ wk3 [] at q
  replace Q := hid q
  clear q
  go_wp2_with fail
  refine (put_beh Q.out 2 (by omega) ⟨#[]⟩ true).mono ?_
  rintro e w6 ⟨rfl, q⟩
  rw [show took wk3 2 (⟨#[]⟩ : ByteArray).data.toList true = true from wk_c]
  change QBeh W w6 _ _ wk4 [] at q
  replace Q := hid q
  clear q
  go_wp2_with fail
  refine (ended_beh Q.out).mono ?_
  rintro e w7 ⟨rfl, hd⟩
  replace Q := hid (Q.out.dr hd)
  clear hd
  rw [wk_e]
  go_wp2_with fail
  refine (next_beh Q.out).mono ?_
  rintro e w8 ⟨rfl, hd⟩
  replace Q := hid (Q.out.dr hd)
  clear hd
  rw [wk_n]
  have hl1 := fun w => less_any 4294967295 0 w
  have hl2 := fun w => less_any 0 4294967295 w
  have hl3 := fun w => in_any 1 4294967295 3 w (by omega)
  rw [show lessB 4294967295 0 = true from by decide] at hl1
  rw [show lessB 0 4294967295 = false from by decide] at hl2
  rw [show decide (ofs 1 4294967295 < 3) = true from by decide +kernel] at hl3
  have H1 := hid hl1
  have H2 := hid hl2
  have H3 := hid hl3
  clear hl1 hl2 hl3
  go_wp2_with (first | (go_at_call 14; refine (H1.out _).mono ?_; rintro e w' ⟨rfl, rfl⟩) | (go_at_call 14; refine (H2.out _).mono ?_; rintro e w' ⟨rfl, rfl⟩) | (go_at_call 16; refine (H3.out _).mono ?_; rintro e w' ⟨rfl, rfl⟩))
  go_ret
  exact ⟨rfl, Q.out.old⟩

set_option maxHeartbeats 1000000 in
theorem none_any (x : Int) (s : ByteArray) (W : World) : Calls Try.prog 6 #[.int .u32 x, .string s] W fun e w' => e = .returned (.bool true) ∧ Below W.heap.size W w' := by
  by_cases h : 1024 < s.size
  · have d1 : decide (1024 < (s.size : Int)) = true := decide_eq_true (by omega)
    go_enter Try.func6, Try.ntmps6
    go_wp2_with fail
    refine (works_any W).mono ?_
    rintro e w1 ⟨rfl, hb⟩
    go_wp2_with fail
    go_ret
    exact ⟨rfl, hb⟩
  · have d1 : decide (1024 < (s.size : Int)) = false := decide_eq_false (by omega)
    go_enter Try.func6, Try.ntmps6
    go_wp2_with (first | (go_at_call 10; refine (put_nil _ _ _ _).mono ?_; rintro e w' ⟨rfl, nq, rfl⟩) | (go_at_call 11; refine (read_nil _ _).mono ?_; rintro e w' ⟨rfl, nq, rfl⟩) | (go_at_call 12; refine (next_nil _).mono ?_; rintro e w' ⟨rfl, nq, rfl⟩) | (go_at_call 22; refine (window_nil _).mono ?_; rintro e w' ⟨rfl, nq, rfl⟩) | (go_at_call 24; refine (ready_nil _).mono ?_; rintro e w' ⟨rfl, nq, rfl⟩) | (go_at_call 25; refine (held_nil _).mono ?_; rintro e w' ⟨rfl, nq, rfl⟩) | (go_at_call 9; refine (ended_nil _).mono ?_; rintro e w' ⟨rfl, nq, rfl⟩))
    refine (works_any _).mono ?_
    rintro e w1 ⟨rfl, hb⟩
    go_wp2_with fail
    go_ret
    exact ⟨rfl, (Dr.below (w := W) ⟨_, rfl⟩).trans hb⟩
end Go.Proofs.Ytkmkgfgppblleaa

namespace Go.Proofs.Ytkmkgfgppblleaa
namespace FL

theorem ofs_def (x n : Nat) : ofs x n = (x + 4294967296 - n) % 4294967296 := by unfold ofs; rfl
/-- Nothing is held next. -/
def Stable (s : FS) : Prop := s.held.getD 0 none = none
theorem stable_new (x n : Nat) : Stable (new x n) := by
  unfold Stable new
  show (List.replicate (n + 1) (none : Option UInt8)).getD 0 none = none
  rfl
theorem stable_move (s : FS) : Stable (move s) := by
  unfold Stable move
  show (s.held.drop (lead s.held) ++ List.replicate (lead s.held) none).getD 0 none = none
  rw [getD_shift, Nat.zero_add]
  have := lead_stop s.held
  cases h : s.held.getD (lead s.held) none with
  | none => rfl
  | some c => rw [h] at this; cases this
theorem stable_put {s : FS} (h : Stable s) (seq : Nat) (data : List UInt8) (fin : Bool) : Stable (put s seq data fin) := by
  cases hc : (s.ended || decide (65536 < data.length))
  · rw [put_eq hc]; exact stable_move _
  · rw [put_no hc]; exact h
theorem stable_read {s : FS} (h : Stable s) (m : Int) : Stable (read s m) := h
theorem lead_zero {l : List (Option UInt8)} (h : l.getD 0 none = none) : lead l = 0 := by
  cases l with
  | nil => rfl
  | cons a l =>
    have : a = none := h
    subst this
    rfl
theorem put_size (s : FS) (seq : Nat) (data : List UInt8) (fin : Bool) : (put s seq data fin).size = s.size := by
  unfold put; split <;> rfl

theorem count_lay1 (s : FS) (a : Nat) (c : UInt8) (l : List (Option UInt8)) : (lay1 s a c l).countP Option.isSome ≤ l.countP Option.isSome + 1 := by
  unfold lay1
  split
  · rename_i h
    simp only [Bool.and_eq_true] at h
    by_cases ha : a < l.length
    · rw [count_set ha h.1.2]; exact Nat.le_refl _
    · rw [List.set_eq_of_length_le (by omega)]; omega
  · omega
theorem count_layK (s : FS) (seq : Nat) (data : List UInt8) (k : Nat) : (layK s seq data k).countP Option.isSome ≤ s.cnt + k := by
  induction k with
  | zero => exact Nat.le_refl _
  | succ k ih =>
    rw [layK]
    have := count_lay1 s (ofs ((seq + k) % 4294967296) s.next) (data.getD k 0) (layK s seq data k)
    omega
theorem count_take (l : List (Option UInt8)) : (l.take (lead l)).countP Option.isSome = lead l := by
  induction l with
  | nil => rfl
  | cons a l ih =>
    cases ha : a.isSome
    · have : lead (a :: l) = 0 := by unfold lead; rw [List.takeWhile_cons, ha]; rfl
      rw [this]; rfl
    · have : lead (a :: l) = lead l + 1 := by unfold lead; rw [List.takeWhile_cons, ha]; rfl
      rw [this, List.take_succ_cons, List.countP_cons, ih, ha]; rfl
/-- What is held next is ready: no more, no less. -/
theorem move_sum (s : FS) : (move s).ready.length + (move s).cnt = s.ready.length + s.cnt := by
  show (s.ready ++ bytes (s.held.take (lead s.held))).length + (s.held.drop (lead s.held) ++ List.replicate (lead s.held) none).countP Option.isSome = s.ready.length + s.held.countP Option.isSome
  rw [List.length_append, bytes_len, List.countP_append]
  have h1 : (List.replicate (lead s.held) (none : Option UInt8)).countP Option.isSome = 0 := by simp [List.countP_replicate]
  have h2 : s.held.countP Option.isSome = (s.held.take (lead s.held)).countP Option.isSome + (s.held.drop (lead s.held)).countP Option.isSome := by
    rw [← List.countP_append, List.take_append_drop]
  rw [count_take] at h2
  omega
theorem put_sum (s : FS) (seq : Nat) (data : List UInt8) (fin : Bool) : (put s seq data fin).ready.length + (put s seq data fin).cnt ≤ s.ready.length + s.cnt + data.length := by
  cases hc : (s.ended || decide (65536 < data.length))
  · rw [put_eq hc, move_sum]
    show s.ready.length + (layK s seq data data.length).countP Option.isSome ≤ _
    have := count_layK s seq data data.length
    omega
  · rw [put_no hc]; omega
theorem put_ready (s : FS) (seq : Nat) (data : List UInt8) (fin : Bool) : s.ready.length ≤ (put s seq data fin).ready.length := by
  cases hc : (s.ended || decide (65536 < data.length))
  · rw [put_eq hc]
    show _ ≤ (s.ready ++ _).length
    rw [List.length_append]; omega
  · rw [put_no hc]; exact Nat.le_refl _
theorem count_below {l : List (Option UInt8)} {n : Nat} (h : ∀ i, (l.getD i none).isSome = true → i < n) : l.countP Option.isSome ≤ n := by
  have h1 : l.countP Option.isSome = (l.take n).countP Option.isSome + (l.drop n).countP Option.isSome := by rw [← List.countP_append, List.take_append_drop]
  have h2 : (l.drop n).countP Option.isSome = 0 := by
    rw [List.countP_eq_zero]
    intro a ha hs
    obtain ⟨j, hj, rfl⟩ := List.mem_iff_getElem.1 ha
    rw [List.length_drop] at hj
    rw [List.getElem_drop] at hs
    have := h (n + j) (by rw [List.getD_eq_getElem?_getD, List.getElem?_eq_getElem (by omega)]; exact hs)
    omega
  have h3 := List.countP_le_length (p := Option.isSome) (l := l.take n)
  rw [List.length_take] at h3
  omega
theorem sum_le {s : FS} (hs : Inv s) : s.ready.length + s.cnt ≤ s.size := by
  have h := count_below hs.held
  have hr := hs.room
  unfold FS.win at h
  unfold FS.cnt
  split at h <;> omega
/-- How far it goes on. -/
theorem gone {s : FS} (hs : Inv s) (seq : Nat) (data : List UInt8) (fin : Bool) : ofs (put s seq data fin).next s.next ≤ s.win + 1 := by
  have hn := hs.next
  cases hc : (s.ended || decide (65536 < data.length))
  · have hne : s.ended = false := by cases he : s.ended <;> rw [he] at hc <;> first | rfl | cases hc
    rw [put_eq hc]
    have hi := inv_laid hs hne seq data fin
    have hl : lead (laid s seq data fin).held ≤ s.win := by
      rcases Nat.eq_zero_or_pos (lead (laid s seq data fin).held) with h | h
      · omega
      · have h1 := hi.held _ (lead_some _ (lead (laid s seq data fin).held - 1) (by omega))
        have : (laid s seq data fin).win = s.win := rfl
        omega
    have hw : s.win ≤ 65536 := by have := hs.size; unfold FS.win; split <;> omega
    rw [ofs_def]
    have hnx : (laid s seq data fin).next = s.next := rfl
    show ((if ((laid s seq data fin).hasEnd && decide ((laid s seq data fin).endo = lead (laid s seq data fin).held)) = true then (((laid s seq data fin).next + lead (laid s seq data fin).held) % 4294967296 + 1) % 4294967296 else ((laid s seq data fin).next + lead (laid s seq data fin).held) % 4294967296) + 4294967296 - s.next) % 4294967296 ≤ _
    rw [hnx]
    generalize lead (laid s seq data fin).held = n at *
    split <;> omega
  · rw [put_no hc, ofs_def]; omega
theorem took_ended {s : FS} (h : s.ended = true) (seq : Nat) (data : List UInt8) (fin : Bool) : took s seq data fin = false := by
  unfold took; rw [h]; rfl
theorem took_is {s : FS} (seq : Nat) (data : List UInt8) (fin : Bool) : took s seq data fin = ((put s seq data fin).next != s.next) := by
  unfold took
  split
  · rename_i h; rw [put_no h]; simp
  · rfl
/-- What stands outside of the window is not taken. -/
theorem outside {s : FS} (hs : Inv s) (hst : Stable s) {seq : Nat} (_hq : seq < 4294967296) {data : List UInt8} (h1 : s.win ≤ ofs seq s.next) (h2 : data.length ≤ ofs s.next seq) :
    (put s seq data false).ready = s.ready ∧ (put s seq data false).cnt = s.cnt := by
  have hn := hs.next
  cases hc : (s.ended || decide (65536 < data.length))
  · rw [put_eq hc]
    have hlay : ∀ k, k ≤ data.length → layK s seq data k = s.held := by
      intro k
      induction k with
      | zero => intro _; rfl
      | succ k ih =>
        intro hk
        rw [layK, ih (by omega)]
        unfold lay1
        rw [if_neg]
        have : ¬ ofs ((seq + k) % 4294967296) s.next < s.win := by
          rw [ofs_def] at h1 h2 ⊢
          omega
        simp [this]
    have hld : laid s seq data false = { s with held := s.held } := by
      have : ∀ l e, ends s l e false = false := fun _ _ => rfl
      unfold laid
      simp only [hlay _ (Nat.le_refl _), this, Bool.or_false, Bool.false_eq_true, if_false]
    rw [hld]
    have h0 := lead_zero hst
    constructor
    · show s.ready ++ bytes (s.held.take (lead s.held)) = s.ready
      rw [h0]; simp [bytes]
    · show (s.held.drop (lead s.held) ++ List.replicate (lead s.held) none).countP Option.isSome = _
      rw [h0]; simp [FS.cnt]
  · rw [put_no hc]; exact ⟨rfl, rfl⟩
theorem read_len {s : FS} (m : Int) : ((s.ready.take (readN s m)).length : Int) = min (max m 0) s.ready.length := by
  rw [List.length_take]; unfold readN; omega
end FL
end Go.Proofs.Ytkmkgfgppblleaa

namespace Go.Proofs.Ytkmkgfgppblleaa
open Go.RowKit Go.ChangeShapes Go.WideShapes Go.Deep

section
variable {H : Type} {enc : TypeId × Value → H} {P : Program} {w : World} {base : Nat} {spare : Nat → Bool} {held : Bool}
/-- The kit's own page on structs has this theorem for copying: a slice of structs, each field of one cell. -/
theorem open_slice_fields {t e : TypeId} {fs : Array Field} {fuel : Nat} {cs : List Value} {x : DataW H × List MemPlace} (ht : P.underlying t = some (.slice e)) (he : P.underlying e = some (.struct fs))
    (hone : oneCellFields P fs = true) (hC : P.cellsOf e = fs.size) (h : DataW.trod enc P w base spare held fuel t cs = some x) :
    (cs = [.slice none 0 0] ∧ x = (.nil, [])) ∨
    ∃ (a : Addr) (len cap m : Nat) (D : Nat → DataW H) (Pl : Nat → List MemPlace), cs = [.slice (some a) len cap] ∧ base ≤ a.block ∧ len ≤ cap ∧ cap ≤ maxLen ∧ m = (if spare a.block then cap else len) ∧
      x = (.slice ((List.range len).map D) ((List.range (m - len)).map fun j => D (len + j)), MemPlace.row a (m * fs.size) ++ (List.range m).flatMap Pl) ∧
      ∀ i, i < m → ∃ (ys : List (DataW H × List MemPlace)) (n : Nat), D i = .agg (ys.map (·.1)) ∧ Pl i = ys.flatMap (·.2) ∧ ys.length = fs.size ∧
        ∀ (j : Nat) (f : Field), fs[j]? = some f → ∃ (v : Value) (y : DataW H × List MemPlace), w.cell? (a.add (i * fs.size + j)) = some v ∧ ys[j]? = some y ∧ DataW.trod enc P w base spare held n f.type [v] = some y := by
  rcases open_slice ht h with h0 | ⟨a, len, cap, m, n, D, Pl, hcs, hb, hl, hm, hmm, hx, hi⟩
  · exact .inl h0
  · refine .inr ⟨a, len, cap, m, D, Pl, hcs, hb, hl, hm, hmm, by rw [hC] at hx; exact hx, fun i him => ?_⟩
    obtain ⟨cs', hc, ht'⟩ := hi i him
    rw [hC] at hc
    obtain ⟨ys, n', hn', hy, hlen, hyl, hf⟩ := DataW.trod_struct he ht'
    obtain ⟨_, hcl, hat⟩ := World.cells?_some hc
    simp only [Prod.mk.injEq] at hy
    refine ⟨ys, n', hy.1, hy.2, hyl, fun j f hj => ?_⟩
    obtain ⟨ho, hk⟩ := hone_of hone j f hj
    have hjl : j < fs.size := (Array.getElem?_eq_some_iff.1 hj).1
    have hcell := hat j hjl
    have hv : cs'[j]? = some (cs'[j]'(by omega)) := List.getElem?_eq_getElem (by omega)
    have h1 := hf j f hj
    rw [ho, hk] at h1
    have hone' : (cs'.drop j).take 1 = [cs'[j]'(by omega)] := by
      rw [List.drop_eq_getElem_cons (by omega)]
      rfl
    rw [hone'] at h1
    have hys : ys[j]? = some (ys[j]'(by omega)) := List.getElem?_eq_getElem (by omega)
    refine ⟨_, _, ?_, hys, h1.trans hys⟩
    rw [← Go.Deep.add_add, hcell, hv]

/-- A slice of structs that came in: its length, and the cells of its elements at a plain address. -/
theorem slice_fields_at {t e : TypeId} {fs : Array Field} {fuel : Nat} {a : Option Addr} {len cap : Nat} {x : DataW H × List MemPlace} (ht : P.underlying t = some (.slice e)) (he : P.underlying e = some (.struct fs))
    (hone : oneCellFields P fs = true) (hC : P.cellsOf e = fs.size) (hpos : 0 < fs.size) (h : DataW.trod enc P w base (fun _ => true) held fuel t [.slice a len cap] = some x) :
    len ≤ maxLen ∧ (len = 0 ∨ ∃ b off, a = some ⟨b, off, none⟩ ∧ b < w.heap.size ∧ ∀ i, i < len → ∃ n, ∀ (j : Nat) (f : Field), fs[j]? = some f →
      ∃ (v : Value) (y : DataW H × List MemPlace), w.cell? ⟨b, off + i * fs.size + j, none⟩ = some v ∧ DataW.trod enc P w base (fun _ => true) held n f.type [v] = some y) := by
  rcases open_slice_fields ht he hone hC h with ⟨hcs, _⟩ | ⟨a', l, c, m, D, Pl, hcs, _, hl, hm, hmm, _, hi⟩
  · simp only [List.cons.injEq, Value.slice.injEq, and_true] at hcs
    obtain ⟨rfl, rfl, rfl⟩ := hcs
    exact ⟨Nat.zero_le _, .inl rfl⟩
  · simp only [List.cons.injEq, Value.slice.injEq, and_true] at hcs
    obtain ⟨rfl, rfl, rfl⟩ := hcs
    refine ⟨by omega, ?_⟩
    by_cases h0 : len = 0
    · exact .inl h0
    · right
      have hmc : m = cap := by simpa using hmm
      obtain ⟨ys, n, _, _, _, hf⟩ := hi 0 (by omega)
      obtain ⟨v, y, hc, _, _⟩ := hf 0 fs[0] (by simp [hpos])
      obtain ⟨b, off, spot⟩ := a'
      have hspot : spot = none := by simpa [Addr.add] using World.cell?_spot hc
      subst hspot
      refine ⟨b, off, rfl, by simpa [add_plain] using World.block_lt_of_cell? w _ hc, fun i hil => ?_⟩
      obtain ⟨ys, n, _, _, _, hf⟩ := hi i (by omega)
      refine ⟨n, fun j f hj => ?_⟩
      obtain ⟨v, y, hc, _, ht'⟩ := hf j f hj
      rw [add_plain, ← Nat.add_assoc] at hc
      exact ⟨v, y, hc, ht'⟩
end

end Go.Proofs.Ytkmkgfgppblleaa

namespace Go.Proofs.Ytkmkgfgppblleaa
open Go.RowKit Go.ChangeShapes Go.WideShapes Go.Deep

section
variable {H : Type} {enc : TypeId × Value → H} {P : Program} {w : World} {base : Nat} {held : Bool}
theorem weights_mem_all {e : TypeId} {d : DataW H} {n : Nat} : ∀ {l : List (DataW H)}, d ∈ l → n ∈ d.weights P e → n ∈ DataW.weightsAll P e l
  | x :: l, hm, hn => by
    simp only [DataW.weightsAll, List.mem_append]
    rcases List.mem_cons.1 hm with rfl | h
    · exact .inl hn
    · exact .inr (weights_mem_all h hn)
theorem slice_fields_sized {t e : TypeId} {fs : Array Field} {fuel : Nat} {a : Option Addr} {len cap : Nat} {x : DataW H × List MemPlace} (ht : P.underlying t = some (.slice e)) (he : P.underlying e = some (.struct fs))
    (hone : oneCellFields P fs = true) (hC : P.cellsOf e = fs.size) (hpos : 0 < fs.size) (h : DataW.trod enc P w base (fun _ => true) held fuel t [.slice a len cap] = some x) (hz : ∀ n ∈ x.1.weights P t, n ≤ reachBytes) :
    len * P.bytesOf e ≤ reachBytes ∧ len ≤ maxLen ∧ (len = 0 ∨ ∃ b off, a = some ⟨b, off, none⟩ ∧ b < w.heap.size ∧ ∀ i, i < len → ∃ n, ∀ (j : Nat) (f : Field), fs[j]? = some f →
      ∃ (v : Value) (y : DataW H × List MemPlace), w.cell? ⟨b, off + i * fs.size + j, none⟩ = some v ∧ DataW.trod enc P w base (fun _ => true) held n f.type [v] = some y ∧ ∀ k ∈ y.1.weights P f.type, k ≤ reachBytes) := by
  rcases open_slice_fields ht he hone hC h with ⟨hcs, _⟩ | ⟨a', l, c, m, D, Pl, hcs, _, hl, hm, hmm, rfl, hi⟩
  · simp only [List.cons.injEq, Value.slice.injEq, and_true] at hcs
    obtain ⟨rfl, rfl, rfl⟩ := hcs
    exact ⟨by simp, Nat.zero_le _, .inl rfl⟩
  · simp only [List.cons.injEq, Value.slice.injEq, and_true] at hcs
    obtain ⟨rfl, rfl, rfl⟩ := hcs
    have hw : ∀ n ∈ ((List.range len).map D).length * P.bytesOf e :: DataW.weightsAll P e ((List.range len).map D), n ≤ reachBytes := fun n hn => by
      rcases List.mem_cons.1 hn with rfl | h2
      · refine Nat.le_trans ?_ (hz ((((List.range len).map D).length + ((List.range (m - len)).map fun j => D (len + j)).length) * P.bytesOf e) (by simp [DataW.weights, ht]))
        exact Nat.mul_le_mul_right _ (Nat.le_add_right _ _)
      · refine hz n ?_
        simp only [DataW.weights, ht, List.mem_cons, List.mem_append]
        exact .inr (.inl h2)
    refine ⟨by have := hw _ (List.mem_cons_self ..); simpa using this, by omega, ?_⟩
    by_cases h0 : len = 0
    · exact .inl h0
    · right
      have hmc : m = cap := by simpa using hmm
      obtain ⟨ys, n, _, _, _, hf⟩ := hi 0 (by omega)
      obtain ⟨v, y, hc, _, _⟩ := hf 0 fs[0] (by simp [hpos])
      obtain ⟨b, off, spot⟩ := a'
      have hspot : spot = none := by simpa [Addr.add] using World.cell?_spot hc
      subst hspot
      refine ⟨b, off, rfl, by simpa [add_plain] using World.block_lt_of_cell? w _ hc, fun i hil => ?_⟩
      obtain ⟨ys, n, hD, _, _, hf⟩ := hi i (by omega)
      refine ⟨n, fun j f hj => ?_⟩
      obtain ⟨v, y, hc, hy, ht'⟩ := hf j f hj
      rw [add_plain, ← Nat.add_assoc] at hc
      refine ⟨v, y, hc, ht', fun k hk => hw k (List.mem_cons_of_mem _ (weights_mem_all (d := D i) (List.mem_map.2 ⟨i, List.mem_range.2 hil, rfl⟩) ?_))⟩
      rw [hD]
      simp only [DataW.weights, he]
      exact DataW.weights_mem_each (j := j) (t := f.type) (by simp [hj]) (by simp [hy]) k hk
end

end Go.Proofs.Ytkmkgfgppblleaa

namespace Go.Proofs.Ytkmkgfgppblleaa
open Go.RowKit FL Go.Deep

/-- A step of a script. -/
structure Stp where
  seq : Nat
  data : ByteArray
  fin : Bool
  reads : Bool
  n : Int
/-- A script in memory. -/
def StepsAt (w : World) (a : Option Addr) (len : Nat) (f : Nat → Stp) : Prop :=
  len = 0 ∨ ∃ b off, a = some ⟨b, off, none⟩ ∧ b < w.heap.size ∧ ∀ k, k < len → w.cell? ⟨b, off + k * 5, none⟩ = some (.int .u32 ((f k).seq : Int)) ∧ w.cell? ⟨b, off + k * 5 + 1, none⟩ = some (.string (f k).data) ∧
    w.cell? ⟨b, off + k * 5 + 2, none⟩ = some (.bool (f k).fin) ∧ w.cell? ⟨b, off + k * 5 + 3, none⟩ = some (.bool (f k).reads) ∧ w.cell? ⟨b, off + k * 5 + 4, none⟩ = some (.int .i64 (f k).n) ∧
    (f k).seq < 4294967296 ∧ (f k).data.size ≤ reachBytes ∧ (-9223372036854775808 ≤ (f k).n ∧ (f k).n ≤ 9223372036854775807)
theorem StepsAt.below {w w' : World} {a : Option Addr} {len : Nat} {f : Nat → Stp} (h : StepsAt w a len f) (hb : Below w.heap.size w w') : StepsAt w' a len f := by
  rcases h with h | ⟨b, off, h1, h2, h3⟩
  · exact .inl h
  · refine .inr ⟨b, off, h1, Nat.lt_of_lt_of_le h2 hb.size, fun k hk => ?_⟩
    have hc : ∀ j, w'.cell? ⟨b, j, none⟩ = w.cell? ⟨b, j, none⟩ := fun j => hb.cell (p := ⟨b, j, none⟩) h2
    simp only [hc]
    exact h3 k hk

theorem bytes_Step : Try.prog.bytesOf 46 = 40 := by kernel_rfl
section
variable {H : Type} {enc : TypeId × Value → H} {w : World} {base : Nat} {held : Bool}
theorem steps_open {fuel : Nat} {a : Option Addr} {len cap : Nat} {x : DataW H × List MemPlace} (h : DataW.trod enc Try.prog w base (fun _ => true) held fuel 38 [.slice a len cap] = some x) (hz : ∀ n ∈ x.1.weights Try.prog 38, n ≤ reachBytes) :
    len ≤ reachBytes ∧ ∃ f, StepsAt w a len f := by
  obtain ⟨hl, hm, h0 | ⟨b, off, rfl, hb, hc⟩⟩ := slice_fields_sized Try.underlying38 Try.underlying46 (by kernel_rfl) (by kernel_rfl) (by decide) h hz
  · exact ⟨by omega, fun _ => ⟨0, ByteArray.empty, false, false, 0⟩, .inl h0⟩
  · have hx : ∀ k, k < len → ∃ t : Stp, w.cell? ⟨b, off + k * 5, none⟩ = some (.int .u32 (t.seq : Int)) ∧ w.cell? ⟨b, off + k * 5 + 1, none⟩ = some (.string t.data) ∧
        w.cell? ⟨b, off + k * 5 + 2, none⟩ = some (.bool t.fin) ∧ w.cell? ⟨b, off + k * 5 + 3, none⟩ = some (.bool t.reads) ∧ w.cell? ⟨b, off + k * 5 + 4, none⟩ = some (.int .i64 t.n) ∧
        t.seq < 4294967296 ∧ t.data.size ≤ reachBytes ∧ (-9223372036854775808 ≤ t.n ∧ t.n ≤ 9223372036854775807) := fun k hk => by
      obtain ⟨n, hf⟩ := hc k hk
      obtain ⟨v0, y0, c0, t0, _⟩ := hf 0 _ rfl
      obtain ⟨v1, y1, c1, t1, z1⟩ := hf 1 _ rfl
      obtain ⟨v2, y2, c2, t2, _⟩ := hf 2 _ rfl
      obtain ⟨v3, y3, c3, t3, _⟩ := hf 3 _ rfl
      obtain ⟨v4, y4, c4, t4, _⟩ := hf 4 _ rfl
      obtain ⟨n0, e0, _, f0⟩ := DataW.trod_int Try.underlying22 t0
      obtain ⟨s1, e1, x1, f1⟩ := DataW.trod_string Try.underlying9 t1
      obtain ⟨b2, e2, _⟩ := DataW.trod_bool Try.underlying4 t2
      obtain ⟨b3, e3, _⟩ := DataW.trod_bool Try.underlying4 t3
      obtain ⟨n4, e4, _, f4⟩ := DataW.trod_int Try.underlying3 t4
      simp only [List.cons.injEq, and_true] at e0 e1 e2 e3 e4
      subst e0 e1 e2 e3 e4
      obtain ⟨m0, rfl, hm0⟩ := key_wf f0
      have g4 : -9223372036854775808 ≤ n4 ∧ n4 ≤ 9223372036854775807 := by
        simp [Lit.wf, IntKind.min, IntKind.max, IntKind.signed, IntKind.bits] at f4
        omega
      have hsz := z1 s1.data.toList.length (by rw [x1]; simp [DataW.weights])
      have hsz' : s1.size ≤ reachBytes := by simpa using hsz
      exact ⟨⟨m0, s1, b2, b3, n4⟩, c0, c1, c2, c3, c4, hm0, hsz', g4⟩
    refine ⟨Nat.le_trans (Nat.le_mul_of_pos_right _ (by rw [bytes_Step]; decide)) hl, fun k => if hk : k < len then Classical.choose (hx k hk) else ⟨0, ByteArray.empty, false, false, 0⟩, .inr ⟨b, off, rfl, hb, fun k hk => ?_⟩⟩
    have := Classical.choose_spec (hx k hk)
    simp only [hk, dif_pos]
    exact this
end

/-- How many bytes the first k steps have. -/
def sumS (f : Nat → Stp) : Nat → Nat
  | 0 => 0
  | k + 1 => sumS f k + (f k).data.size
def heavyB (len : Nat) (f : Nat → Stp) : Bool := decide (100 < len) || decide (8192 < sumS f (min len 300))
theorem sumS_le {f : Nat → Stp} {len : Nat} (h : ∀ k, k < len → (f k).data.size ≤ reachBytes) (k : Nat) (hk : k ≤ len) : sumS f k ≤ k * reachBytes := by
  induction k with
  | zero => simp [sumS]
  | succ k ih =>
    have := ih (by omega)
    have h2 := h k (by omega)
    rw [sumS, Nat.succ_mul]; omega
theorem sumS_mono (f : Nat → Stp) {k m : Nat} (h : k ≤ m) : sumS f k ≤ sumS f m := by
  induction m with
  | zero => rw [show k = 0 by omega]; exact Nat.le_refl _
  | succ m ih =>
    by_cases hk : k = m + 1
    · rw [hk]; exact Nat.le_refl _
    · have := ih (by omega); rw [sumS]; omega
theorem light {len : Nat} {f : Nat → Stp} (h : heavyB len f = false) : len ≤ 100 ∧ ∀ k, k < len → (f k).data.size ≤ 8192 := by
  unfold heavyB at h
  rw [Bool.or_eq_false_iff, decide_eq_false_iff_not, decide_eq_false_iff_not] at h
  refine ⟨by omega, fun k hk => ?_⟩
  have h1 := sumS_mono f (k := k + 1) (m := min len 300) (by omega)
  rw [sumS] at h1
  omega

set_option maxHeartbeats 1000000 in
theorem heavy_any (a : Option Addr) (len cap : Nat) (f : Nat → Stp) (w : World) (hs : StepsAt w a len f) (hl : len ≤ reachBytes) : Calls Try.prog 13 #[.slice a len cap] w fun e w' => e = .returned (.bool (heavyB len f)) ∧ w = w' := by
  have HS := hid hs
  have hlen : len ≤ 140737488351232 := hl
  clear hs hl
  go_enter Try.func13, Try.ntmps13
  go_wp2_with fail
  go_loopw [3, 4] (fun n i wr => ∃ k : Nat, k ≤ len ∧ k ≤ 300 ∧ i = .int .i64 (k : Int) ∧ n = .int .i64 ((sumS f k : Nat) : Int) ∧ wr = w) (fun _ i _ => (len - intOf i).toNat)
  case atStart => exact ⟨0, by omega, by omega, rfl, rfl, rfl⟩
  case round =>
    obtain ⟨k, hk, hk3, rfl, rfl, rfl⟩ := hrel
    have hsum : sumS f k ≤ 300 * 140737488351232 := by
      rcases HS.out with h0 | ⟨b, off, _, _, hc⟩
      · have : k = 0 := by omega
        subst this; exact Nat.zero_le _
      · have := sumS_le (fun k hk => (hc k hk).2.2.2.2.2.2.1) k hk
        refine Nat.le_trans this ?_
        unfold reachBytes
        omega
    obtain ⟨S, hS⟩ : ∃ S, sumS f k = S := ⟨_, rfl⟩
    rw [hS] at hsum ⊢
    have HSS := hid hS
    clear hS
    by_cases hgo : k < len ∧ k < 300
    · obtain ⟨hkl, hk300⟩ := hgo
      have d1 : decide ((k : Int) < len) = true := decide_eq_true (by omega)
      have d2 : decide ((k : Int) < 300) = true := decide_eq_true (by omega)
      obtain h0 | ⟨b, off, rfl, hbW, hcs⟩ := HS.out
      · omega
      obtain ⟨_, c1, _, _, _, _, hz, _⟩ := hcs k hkl
      have hz' : (f k).data.size ≤ 140737488351232 := hz
      have hi0 : 0 ≤ (k : Int) := by omega
      have hi1 : (k : Int) < len := by omega
      clear hcs hz
      go_wp2_with fail
      have e1 : ((S : Int) + ((f k).data.size : Int)) = ((sumS f (k + 1) : Nat) : Int) := by rw [sumS, HSS.out]; omega
      rw [e1]
      exact ⟨⟨k + 1, by omega, by omega, by simp, rfl, trivial⟩, by simp only [intOf]; omega⟩
    · have hkm : k = min len 300 := by omega
      have hres : heavyB len f = (decide (100 < (len : Int)) || decide (8192 < (S : Int))) := by
        unfold heavyB
        rw [← hkm, HSS.out]
        congr 1
        · exact decide_eq_decide.2 (by omega)
        · exact decide_eq_decide.2 (by omega)
      have HR := hid hres
      clear hres hkm
      by_cases hkl : k < len
      · have d1 : decide ((k : Int) < len) = true := decide_eq_true (by omega)
        have d2 : decide ((k : Int) < 300) = false := decide_eq_false (by omega)
        have d3 : decide (100 < (len : Int)) = true := decide_eq_true (by omega)
        clear hk3 hgo
        go_wp2_with fail
        go_ret
        rw [HR.out, d3]
        exact ⟨rfl, rfl⟩
      · have d1 : decide ((k : Int) < len) = false := decide_eq_false (by omega)
        clear hk3 hgo
        by_cases h100 : 100 < len
        · have d3 : decide (100 < (len : Int)) = true := decide_eq_true (by omega)
          go_wp2_with fail
          go_ret
          rw [HR.out, d3]
          exact ⟨rfl, rfl⟩
        · have d3 : decide (100 < (len : Int)) = false := decide_eq_false (by omega)
          go_wp2_with fail
          go_ret
          rw [HR.out, d3]
          exact ⟨rfl, rfl⟩
end Go.Proofs.Ytkmkgfgppblleaa
