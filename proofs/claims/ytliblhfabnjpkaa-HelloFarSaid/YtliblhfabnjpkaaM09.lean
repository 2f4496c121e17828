/- A region that draws its order: operations that make memory (known by relations alone), then one that waits for all of them, then operations that only hand values on, in whatever order. -/
import Derived.Test.YtliblhfabnjpkaaM08
namespace Go.Proofs.Ytliblhfabnjpkaa
open Go Go.RowKit

section
variable {P : Program} {l T : List Oper} {Q : Exit → Act → World → Prop}
/-- What is asked of the operations: those of T wait for all of l. -/
structure More (l T : List Oper) : Prop where
  ordered : ∀ (i : Nat) (o : Oper), l[i]? = some o → ∀ e ∈ o.after, Region.binds .any e = true → e.on < i
  guards : ∀ (i : Nat) (o : Oper), l[i]? = some o → ∀ j b, o.guard = some (j, b) → j < l.length
  waits : ∀ j, l.length ≤ j → j < l.length + T.length → ∀ i, i < l.length → ∃ o, (l ++ T)[j]? = some o ∧ ∃ e ∈ o.after, Region.binds .any e = true ∧ (e.on = i ∨ pathB (l ++ T).toArray i (l.length + T.length) e.on = true)
def moreB (l T : List Oper) : Bool :=
  ((List.range l.length).all fun i => match l[i]? with
    | some o => (o.after.toList.all fun e => !Region.binds .any e || decide (e.on < i)) && (match o.guard with | some (j, _) => decide (j < l.length) | none => true)
    | none => true) &&
  ((List.range T.length).all fun k => (List.range l.length).all fun i => match T[k]? with
    | some o => o.after.toList.any fun e => Region.binds .any e && (e.on == i || pathB (l ++ T).toArray i (l.length + T.length) e.on)
    | none => false)
theorem More.of (h : moreB l T = true) : More l T := by
  unfold moreB at h
  simp only [Bool.and_eq_true, List.all_eq_true, List.mem_range] at h
  obtain ⟨h1, h2⟩ := h
  have g1 : ∀ (i : Nat) (o : Oper), l[i]? = some o → (∀ e ∈ o.after, Region.binds .any e = true → e.on < i) ∧ ∀ j b, o.guard = some (j, b) → j < l.length := fun i o ho => by
    have hi : i < l.length := (List.getElem?_eq_some_iff.1 ho).1
    have h4 := h1 i hi
    rw [ho] at h4
    simp only [Bool.and_eq_true, List.all_eq_true] at h4
    refine ⟨fun e he hb => ?_, fun j b hg => ?_⟩
    · have := h4.1 e (Array.mem_toList_iff.2 he)
      simpa [hb] using this
    · have := h4.2
      rw [hg] at this
      simpa using this
  refine ⟨fun i o ho => (g1 i o ho).1, fun i o ho => (g1 i o ho).2, fun j hj hj2 i hi => ?_⟩
  have h3 := h2 (j - l.length) (by omega) i hi
  have hk : j - l.length < T.length := by omega
  rw [List.getElem?_eq_getElem hk] at h3
  obtain ⟨e, he, hb⟩ := List.any_eq_true.1 h3
  simp only [Bool.and_eq_true, Bool.or_eq_true, beq_iff_eq] at hb
  exact ⟨T[j - l.length], by rw [List.getElem?_append_right hj, List.getElem?_eq_getElem hk], e, Array.mem_toList_iff.1 he, hb.1, hb.2⟩
/-- All of l have come up, none of T. -/
def upTo (l T : List Oper) : Array Bool := Array.replicate l.length true ++ Array.replicate T.length false
/-- What those of l come to. -/
def befM (P : Program) (l T : List Oper) (Q : Exit → Act → World → Prop) : Exit → Act → World → Prop
  | .normal, a, w => wpAny P .any (l ++ T).toArray Q T.length (upTo l T) a w
  | e, a, w => Q e a w
theorem out_befM (h : LetsOut (befM P l T Q)) : LetsOut Q := h
theorem wp_befM {o : Oper} {a : Act} {w : World} {K K' : Act → World → Prop} (hk : ∀ a w, K a w → K' a w) (hh : o.wp P a w K (befM P l T Q)) : o.wp P a w K' Q := by
  unfold Oper.wp at *
  generalize (execOp a.eval o).run P w = r at *
  cases r with
  | ok n w' =>
    cases n <;> simp only [Oper.upon] at hh ⊢ <;>
      first
        | exact hk _ _ hh
        | exact Calls.mono hh (fun e w'' he => by cases e <;> first | exact hk _ _ he | exact he)
        | exact Rows.mono hh (fun _ _ he => hk _ _ he)
  | halt x w' => cases x <;> simp only [Oper.upon] at hh ⊢ <;> exact hh
theorem get_appM {i : Nat} (h : i < l.length) : (l ++ T).toArray[i]? = l.toArray[i]? := by
  simp [List.getElem?_append_left h]
theorem wanted_appM (hp : More l T) {i : Nat} {o : Oper} (ho : l[i]? = some o) (t : Array Value) : Region.wanted o (yielded (l ++ T).toArray t) = Region.wanted o (yielded l.toArray t) := by
  unfold Region.wanted
  cases hg : o.guard with
  | none => rfl
  | some g =>
    obtain ⟨j, b⟩ := g
    simp only []
    unfold yielded
    rw [get_appM (hp.guards i o ho j b hg)]
theorem wpOp_appM (hp : More l T) {i : Nat} (hi : i < l.length) {a : Act} {w : World} {K K' : Act → World → Prop} (hk : ∀ a w, K a w → K' a w) (h : wpOp P l.toArray (befM P l T Q) i K a w) : wpOp P (l ++ T).toArray Q i K' a w := by
  unfold wpOp at *
  rw [get_appM hi]
  have ho : l.toArray[i]? = some l[i] := by simp
  have ho' : l[i]? = some l[i] := by simp
  simp only [ho] at h ⊢
  rw [wanted_appM hp ho']
  split
  · rename_i hw
    rw [if_pos hw] at h
    exact h.imp (wp_befM hk) (fun ⟨x, y⟩ => ⟨x, out_befM y⟩)
  · rename_i hw
    rw [if_neg hw] at h
    exact hk _ _ h
theorem wpAny_fuel {ops : Array Oper} : ∀ (d f : Nat) (L : Array Bool) (a : Act) (w : World), wpAny P .any ops Q f L a w → wpAny P .any ops Q (f + d) L a w := by
  have one : ∀ (f : Nat) (L : Array Bool) (a : Act) (w : World), wpAny P .any ops Q f L a w → wpAny P .any ops Q (f + 1) L a w := by
    intro f
    induction f with
    | zero => intro L a w h; exact ⟨fun _ => h.2, fun i hi => by rw [h.1] at hi; cases hi⟩
    | succ f ih => intro L a w h; exact ⟨h.1, fun i hi => wpOp_mono (fun a' w' h' => ih _ a' w' h') (h.2 i hi)⟩
  intro d
  induction d with
  | zero => intro f L a w h; exact h
  | succ d ih => intro f L a w h; exact one _ L a w (ih f L a w h)
theorem rep_getD {m i : Nat} (h : i < m) : (Array.replicate m false).getD i true = false := by simp [h]
theorem all_listedM (hp : More l T) {L : Array Bool} (hL : L.size = l.length) (h : Region.ready .any l.toArray L = []) : ∀ i, i < l.length → L.getD i true = true := by
  intro i
  induction i using Nat.strongRecOn with
  | ind i ih =>
    intro hi
    cases hl : L.getD i true with
    | true => rfl
    | false =>
      exfalso
      have : i ∈ Region.ready .any l.toArray L := mem_ready.2 ⟨hl, l[i], by simp, fun e he hb => by
        have h1 := hp.ordered i l[i] (by simp) e he hb
        rw [getD_tf (by omega)]
        exact ih e.on h1 (by omega)⟩
      rw [h] at this
      cases this
theorem upTo_of {L' : Array Bool} (hz : L'.size = l.length + T.length) (h1 : ∀ i, i < l.length → L'.getD i true = true) (h2 : ∀ j, l.length ≤ j → j < l.length + T.length → L'.getD j true = false) : L' = upTo l T := by
  apply Array.ext
  · simp [upTo, hz]
  · intro i hi hi2
    rcases Nat.lt_or_ge i l.length with h | h
    · have := h1 i h
      simp only [Array.getD, hi, dif_pos] at this
      simp only [upTo]
      rw [Array.getElem_append_left (by simpa using h)]
      simpa using this
    · have := h2 i h (by omega)
      simp only [Array.getD, hi, dif_pos] at this
      simp only [upTo]
      rw [Array.getElem_append_right (by simpa using h)]
      simpa using this
theorem wpAny_more (hp : More l T) : ∀ (f : Nat) (L L' : Array Bool) (a : Act) (w : World), Closed .any l.toArray L → L.size = l.length → L'.size = l.length + T.length → (∀ i, i < l.length → L'.getD i true = L.getD i true) → (∀ j, l.length ≤ j → j < l.length + T.length → L'.getD j true = false) →
    wpAny P .any l.toArray (befM P l T Q) f L a w → wpAny P .any (l ++ T).toArray Q (f + T.length) L' a w := by
  have fin : ∀ (d : Nat) (L L' : Array Bool) (a : Act) (w : World), L.size = l.length → L'.size = l.length + T.length → (∀ i, i < l.length → L'.getD i true = L.getD i true) → (∀ j, l.length ≤ j → j < l.length + T.length → L'.getD j true = false) → Region.ready .any l.toArray L = [] → befM P l T Q .normal a w →
      wpAny P .any (l ++ T).toArray Q (d + T.length) L' a w := fun d L L' a w hL hL' hag hn hr hb => by
    have hall := all_listedM hp hL hr
    rw [upTo_of hL' (fun i hi => (hag i hi).trans (hall i hi)) hn, Nat.add_comm]
    exact wpAny_fuel d _ _ _ _ hb
  intro f
  induction f with
  | zero =>
    intro L L' a w hc hL hL' hag hn h
    exact fin 0 L L' a w hL hL' hag hn h.1 h.2
  | succ f ih =>
    intro L L' a w hc hL hL' hag hn h
    by_cases hz : Region.ready .any l.toArray L = []
    · exact fin (f + 1) L L' a w hL hL' hag hn hz (h.1 hz)
    · have hsub : ∀ i, i ∈ Region.ready .any (l ++ T).toArray L' → i ∈ Region.ready .any l.toArray L := fun i hi => by
        obtain ⟨h1, o, ho, h2⟩ := mem_ready.1 hi
        have hjl : i < (l ++ T).toArray.size := (Array.getElem?_eq_some_iff.1 ho).1
        simp at hjl
        rcases Nat.lt_or_ge i l.length with h3 | h3
        · refine mem_ready.2 ⟨by rw [← hag i h3]; exact h1, o, by rw [← get_appM h3]; exact ho, fun e he hb => ?_⟩
          have h4 := hp.ordered i o (by rw [get_appM h3] at ho; simpa using ho) e he hb
          have h5 := h2 e he hb
          rw [getD_tf (by omega)] at h5 ⊢
          rw [← hag e.on (by omega)]
          exact h5
        · exfalso
          have hcl : Closed .any (l ++ T).toArray L' := fun j oj hoj hl e he hb => by
            rcases Nat.lt_or_ge j l.length with hj | hj
            · have hoj' : l.toArray[j]? = some oj := by rw [← get_appM hj]; exact hoj
              have h4 := hp.ordered j oj (by simpa using hoj') e he hb
              rw [getD_tf (by omega)] at hl
              have := hc j oj hoj' (by rw [getD_tf (by omega), ← hag j hj]; exact hl) e he hb
              rw [getD_tf (by omega), ← hag e.on (by omega)] at this
              rw [getD_tf (by omega)]; exact this
            · exfalso
              have hjl2 : j < (l ++ T).toArray.size := (Array.getElem?_eq_some_iff.1 hoj).1
              simp at hjl2
              rw [getD_tf (by omega), hn j hj hjl2] at hl
              cases hl
          apply hz
          refine List.eq_nil_iff_forall_not_mem.2 fun j hj => ?_
          obtain ⟨g1, oj, hoj, _⟩ := mem_ready.1 hj
          have hjl2 : j < l.toArray.size := (Array.getElem?_eq_some_iff.1 hoj).1
          simp at hjl2
          obtain ⟨o2, ho2, e, he, hb, hp2⟩ := hp.waits i h3 hjl j hjl2
          have : o2 = o := by
            have h6 : (l ++ T)[i]? = some o := by simpa using ho
            exact Option.some.inj (ho2.symm.trans h6)
          subst this
          have h7 := h2 e he hb
          have h8 : L'.getD j false = true := by
            rcases hp2 with hp2 | hp2
            · rw [← hp2]; exact h7
            · exact path_listed hcl j _ e.on hp2 h7
          rw [getD_tf (by omega), hag j hjl2] at h8
          rw [h8] at g1
          cases g1
      rw [show f + 1 + T.length = (f + T.length) + 1 by omega]
      refine ⟨fun h0 => ?_, fun i hi => ?_⟩
      · exfalso
        obtain ⟨j, hj⟩ := List.exists_mem_of_ne_nil _ hz
        obtain ⟨h1, o, ho, h2⟩ := mem_ready.1 hj
        have h3 : j < l.length := by have := (Array.getElem?_eq_some_iff.1 ho).1; simpa using this
        have : j ∈ Region.ready .any (l ++ T).toArray L' := mem_ready.2 ⟨by rw [hag j h3]; exact h1, o, by rw [get_appM h3]; exact ho, fun e he hb => by
          have h4 := hp.ordered j o (by simpa using ho) e he hb
          have h5 := h2 e he hb
          rw [getD_tf (by omega)] at h5 ⊢
          rw [hag e.on (by omega)]
          exact h5⟩
        rw [h0] at this
        cases this
      · have hi' := hsub i hi
        obtain ⟨_, o, ho, _⟩ := mem_ready.1 hi'
        have h3 : i < l.length := by have := (Array.getElem?_eq_some_iff.1 ho).1; simpa using this
        refine wpOp_appM hp h3 (fun a' w' hk => ih (L.setIfInBounds i true) (L'.setIfInBounds i true) a' w' (hc.set hi') (by simpa using hL) (by simpa using hL') (fun j hj => ?_) (fun j hj hj2 => ?_) hk) (h.2 i hi')
        · by_cases hij : i = j
          · subst hij; simp [hL, hL', h3, Nat.lt_of_lt_of_le h3 (Nat.le_add_right _ _)]
          · rw [getD_set_ne true hij, getD_set_ne true hij]; exact hag j hj
        · rw [getD_set_ne true (by omega)]; exact hn j hj hj2
/-- What comes behind the operation that waits for all others. -/
def thenStill (P : Program) (ops : Array Oper) (T : List Oper) (Q : Exit → Act → World → Prop) : Exit → Act → World → Prop
  | .normal, a, w => wpStill P ops w (fun a' => Q .normal a' w) T a
  | e, a, w => Q e a w
/-- The law: private operations, one operation that waits for all of them, and then such as only hand values on. -/
theorem wp_region_gho_then {id : Nat} {a : Act} {w : World} {l' : List Oper} (n : Nat) (pv : List Nat) (Rel : Nat → Value → World → Prop) (hm : P.follows .mixedOrders = true) (hB : Region.lexB .any (l'.take n).toArray = true) (hP : privB (l'.take n).toArray pv = true)
    (hpl : peelsB .any (l'.take n) ((l'.drop n).take 1) = true) (hmo : moreB (l'.take n ++ (l'.drop n).take 1) (l'.drop (n + 1)) = true) (hsel : Region.noSelect l'.toArray = true)
    (hlex : Region.lexFrom .any l'.toArray (l'.drop (n + 1)).length (n + 1) (upTo (l'.take n ++ (l'.drop n).take 1) (l'.drop (n + 1))) = true) (hn : n < l'.length)
    (hR : ∀ p u w w', Rel p u w → Below w.heap.size w w' → Rel p u w')
    (h : wpGho P (l'.take n).toArray pv Rel (fun w' => ∃ x : Later w, w' = x.w') (Post1 pv Rel) (fun a' => ∀ g w', (∃ x : Later w, w' = x.w') → (∀ p ∈ pv, Rel p (g p) w') → wpList P l'.toArray (thenStill P l'.toArray (l'.drop (n + 1)) Q) ((l'.drop n).take 1) (over (l'.take n).toArray pv g a') w') 0 (l'.take n) a) : (Code.region id l'.toArray true).wp P Q a w := by
  have hl : l' = (l'.take n ++ (l'.drop n).take 1) ++ l'.drop (n + 1) := by
    rw [List.append_assoc, show l'.drop (n + 1) = (l'.drop n).drop 1 by rw [List.drop_drop, Nat.add_comm], List.take_append_drop, List.take_append_drop]
  have hlen : (l'.take n ++ (l'.drop n).take 1).length = n + 1 := by
    rw [List.length_append, List.length_take, List.length_take, List.length_drop]; omega
  refine wp_region_any hm ?_
  obtain ⟨T, hT⟩ : ∃ T, l'.drop (n + 1) = T := ⟨_, rfl⟩
  obtain ⟨t1, ht1⟩ : ∃ t, (l'.drop n).take 1 = t := ⟨_, rfl⟩
  obtain ⟨l, hll⟩ : ∃ x, l'.take n = x := ⟨_, rfl⟩
  rw [hT, ht1, hll] at hl hmo hlex
  rw [ht1, hll] at hlen hpl
  rw [hT, ht1, hll] at h
  rw [hll] at hB hP
  have hmain : ∀ (a : Act) (w : World), thenStill P l'.toArray T Q .normal a w → befM P (l ++ t1) T Q .normal a w := fun a w hs => by
    show wpAny P .any ((l ++ t1) ++ T).toArray Q T.length (upTo (l ++ t1) T) a w
    rw [← hl]
    exact wpAny_of_still (fun a h => h) _ _ _ (wpAnyS_lex hsel T (n + 1) _ a (fun j => by
      rw [hl]
      simp only [List.getElem?_toArray]
      rw [List.getElem?_append_right (by omega), hlen]
      congr 1; omega) hlex hs)
  simp only [Region.lexB, Bool.and_eq_true] at hB
  have hp := Priv.of hP
  have htail : ∀ (tail : List Oper) (m : List Oper) (a : Act) (w : World), (∀ o ∈ tail, o.guard.isNone = true) → wpList P l'.toArray (thenStill P l'.toArray T Q) tail a w → wpList P l'.toArray (befM P (l ++ t1) T Q) tail a w := fun tail m => by
    induction tail with
    | nil => intro a w _ h; exact hmain a w h
    | cons o tail ih =>
      intro a w hg h
      have hgn : o.guard = none := by simpa using hg o (by simp)
      unfold wpList at h ⊢
      have hw : Region.wanted o (yielded l'.toArray a.tmps) = true := by unfold Region.wanted; rw [hgn]
      simp only [hw, if_true] at h ⊢
      refine h.imp (fun h => ?_) (fun h => h)
      unfold Oper.wp at *
      generalize (execOp a.eval o).run P w = r at *
      have hk := fun a w h => ih a w (fun o ho => hg o (by simp [ho])) h
      cases r with
      | ok x w' =>
        cases x <;> simp only [Oper.upon] at h ⊢ <;>
          first
            | exact hk _ _ h
            | exact Calls.mono h (fun e w'' he => by cases e <;> first | exact hk _ _ he | exact he)
            | exact Rows.mono h (fun _ _ he => hk _ _ he)
      | halt x w' => cases x <;> simp only [Oper.upon] at h ⊢ <;> exact h
  have hgd : ∀ o ∈ t1, o.guard.isNone = true := by
    have : ∀ (t m : List Oper), peelsB .any m t = true → ∀ o ∈ t, o.guard.isNone = true := by
      intro t
      induction t with
      | nil => intro m _ o ho; cases ho
      | cons s t ih =>
        intro m hpm o ho
        unfold peelsB at hpm
        simp only [Bool.and_eq_true] at hpm
        rcases List.mem_cons.1 ho with rfl | ho
        · exact hpm.2.1
        · exact ih _ hpm.2.2 o ho
    exact this t1 l hpl
  have h' : wpGho P l.toArray pv Rel (fun w' => ∃ x : Later w, w' = x.w') (Post1 pv Rel) (fun a' => ∀ g w', (∃ x : Later w, w' = x.w') → (∀ p ∈ pv, Rel p (g p) w') → beforeL P l t1 (befM P (l ++ t1) T Q) .normal (over l.toArray pv g a') w') 0 l a := by
    refine (?_ : ∀ (k : Nat) (m : List Oper) (b : Act), wpGho P l.toArray pv Rel (fun w' => ∃ x : Later w, w' = x.w') (Post1 pv Rel) _ k m b → wpGho P l.toArray pv Rel (fun w' => ∃ x : Later w, w' = x.w') (Post1 pv Rel) _ k m b) 0 l a h
    intro k m
    induction m generalizing k with
    | nil =>
      intro b hb g w' hw hr
      exact beforeL_normal t1 l hpl (htail t1 l _ _ hgd (hb g w' hw hr))
    | cons o m ih =>
      rintro b ⟨v, h1, h2⟩
      exact ⟨v, h1, ih _ _ h2⟩
  have hx := wpAnyG_lex (P := P) (pv := pv) (Rel := Rel) (C := fun w' => ∃ x : Later w, w' = x.w') hp hB.1 l 0 (Array.replicate l.toArray.size false) a (by simp) (by simp) (fun j hj => absurd hj (Nat.not_lt_zero _)) (by simpa using hB.2) h'
  have hf : ∀ m j, (Array.replicate m false).getD j false = false := fun m j => by
    rcases Nat.lt_or_ge j m with h | h
    · simp [h]
    · simp [h]
  have hy := wpAny_of_gho (P := P) (ops := l.toArray) (pv := pv) (Rel := Rel) (C := fun w' => ∃ x : Later w, w' = x.w') (Post := Post1 pv Rel) hp (Region.noSelect_spec hB.1) (Q' := beforeL P l t1 (befM P (l ++ t1) T Q)) l.length (fun _ _ => True)
    (fun hm => by obtain ⟨o, _, ho, _⟩ := hp.has _ hm; simp at ho) (fun o ho => by simp at ho) (fun listed hz _ hl => by
      have hz' : listed.size = l.length := by simpa using hz
      simp [Array.getElem?_eq_none (xs := listed) (i := l.length) (by omega)] at hl) (fun w1 w2 ⟨x, hx⟩ hb => by
      subst hx; exact ⟨⟨w2, below_to x.h hb⟩, rfl⟩) hR (fun _ _ _ _ _ => trivial) (fun _ _ _ _ _ _ _ h => h) (fun hlt => by simp at hlt) (fun g a w' hw _ hr hq => hq g w' hw (hr (by simp))) _ _ _ (fun _ => undef) a w.drew (fun j oj _ hl => by rw [hf] at hl; cases hl)
    ⟨rfl, rfl, fun t _ => by
      unfold valAt
      have : (pv.find? fun p => (Array.replicate l.toArray.size false).getD p false && dstOf l.toArray p == some t) = none := by
        rw [List.find?_eq_none]; intro p _; rw [hf]; simp
      rw [this]⟩ ⟨⟨w.drew, (Below.refl _ _).drew⟩, rfl⟩ (fun _ => trivial) (fun _ p _ hl => by rw [hf] at hl; cases hl) (by simp) hx
  have hz := wpAny_peels (md := .any) t1 l _ _ (Array.replicate (l.length + t1.length) false) a w.drew hpl (fun j oj _ hl => by rw [hf] at hl; cases hl) (by simp) (fun i hi => by simp [hi]) rfl (by simp) hy
  have hq := wpAny_more (l := l ++ t1) (T := T) (Q := Q) (More.of hmo) _ _ (Array.replicate ((l ++ t1).length + T.length) false) a w.drew (fun j oj _ hl => by rw [hf] at hl; cases hl) (by simp) (by simp) (fun i hi => by
    rw [rep_getD (by omega), rep_getD (by rw [← List.length_append]; exact hi)]) (fun j hj hj2 => rep_getD hj2) hz
  rw [← hl] at hq
  have e1 : l.length + t1.length + T.length = l'.toArray.size := by
    have := congrArg List.length hl
    simp only [List.length_append] at this
    simp only [List.size_toArray]; omega
  rw [List.length_append, e1] at hq
  simpa [e1] using hq
end
end Go.Proofs.Ytliblhfabnjpkaa
