/- A region that draws its order, in which several operations make memory and several store: an invariant that knows which are done. Objects that turn: what stays of a world but for some blocks; bytes that an object has for itself. A region that draws its order, in which variables are made and old ones turned, each by one store of a whole value: which way the draw goes does not matter. A region that draws its order, in which variables are made and old ones turned: the law and its steps. Numbers and points in memory: a number read at a place of a greater block. The steps of a region that makes variables, as the macro VAR takes them. -/
import Derived.Test.YtceljjnohjnepaaDoorM05
import Derived.Test.YtceljjnohjnepaaDoorM02
import Derived.Test.YtceljjnohjnepaaDoorM03
import Derived.Deep.AppendSrc
import Derived.Laws.AppendOwn
import Derived.Maps.OwnSet
import Derived.Test.YtceljjnohjnepaaDoorM06
import Derived.Test.YtceljjnohjnepaaDoorM04
namespace Go.Proofs.YtceljjnohjnepaaDoor
open Go Go.RowKit

section
variable {P : Program} {ops : Array Oper} {pv : List Nat} {Rel : Nat → Value → World → Prop} {C : World → Prop}

def also (S : Nat → Bool) (i : Nat) : Nat → Bool := fun j => if j = i then true else S j
/-- What waits for another comes behind it. -/
def CloS (ops : Array Oper) (S : Nat → Bool) : Prop := ∀ j o, ops[j]? = some o → S j = true → ∀ e ∈ o.after, Region.binds .any e = true → S e.on = true
def Due (ops : Array Oper) (S : Nat → Bool) (i : Nat) : Prop := S i = false ∧ ∀ o, ops[i]? = some o → ∀ e ∈ o.after, Region.binds .any e = true → S e.on = true
abbrev InvT := (Nat → Bool) → (Nat → Value) → World → Prop
def PostI (ops : Array Oper) (pv : List Nat) (Inv : InvT) : PostT := fun i v g w u x => ∀ S, CloS ops S → Due ops S i → Inv S g w → (i ∉ pv → u = v) ∧ Inv (also S i) (if i ∈ pv then fun p => if p = i then u else g p else g) x

set_option maxRecDepth 100000 in
theorem wpAny_of_inv (h : Priv ops pv) (hsel : ∀ (j : Nat) (o : Oper) cs b, ops[j]? = some o → o.op ≠ .select cs b) {Q : Act → Prop} {Q' : Exit → Act → World → Prop} (Inv : InvT)
    (hI1 : ∀ S g w, Inv S g w → C w) (hI2 : ∀ S g w p, p ∈ pv → S p = true → Inv S g w → Rel p (g p) w)
    (hU : ∀ S g w i o, ops[i]? = some o → o.guard ≠ none → Inv S g w → Inv (also S i) g w)
    (hQ : ∀ S g a w, (∀ s, s < ops.size → S s = true) → Inv S g w → Q a → Q' .normal (over ops pv g a) w) :
    ∀ (fuel : Nat) (listed : Array Bool) (a : Act) (g : Nat → Value) (r : Act) (w : World), Closed .any ops listed → Real ops pv (fun p => listed.getD p false) g a r → Inv (fun p => listed.getD p false) g w →
    listed.size = ops.size →
    wpAnyG P ops pv Rel C (PostI ops pv Inv) (fun listed a => (∀ s, s < ops.size → listed.getD s false = true) ∧ Q a) fuel listed a → wpAny P .any ops Q' fuel listed r w := by
  have fin : ∀ (listed : Array Bool) (a : Act) (g : Nat → Value) (r : Act) (w : World), Real ops pv (fun p => listed.getD p false) g a r → Inv (fun p => listed.getD p false) g w →
      (∀ s, s < ops.size → listed.getD s false = true) → Q a → Q' .normal r w := fun listed a g r w hr hi hall hq => by
    have hl : ∀ p ∈ pv, listed.getD p false = true := fun p hp => by
      obtain ⟨o, t, ho, _⟩ := h.has p hp
      exact hall p (Array.getElem?_eq_some_iff.1 ho).1
    rw [hr.all h hl]
    exact hQ _ g a w hall hi hq
  intro fuel
  induction fuel with
  | zero => intro listed a g r w _ hr hi hsz hh; exact ⟨hh.1, fin listed a g r w hr hi hh.2.1 hh.2.2⟩
  | succ fuel ih =>
    intro listed a g r w hc hr hinv hsz hh
    refine ⟨fun h0 => fin listed a g r w hr hinv (hh.1 h0).1 (hh.1 h0).2, fun i hi => ?_⟩
    have h2 := hh.2 i hi
    have hc2 := hc.set hi
    have hsz2 : (listed.setIfInBounds i true).size = ops.size := by simpa using hsz
    obtain ⟨hif, hil⟩ := getD_ft (mem_ready.1 hi).1
    have hS : (fun p => (listed.setIfInBounds i true).getD p false) i = true := by simp [hil]
    have hS2 : ∀ p, p ≠ i → (fun p => (listed.setIfInBounds i true).getD p false) p = (fun p => listed.getD p false) p := fun p hp => getD_set_ne false (Ne.symm hp)
    have hSe : (fun p => (listed.setIfInBounds i true).getD p false) = also (fun p => listed.getD p false) i := by
      funext j
      unfold also
      by_cases hj : j = i
      · rw [if_pos hj, hj]; exact hS
      · rw [if_neg hj]; exact hS2 j hj
    obtain ⟨_, o, ho, hall⟩ := mem_ready.1 hi
    have hclo : CloS ops (fun p => listed.getD p false) := fun j oj hj hl e he hb => hc j oj hj hl e he hb
    have hdue : Due ops (fun p => listed.getD p false) i := ⟨hif, fun o' ho' e he hb => by
      have : o' = o := Option.some.inj (ho'.symm.trans ho)
      subst this
      exact hall e he hb⟩
    unfold gOp at h2
    unfold wpOp
    simp only [ho] at h2 ⊢
    obtain ⟨v, hd, hK⟩ := h2
    rw [real_wanted h ho hr]
    rcases hd with ⟨hwt, hd⟩ | ⟨hwt, rfl⟩
    · rw [hwt, if_pos rfl]
      refine .inl ?_
      have hwl : ∀ p ∈ pv, waitsB o p = true → listed.getD p false = true := fun p hp hwp => by
        unfold waitsB at hwp
        obtain ⟨e, he, hb⟩ := Array.any_eq_true'.1 hwp
        simp only [Bool.and_eq_true, beq_iff_eq] at hb
        rw [← hb.2]; exact hall e he hb.1
      refine wp_of_gRaw (real_exec h ho (fun cs b => hsel i o cs b ho) hr hwl) (hd g w (hI1 _ g w hinv) (fun p hp hwp => hI2 _ g w p hp (hwl p hp (by unfold usesB at hwp; rw [Bool.and_eq_true] at hwp; exact hwp.1)) hinv)) fun u x hok => ?_
      obtain ⟨e1, e2⟩ := hok _ hclo hdue hinv
      rw [← hSe] at e2
      by_cases hip : i ∈ pv
      · rw [if_pos hip] at e2
        exact ih _ _ (fun p => if p = i then u else g p) _ _ hc2 (hr.step h ho hS hS2 v u _ (fun p hp => if_neg hp) (by rw [if_pos hip, if_pos rfl])) e2 hsz2 hK
      · rw [if_neg hip] at e2
        exact ih _ _ g _ _ hc2 (hr.step h ho hS hS2 v u g (fun _ _ => rfl) (by rw [if_neg hip]; exact e1 hip)) e2 hsz2 hK
    · rw [hwt]
      have hgn : o.guard ≠ none := fun hg => by
        unfold Region.wanted at hwt
        rw [hg] at hwt
        cases hwt
      have hip : i ∉ pv := fun hp => by
        obtain ⟨o2, t, ho2, _, hg⟩ := h.has i hp
        have : o2 = o := Option.some.inj (ho2.symm.trans ho)
        subst this
        exact hgn hg
      refine ih _ _ g _ _ hc2 (hr.step h ho hS hS2 undef undef g (fun _ _ => rfl) (by rw [if_neg hip])) ?_ hsz2 hK
      rw [hSe]
      exact hU _ g w i o ho hgn hinv
set_option maxRecDepth 100000 in
/-- The law. -/
theorem wp_region_inv {id : Nat} {Q : Exit → Act → World → Prop} {a : Act} {w : World} {l : List Oper} (pv : List Nat) (Rel : Nat → Value → World → Prop) (C : World → Prop) (Inv : InvT) (hm : P.follows .mixedOrders = true) (hB : Region.lexB .any l.toArray = true) (hP : privB l.toArray pv = true)
    (hI0 : Inv (fun _ => false) (fun _ => undef) w.drew) (hI1 : ∀ S g w, Inv S g w → C w) (hI2 : ∀ S g w p, p ∈ pv → S p = true → Inv S g w → Rel p (g p) w)
    (hU : ∀ S g w i o, l[i]? = some o → o.guard ≠ none → Inv S g w → Inv (also S i) g w)
    (h : wpGho P l.toArray pv Rel C (PostI l.toArray pv Inv) (fun a' => ∀ S g w', (∀ s, s < l.length → S s = true) → Inv S g w' → Q .normal (over l.toArray pv g a') w') 0 l a) : (Code.region id l.toArray true).wp P Q a w := by
  simp only [Region.lexB, Bool.and_eq_true] at hB
  refine wp_region_any hm ?_
  have hp := Priv.of hP
  have hx := wpAnyG_lex (P := P) (pv := pv) (Rel := Rel) (C := C) hp hB.1 l 0 (Array.replicate l.toArray.size false) a (by simp) (by simp) (fun j hj => absurd hj (Nat.not_lt_zero _)) (by simpa using hB.2) h
  have hf : ∀ m j, (Array.replicate m false).getD j false = false := fun m j => by
    rcases Nat.lt_or_ge j m with h | h
    · simp [h]
    · simp [h]
  have hy := wpAny_of_inv (P := P) (ops := l.toArray) (pv := pv) (Rel := Rel) (C := C) hp (Region.noSelect_spec hB.1) Inv hI1 hI2 (fun S g w i o ho => hU S g w i o (by simpa using ho))
    (fun S g a w' hs hi hq => hq S g w' (fun s hs' => hs s (by simpa using hs')) hi) _ _ _ (fun _ => undef) a w.drew (fun j oj _ hl => by rw [hf] at hl; cases hl)
    ⟨rfl, rfl, fun t _ => by
      unfold valAt
      have : (pv.find? fun p => (Array.replicate l.toArray.size false).getD p false && dstOf l.toArray p == some t) = none := by
        rw [List.find?_eq_none]; intro p _; rw [hf]; simp
      rw [this]⟩ (by rw [show (fun p => (Array.replicate l.toArray.size false).getD p false) = fun _ => false from funext fun p => hf _ p]; exact hI0) (by simp) hx
  simpa using hy
end

end Go.Proofs.YtceljjnohjnepaaDoor

namespace Go.Proofs.YtceljjnohjnepaaDoor
open Go Go.RowKit

/-- But for the blocks that ex names, and for new ones, the world is as it was. -/
structure Out (ex : Nat → Prop) (w w' : World) : Prop where
  os : w'.os = w.os
  tape : w'.tape = w.tape
  output : w'.output = w.output
  size : w.heap.size ≤ w'.heap.size
  block : ∀ k, k < w.heap.size → ¬ ex k → w'.heap[k]? = w.heap[k]?
section
variable {ex ex' : Nat → Prop} {a b c w w' : World}
set_option maxRecDepth 100000 in
theorem Out.refl (ex : Nat → Prop) (w : World) : Out ex w w := ⟨rfl, rfl, rfl, Nat.le_refl _, fun _ _ _ => rfl⟩
set_option maxRecDepth 100000 in
theorem Out.trans (h : Out ex a b) (k : Out ex' b c) (he : ∀ j, j < a.heap.size → ex' j → ex j) : Out ex a c :=
  ⟨k.os.trans h.os, k.tape.trans h.tape, k.output.trans h.output, Nat.le_trans h.size k.size, fun i hi hn => (k.block i (Nat.lt_of_lt_of_le hi h.size) (fun e => hn (he i hi e))).trans (h.block i hi hn)⟩
set_option maxRecDepth 100000 in
theorem Out.then (h : Out ex a b) (k : Out ex b c) : Out ex a c := h.trans k fun _ _ e => e
set_option maxRecDepth 100000 in
theorem Out.mono (h : Out ex a b) (he : ∀ j, j < a.heap.size → ex j → ex' j) : Out ex' a b := ⟨h.os, h.tape, h.output, h.size, fun i hi hn => h.block i hi fun e => hn (he i hi e)⟩
set_option maxRecDepth 100000 in
theorem Out.of_below (h : Below w.heap.size w w') : Out ex w w' := ⟨h.os, h.tape, h.output, h.size, fun k hk _ => h.block k hk⟩
set_option maxRecDepth 100000 in
theorem Out.below {B : Nat} (h : Out ex w w') (he : ∀ k, ex k → B ≤ k) (hB : B ≤ w.heap.size) : Below B w w' := ⟨h.os, h.tape, h.output, h.size, fun k hk => h.block k (by omega) (fun e => by have := he k e; omega)⟩
set_option maxRecDepth 100000 in
theorem Out.of_grown {row : Option Nat} (h : w.grownBy w' row) (he : ∀ k, row = some k → ex k) : Out ex w w' := ⟨h.os, h.tape, h.output, h.size, fun k hk hn => h.block k hk (fun e => hn (he k e.symm))⟩
set_option maxRecDepth 100000 in
theorem Out.of_dr (h : Dr w w') : Out ex w w' := by obtain ⟨n, rfl⟩ := h; exact ⟨rfl, rfl, rfl, Nat.le_refl _, fun _ _ _ => rfl⟩
set_option maxRecDepth 100000 in
theorem Out.drew (h : Out ex a w) : Out ex a w.drew := ⟨h.os, h.tape, h.output, h.size, h.block⟩
set_option maxRecDepth 100000 in
theorem Out.drewN (h : Out ex a w) (n : Nat) : Out ex a (w.drewN n) := ⟨h.os, h.tape, h.output, h.size, h.block⟩
set_option maxRecDepth 100000 in
theorem Out.alloc (h : Out ex a w) (o : Obj) : Out ex a (w.alloc o) := h.then ⟨rfl, rfl, rfl, by simp, fun i hi _ => Below.heap_alloc w o i hi⟩
set_option maxRecDepth 100000 in
theorem Out.setCell (h : Out ex a w) {p : Addr} (hp : ex p.block ∨ a.heap.size ≤ p.block) (u : Value) : Out ex a (w.setCell p u) :=
  ⟨h.os, h.tape, h.output, Nat.le_trans h.size (by simp [World.setCell]), fun i hi hn => (Below.heap_setCell w p u i (fun e => by subst e; rcases hp with hp | hp; exact hn hp; omega)).trans (h.block i hi hn)⟩
set_option maxRecDepth 100000 in
theorem Out.blk (h : Out ex a w) {b : Nat} (hb : ex b ∨ a.heap.size ≤ b) (o : Obj) : Out ex a (blk w b o) :=
  ⟨h.os, h.tape, h.output, Nat.le_trans h.size (by simp [Proofs.YtceljjnohjnepaaDoor.blk]), fun i hi hn => (blk_other i (fun e => by subst e; rcases hb with hb | hb; exact hn hb; omega)).trans (h.block i hi hn)⟩
set_option maxRecDepth 100000 in
theorem Out.get (h : Out ex w w') {b : Nat} {o : Obj} (g : hget w b = some o) (hn : ¬ ex b) : hget w' b = some o := (h.block b (hget_lt g) hn).trans g
set_option maxRecDepth 100000 in
theorem Out.cell (h : Out ex w w') {p : Addr} {v : Value} (g : w.cell? p = some v) (hn : ¬ ex p.block) : w'.cell? p = some v :=
  (World.cell?_of_block (h.block p.block (World.block_lt_of_cell? w p g) hn)).trans g
end
set_option maxRecDepth 100000 in
theorem hget_setCell {w : World} {b : Nat} {c : Array Value} {T : TypeId} {fz : Nat × Nat} (h : hget w b = some (.cells c T fz)) (k : Nat) (v : Value) : hget (w.setCell ⟨b, k, none⟩ v) b = some (.cells (c.setIfInBounds k v) T fz) := at_setCell h k v
set_option maxRecDepth 100000 in
theorem hget_setCell_ne {w : World} {b : Nat} {o : Obj} (h : hget w b = some o) {p : Addr} (hp : b ≠ p.block) (v : Value) : hget (w.setCell p v) b = some o := at_setCell_other h hp v
set_option maxRecDepth 100000 in
theorem hget_grown {w w' : World} {b : Nat} {o : Obj} {row : Option Nat} (h : hget w b = some o) (hg : w.grownBy w' row) (hn : some b ≠ row) : hget w' b = some o := (hg.block b (hget_lt h) hn).trans h

/-- A slice of bytes that an object has for itself: what it holds. -/
def OwnsQ (w : World) (v : Value) (l : List UInt8) : Prop :=
  (v = .slice none 0 0 ∧ l = []) ∨
  ∃ g cap cur, v = .slice (some ⟨g, 0, none⟩) l.length cap ∧ hget w g = some (.cells cur 5 (0, 0)) ∧ l.length ≤ cap ∧ cap ≤ cur.size ∧ cur.size ≤ maxLen ∧ cur.toList.take l.length = u8s l
set_option maxRecDepth 100000 in
theorem OwnsQ.nil (w : World) : OwnsQ w (.slice none 0 0) [] := .inl ⟨rfl, rfl⟩
set_option maxRecDepth 100000 in
theorem OwnsQ.keep {w w' : World} {v : Value} {l : List UInt8} (h : OwnsQ w v l) (hk : ∀ g o, v.ownBlock = some g → hget w g = some o → hget w' g = some o) : OwnsQ w' v l := by
  rcases h with h | ⟨g, cap, cur, rfl, h2, h3⟩
  · exact .inl h
  · exact .inr ⟨g, cap, cur, rfl, hk g _ rfl h2, h3⟩
set_option maxRecDepth 100000 in
theorem OwnsQ.lt {w : World} {v : Value} {l : List UInt8} (h : OwnsQ w v l) {g : Nat} (hg : v.ownBlock = some g) : g < w.heap.size := by
  rcases h with ⟨rfl, _⟩ | ⟨g', cap, cur, rfl, h2, _⟩
  · simp [Value.ownBlock] at hg
  · simp [Value.ownBlock] at hg; subst hg; exact hget_lt h2
set_option maxRecDepth 100000 in
theorem OwnsQ.shape {w : World} {v : Value} {l : List UInt8} (h : OwnsQ w v l) : ∃ a cap, v = .slice a l.length cap ∧ l.length ≤ cap ∧ (a = none → cap = 0) ∧ cap ≤ maxLen ∧
    (∀ j, j < l.length → ∃ g, a = some ⟨g, 0, none⟩ ∧ w.cell? ⟨g, j, none⟩ = some (.int .u8 ((l.getD j 0).toNat : Int))) := by
  rcases h with ⟨rfl, rfl⟩ | ⟨g, cap, cur, rfl, h2, h3, h4, h5, h6⟩
  · exact ⟨none, 0, rfl, Nat.le_refl _, fun _ => rfl, by unfold maxLen; omega, fun j hj => by simp at hj⟩
  · refine ⟨_, _, rfl, h3, (fun e => by cases e), Nat.le_trans h4 h5, fun j hj => ⟨g, rfl, ?_⟩⟩
    rw [cell_at h2]
    have h3 : cur.toList[j]? = (u8s l)[j]? := by
      have h4 : (cur.toList.take l.length)[j]? = cur.toList[j]? := by rw [List.getElem?_take, if_pos hj]
      rw [← h4, h6]
    rw [← Array.getElem?_toList, h3]
    unfold u8s
    simp [hj]

section
variable {P : Program}
set_option maxRecDepth 100000 in
theorem run_append_Q (w : World) (t tx ty : TypeId) (i : TypeInfo) (ht : P.underlying t = some (.slice 5)) (hi : P.info? 5 = some i) (hz : i.zero = some (.int .u8 0)) (hs1 : i.size = 1) (hb1 : i.bytes = 1)
    (v x : Value) (l m : List UInt8) (h : OwnsQ w v l) (hs : Src P 1 tx x m.length (u8s m) w) (hm : 0 < m.length) (hlen : l.length + m.length ≤ 140737488355328) :
    ∃ v' w', (Builtin.append_ #[t, tx] ty #[v, x]).run P w = .ok v' w' ∧ OwnsQ w' v' (l ++ m) ∧ w.grownBy w' v.ownBlock ∧ (v'.ownBlock = v.ownBlock ∨ v'.ownBlock = some w.heap.size) := by
  have grow : ∀ (b : Option Addr) (n cap : Nat), n = l.length → cap < n + m.length → (Builtin.firstCells i.size n (.slice b n cap)).run P w.drew = .ok (u8s l).toArray w.drew → v = .slice b n cap →
      ∃ v' w', (Builtin.append_ #[t, tx] ty #[v, x]).run P w = .ok v' w' ∧ OwnsQ w' v' (l ++ m) ∧ w.grownBy w' v.ownBlock ∧ (v'.ownBlock = v.ownBlock ∨ v'.ownBlock = some w.heap.size) := by
    intro b n cap hn hc hf hv
    have hr := run_append_grow_src (P := P) w t tx ty 5 i (.int .u8 0) ht hi hz b n cap (u8s l) hf x m.length (u8s m) (by rw [hs1]; exact hs) hc (by omega) (by
      rw [hb1, Nat.mul_one]
      have := nextslicecap_le hc
      omega)
    rw [hv]
    have hge := grownCap_ge w (n + m.length) cap 5
    have hle := grownCap_le_maxLen w (n + m.length) cap 5 (by unfold maxLen; omega)
    have e1 : (Value.int IntKind.u8 0).cells.size = 1 := rfl
    refine ⟨_, _, hr, .inr ⟨w.heap.size, grownCap w (n + m.length) cap 5, _, by rw [List.length_append, hn], heap_alloc_new w.drew _, ?_, ?_, ?_, ?_⟩, ⟨rfl, rfl, rfl, by simp, fun k hk _ => heap_alloc_old w.drew _ hk⟩, .inr rfl⟩
    · rw [List.length_append]; omega
    · simp only [Array.size_append, List.size_toArray, List.length_append, u8s_length, size_zeroCells]
      rw [e1]; omega
    · simp only [Array.size_append, List.size_toArray, List.length_append, u8s_length, size_zeroCells]
      rw [e1]; omega
    · rw [Array.toList_append, List.take_append_of_le_length (by simp [u8s_length]), List.take_of_length_le (by simp [u8s_length]), u8s_append]
  rcases h with ⟨rfl, rfl⟩ | ⟨g, cap, cur, rfl, hc, hle, hmx, hsz, hxs⟩
  · exact grow none 0 0 rfl (by omega) (by rw [hs1]; exact run_firstCells_none w.drew 1 0 0 0) rfl
  · by_cases hroom : l.length + m.length ≤ cap
    · have hcell : ∀ j, j < cap → (w.cell? ⟨g, j, none⟩).isSome = true := fun j hj => by rw [cell_at hc]; simp; omega
      have hr := run_append_room_src (P := P) w t tx ty 5 i ht hi g 0 l.length cap x m.length (u8s m) (by rw [hs1]; exact hs) hroom (fun j hj => by rw [hs1, Nat.zero_add, Nat.mul_one]; exact hcell _ (by rw [u8s_length] at hj; omega))
        (fun j hj => by rw [hs1, Nat.zero_add, Nat.mul_one]; exact free_at hc _)
      rw [hs1, Nat.zero_add, Nat.mul_one] at hr
      have hcur : cur = (u8s l ++ (cur.toList.drop l.length).take m.length ++ cur.toList.drop (l.length + m.length)).toArray := by
        apply Array.ext'
        simp only []
        rw [← hxs, ← List.drop_drop, List.append_assoc, List.take_append_drop, List.take_append_drop]
      have hset := setCells_row (u8s m) w g (u8s l) ((cur.toList.drop l.length).take m.length) (cur.toList.drop (l.length + m.length)) 5 (0, 0) (by rw [← hcur]; exact hc) (by rw [List.length_take, List.length_drop, u8s_length]; simp; omega)
      rw [u8s_length] at hset
      rw [hset] at hr
      have hnew := blk_heap (o := .cells (u8s l ++ u8s m ++ cur.toList.drop (l.length + m.length)).toArray 5 (0, 0)) (lt_blk hc)
      refine ⟨_, _, hr, .inr ⟨g, cap, _, by rw [List.length_append], hnew, by rw [List.length_append]; exact hroom, ?_, ?_, ?_⟩, ⟨rfl, rfl, rfl, by simp [blk], fun k hk hn => blk_other k (by rintro rfl; exact hn rfl)⟩, .inl rfl⟩
      · simp only [List.size_toArray, List.length_append, u8s_length, List.length_drop, Array.length_toList]; omega
      · simp only [List.size_toArray, List.length_append, u8s_length, List.length_drop, Array.length_toList]; omega
      · rw [List.length_append]
        rw [List.take_append_of_le_length (by simp [u8s_length]), List.take_of_length_le (by simp [u8s_length]), u8s_append]
    · refine grow (some ⟨g, 0, none⟩) l.length cap rfl (by omega) ?_ rfl
      have := run_firstCells_some (P := P) w.drew i.size l.length ⟨g, 0, none⟩ l.length cap (u8s l) (by rw [hs1, u8s_length, Nat.mul_one]) (fun j u hu => by
        rw [Addr.add_mid, Nat.zero_add]
        show w.cell? _ = _
        rw [cell_at hc, ← Array.getElem?_toList]
        have hj : j < l.length := by have := (List.getElem?_eq_some_iff.1 hu).1; rwa [u8s_length] at this
        have h4 : (cur.toList.take l.length)[j]? = cur.toList[j]? := by rw [List.getElem?_take, if_pos hj]
        rw [← h4, hxs, hu])
      exact this
set_option maxRecDepth 100000 in
theorem wpList_append_Q {ops : Array Oper} {rest : List Oper} {o : Oper} {a : Act} {w : World} {Q : Exit → Act → World → Prop} (hgd : o.guard = none) (s x : Operand) (t tx : TypeId)
    (ho : o.op = .call { callee := .builtin .append, args := #[s, x], argTypes := #[t, tx] }) (i : TypeInfo) (ht : P.underlying t = some (.slice 5)) (hi : P.info? 5 = some i) (hz : i.zero = some (.int .u8 0)) (hs1 : i.size = 1) (hb1 : i.bytes = 1)
    (v y : Value) (hv : a.eval s = v) (hy : a.eval x = y) (l m : List UInt8) (h : OwnsQ w v l) (hs : Src P 1 tx y m.length (u8s m) w) (hm : 0 < m.length) (hlen : l.length + m.length ≤ 140737488355328)
    (k : ∀ v' w', OwnsQ w' v' (l ++ m) → w.grownBy w' v.ownBlock → (v'.ownBlock = v.ownBlock ∨ v'.ownBlock = some w.heap.size) → wpList P ops Q rest (a.put o.dst v') w') : wpList P ops Q (o :: rest) a w := by
  refine wpList_plain hgd fun _ hK => ?_
  obtain ⟨v', w', hr, h2, h3, h4⟩ := run_append_Q (P := P) w t tx o.type i ht hi hz hs1 hb1 v y l m h hs hm hlen
  unfold Oper.wp execOp
  simp only [ho, resolve, invoke, builtin, Sem.run_bind, Sem.run_pure, Result.andThen_ok, List.map_toArray, List.map_cons, List.map_nil, hv, hy, hr]
  exact hK _ _ (k v' w' h2 h3 h4)
end
end Go.Proofs.YtceljjnohjnepaaDoor

namespace Go.Proofs.YtceljjnohjnepaaDoor
open Go Go.RowKit

/-- A variable: the operation that stores into it, what it holds ahead of that and behind it. -/
structure Cel where
  st : Nat
  ini : Array Value
  fin : Array Value
  T : TypeId
def Cel.at (c : Cel) (S : Nat → Bool) : Obj := .cells (if S c.st then c.fin else c.ini) c.T (0, 0)
/-- A world in which all that stood in w stands, but for what lies in ex. -/
structure LaterX (ex : Nat → Prop) (w : World) where
  w' : World
  h : Out ex w w'
instance (ex : Nat → Prop) (w : World) : Nonempty (LaterX ex w) := ⟨⟨w, Out.refl _ _⟩⟩
set_option maxRecDepth 100000 in
theorem laterx_get {ex : Nat → Prop} {w : World} {b : Nat} {o : Obj} (g : hget w b = some o) (hn : ¬ ex b) (x : LaterX ex w) : hget x.w' b = some o := x.h.get g hn
set_option maxRecDepth 100000 in
theorem laterx_cell {ex : Nat → Prop} {w : World} {p : Addr} {v : Value} (g : w.cell? p = some v) (hn : ¬ ex p.block) (x : LaterX ex w) : x.w'.cell? p = some v := x.h.cell g hn

set_option maxRecDepth 100000 in
theorem blk_hit {w : World} {b : Nat} {o : Obj} (h : b < w.heap.size) : (blk w b o).heap[b]? = some o := by
  unfold blk
  simp [h]

section
variable {P : Program} {ops : Array Oper} {pv : List Nat} {cel : Nat → Cel} {eo : List Nat} {oel : Nat → Cel} {w : World}
def VRel (cel : Nat → Cel) (p : Nat) (v : Value) (w' : World) : Prop := ∃ b cs, v = .pointer (some ⟨b, 0, none⟩) ∧ hget w' b = some (.cells cs (cel p).T (0, 0)) ∧ (cs = (cel p).ini ∨ cs = (cel p).fin)
structure VInv (pv : List Nat) (cel : Nat → Cel) (eo : List Nat) (oel : Nat → Cel) (w : World) (S : Nat → Bool) (g : Nat → Value) (w' : World) : Prop where
  out : Out (fun b => b ∈ eo) w w'
  old : ∀ e ∈ eo, hget w' e = some ((oel e).at S)
  new : ∀ p ∈ pv, S p = true → ∃ b, g p = .pointer (some ⟨b, 0, none⟩) ∧ w.heap.size ≤ b ∧ hget w' b = some ((cel p).at S)
  apart : ∀ p ∈ pv, ∀ q ∈ pv, p ≠ q → S p = true → S q = true → g p ≠ g q
def VC (eo : List Nat) (oel : Nat → Cel) (w w' : World) : Prop := Out (fun b => b ∈ eo) w w' ∧ ∀ e ∈ eo, hget w' e = some (.cells (oel e).ini (oel e).T (0, 0)) ∨ hget w' e = some (.cells (oel e).fin (oel e).T (0, 0))
set_option maxRecDepth 100000 in
theorem Cel.at_cases (c : Cel) (S : Nat → Bool) : c.at S = .cells c.ini c.T (0, 0) ∨ c.at S = .cells c.fin c.T (0, 0) := by unfold Cel.at; split <;> simp
set_option maxRecDepth 100000 in
theorem VInv.vc {S : Nat → Bool} {g : Nat → Value} {w' : World} (h : VInv pv cel eo oel w S g w') : VC eo oel w w' := ⟨h.out, fun e he => by
  rcases (oel e).at_cases S with h1 | h1 <;> rw [h.old e he, h1] <;> simp⟩
set_option maxRecDepth 100000 in
theorem VInv.rel {S : Nat → Bool} {g : Nat → Value} {w' : World} {p : Nat} (hp : p ∈ pv) (hs : S p = true) (h : VInv pv cel eo oel w S g w') : VRel cel p (g p) w' := by
  obtain ⟨b, h1, _, h2⟩ := h.new p hp hs
  rcases (cel p).at_cases S with h3 | h3
  · exact ⟨b, _, h1, by rw [h2, h3], .inl rfl⟩
  · exact ⟨b, _, h1, by rw [h2, h3], .inr rfl⟩
set_option maxRecDepth 100000 in
theorem Cel.at_also {c : Cel} {S : Nat → Bool} {i : Nat} (h : c.st ≠ i) : c.at (also S i) = c.at S := by unfold Cel.at also; rw [if_neg h]
set_option maxRecDepth 100000 in
theorem Cel.at_done {c : Cel} {S : Nat → Bool} : c.at (also S c.st) = .cells c.fin c.T (0, 0) := by unfold Cel.at also; rw [if_pos rfl, if_pos rfl]
set_option maxRecDepth 100000 in
/-- An operation that neither makes nor stores has been done. -/
theorem VInv.quiet {S : Nat → Bool} {g : Nat → Value} {w1 x : World} {i : Nat} (h : VInv pv cel eo oel w S g w1) (hip : i ∉ pv) (hs : ∀ p ∈ pv, (cel p).st ≠ i) (ho : ∀ e ∈ eo, (oel e).st ≠ i) (hb : Below w1.heap.size w1 x) : VInv pv cel eo oel w (also S i) g x := by
  refine ⟨h.out.then (Out.of_below hb), fun e he => ?_, fun p hp hsp => ?_, fun p hp q hq hpq h1 h2 => ?_⟩
  · rw [Cel.at_also (ho e he), hget_eq, hb.block e (hget_lt (h.old e he))]
    exact h.old e he
  · have hpi : p ≠ i := fun e => hip (e ▸ hp)
    have hsp' : S p = true := by unfold also at hsp; rwa [if_neg hpi] at hsp
    obtain ⟨b, e1, e2, e3⟩ := h.new p hp hsp'
    exact ⟨b, e1, e2, by rw [Cel.at_also (hs p hp), hget_eq, hb.block b (hget_lt e3)]; exact e3⟩
  · have hpi : p ≠ i := fun e => hip (e ▸ hp)
    have hqi : q ≠ i := fun e => hip (e ▸ hq)
    unfold also at h1 h2
    rw [if_neg hpi] at h1
    rw [if_neg hqi] at h2
    exact h.apart p hp q hq hpq h1 h2
set_option maxRecDepth 100000 in
/-- A variable has been made. -/
theorem VInv.make {S : Nat → Bool} {g : Nat → Value} {w1 : World} {i : Nat} (h : VInv pv cel eo oel w S g w1) (hip : i ∈ pv) (hs : ∀ p ∈ pv, (cel p).st ≠ i) (ho : ∀ e ∈ eo, (oel e).st ≠ i) (hst : S (cel i).st = false) :
    VInv pv cel eo oel w (also S i) (fun p => if p = i then .pointer (some ⟨w1.heap.size, 0, none⟩) else g p) (w1.alloc (.cells (cel i).ini (cel i).T (0, 0))) := by
  have hb := below_new (w := w1) (.cells (cel i).ini (cel i).T (0, 0))
  refine ⟨h.out.then (Out.of_below hb), fun e he => ?_, fun p hp hsp => ?_, fun p hp q hq hpq h1 h2 => ?_⟩
  · rw [Cel.at_also (ho e he), hget_eq, hb.block e (hget_lt (h.old e he))]
    exact h.old e he
  · by_cases hpi : p = i
    · subst hpi
      refine ⟨w1.heap.size, if_pos rfl, h.out.size, ?_⟩
      rw [Cel.at_also (hs p hp)]
      unfold Cel.at
      rw [hst]
      exact alloc_at w1 _
    · have hsp' : S p = true := by unfold also at hsp; rwa [if_neg hpi] at hsp
      obtain ⟨b, e1, e2, e3⟩ := h.new p hp hsp'
      exact ⟨b, by rw [if_neg hpi]; exact e1, e2, by rw [Cel.at_also (hs p hp), hget_eq, hb.block b (hget_lt e3)]; exact e3⟩
  · have fresh : ∀ q ∈ pv, S q = true → g q ≠ .pointer (some ⟨w1.heap.size, 0, none⟩) := fun q hq hsq e => by
      obtain ⟨b, e1, _, e3⟩ := h.new q hq hsq
      rw [e1] at e
      have hlt := hget_lt e3
      injection e with e
      injection e with e
      injection e with e
      omega
    unfold also at h1 h2
    by_cases hpi : p = i
    · have hqi : q ≠ i := fun e => hpq (hpi.trans e.symm)
      rw [if_neg hqi] at h2
      rw [if_pos hpi, if_neg hqi]
      exact fun e => fresh q hq h2 e.symm
    · rw [if_neg hpi] at h1
      by_cases hqi : q = i
      · rw [if_neg hpi, if_pos hqi]
        exact fresh p hp h1
      · rw [if_neg hqi] at h2
        rw [if_neg hpi, if_neg hqi]
        exact h.apart p hp q hq hpq h1 h2
set_option maxRecDepth 100000 in
/-- A new variable has been stored into. -/
theorem VInv.storeNew {S : Nat → Bool} {g : Nat → Value} {w1 : World} {p b : Nat} (h : VInv pv cel eo oel w S g w1) (hp : p ∈ pv) (hsp : S p = true) (hip : (cel p).st ∉ pv) (hs : ∀ q ∈ pv, q ≠ p → (cel q).st ≠ (cel p).st) (ho : ∀ e ∈ eo, (oel e).st ≠ (cel p).st) (heo : ∀ e ∈ eo, e < w.heap.size) (hb : g p = .pointer (some ⟨b, 0, none⟩)) :
    VInv pv cel eo oel w (also S (cel p).st) g (blk w1 b (.cells (cel p).fin (cel p).T (0, 0))) := by
  obtain ⟨b', e1, e2, e3⟩ := h.new p hp hsp
  have hbb : b' = b := by
    rw [e1] at hb
    injection hb with hb
    injection hb with hb
    injection hb
  subst hbb
  have hne : ∀ q ∈ pv, q ≠ (cel p).st := fun q hq e => hip (e ▸ hq)
  refine ⟨h.out.blk (.inr e2) _, fun e he => ?_, fun q hq hsq => ?_, fun q hq r hr hqr h1 h2 => ?_⟩
  · have hlt := heo e he
    rw [Cel.at_also (ho e he), hget_eq, blk_other e (by omega)]
    exact h.old e he
  · have hsq' : S q = true := by unfold also at hsq; rwa [if_neg (hne q hq)] at hsq
    by_cases hqp : q = p
    · subst hqp
      refine ⟨b', e1, e2, ?_⟩
      rw [Cel.at_done, hget_eq]
      exact blk_hit (hget_lt e3)
    · obtain ⟨b2, f1, f2, f3⟩ := h.new q hq hsq'
      have hn : b2 ≠ b' := fun e => h.apart q hq p hp hqp hsq' hsp (by rw [f1, e1, e])
      exact ⟨b2, f1, f2, by rw [Cel.at_also (hs q hq hqp), hget_eq, blk_other b2 hn]; exact f3⟩
  · unfold also at h1 h2
    rw [if_neg (hne q hq)] at h1
    rw [if_neg (hne r hr)] at h2
    exact h.apart q hq r hr hqr h1 h2
set_option maxRecDepth 100000 in
/-- An old variable has been stored into. -/
theorem VInv.storeOld {S : Nat → Bool} {g : Nat → Value} {w1 : World} {e : Nat} (h : VInv pv cel eo oel w S g w1) (he : e ∈ eo) (hip : (oel e).st ∉ pv) (hs : ∀ q ∈ pv, (cel q).st ≠ (oel e).st) (ho : ∀ f ∈ eo, f ≠ e → (oel f).st ≠ (oel e).st) (hlt : e < w.heap.size) :
    VInv pv cel eo oel w (also S (oel e).st) g (blk w1 e (.cells (oel e).fin (oel e).T (0, 0))) := by
  have hne : ∀ q ∈ pv, q ≠ (oel e).st := fun q hq e' => hip (e' ▸ hq)
  have he1 := h.old e he
  refine ⟨h.out.blk (.inl he) _, fun f hf => ?_, fun q hq hsq => ?_, fun q hq r hr hqr h1 h2 => ?_⟩
  · by_cases hfe : f = e
    · subst hfe
      rw [Cel.at_done, hget_eq]
      exact blk_hit (hget_lt he1)
    · rw [Cel.at_also (ho f hf hfe), hget_eq, blk_other f hfe]
      exact h.old f hf
  · have hsq' : S q = true := by unfold also at hsq; rwa [if_neg (hne q hq)] at hsq
    obtain ⟨b2, f1, f2, f3⟩ := h.new q hq hsq'
    exact ⟨b2, f1, f2, by rw [Cel.at_also (hs q hq), hget_eq, blk_other b2 (by omega)]; exact f3⟩
  · unfold also at h1 h2
    rw [if_neg (hne q hq)] at h1
    rw [if_neg (hne r hr)] at h2
    exact h.apart q hq r hr hqr h1 h2
end

end Go.Proofs.YtceljjnohjnepaaDoor

namespace Go.Proofs.YtceljjnohjnepaaDoor
open Go Go.RowKit

set_option maxRecDepth 100000 in
theorem wpGho_mono {P : Program} {ops : Array Oper} {pv : List Nat} {Rel : Nat → Value → World → Prop} {C : World → Prop} {Post : PostT} {Q Q' : Act → Prop} (h : ∀ a, Q a → Q' a) : ∀ (l : List Oper) (i : Nat) (a : Act), wpGho P ops pv Rel C Post Q i l a → wpGho P ops pv Rel C Post Q' i l a
  | [], _, a, hh => h a hh
  | _ :: rest, i, _a, ⟨v, h1, h2⟩ => ⟨v, h1, wpGho_mono h rest (i + 1) _ h2⟩
set_option maxRecDepth 100000 in
theorem pathS {ops : Array Oper} {S : Nat → Bool} (hc : CloS ops S) (i : Nat) : ∀ (f s : Nat), pathB ops i f s = true → S s = true → S i = true
  | 0, _, h, _ => by cases h
  | f + 1, s, h, hl => by
    unfold pathB at h
    cases ho : ops[s]? with
    | none => rw [ho] at h; cases h
    | some o =>
      rw [ho] at h
      obtain ⟨e, he, hb⟩ := Array.any_eq_true'.1 h
      simp only [Bool.and_eq_true, Bool.or_eq_true, beq_iff_eq] at hb
      have h1 := hc s o ho hl e he hb.1
      rcases hb.2 with h2 | h2
      · rw [← h2]; exact h1
      · exact pathS hc i f e.on h2 h1

section
variable {P : Program} {pv : List Nat} {cel : Nat → Cel} {eo : List Nat} {oel : Nat → Cel} {w : World}
/-- The stores are apart, and come behind what they store into. -/
structure VSep (l : List Oper) (pv : List Nat) (cel : Nat → Cel) (eo : List Nat) (oel : Nat → Cel) (w : World) : Prop where
  nst : ∀ p ∈ pv, (cel p).st ∉ pv
  nn : ∀ p ∈ pv, ∀ q ∈ pv, q ≠ p → (cel q).st ≠ (cel p).st
  no : ∀ p ∈ pv, ∀ e ∈ eo, (oel e).st ≠ (cel p).st
  ost : ∀ e ∈ eo, (oel e).st ∉ pv
  oo : ∀ e ∈ eo, ∀ f ∈ eo, f ≠ e → (oel f).st ≠ (oel e).st
  lt : ∀ e ∈ eo, e < w.heap.size
  behind : ∀ p ∈ pv, ∃ o, l[(cel p).st]? = some o ∧ waitsB o p = true
  sg : ∀ p ∈ pv, ∀ o, l[(cel p).st]? = some o → o.guard = none
  og : ∀ e ∈ eo, ∀ o, l[(oel e).st]? = some o → o.guard = none
abbrev VPost (l : List Oper) (pv : List Nat) (cel : Nat → Cel) (eo : List Nat) (oel : Nat → Cel) (w : World) : PostT := PostI l.toArray pv (VInv pv cel eo oel w)
set_option maxRecDepth 100000 in
theorem wp_region_var {id : Nat} {Q : Exit → Act → World → Prop} {a : Act} {l : List Oper} (pv : List Nat) (cel : Nat → Cel) (eo : List Nat) (oel : Nat → Cel) (hm : P.follows .mixedOrders = true) (hB : Region.lexB .any l.toArray = true) (hP : privB l.toArray pv = true)
    (hs : VSep l pv cel eo oel w) (h0 : ∀ e ∈ eo, hget w e = some (.cells (oel e).ini (oel e).T (0, 0)))
    (h : VSep l pv cel eo oel w → wpGho P l.toArray pv (VRel cel) (VC eo oel w) (VPost l pv cel eo oel w) (fun a' => ∀ g (x : LaterX (fun b => b ∈ eo) w), (∀ e ∈ eo, hget x.w' e = some (.cells (oel e).fin (oel e).T (0, 0))) →
      (∀ p ∈ pv, ∃ b, g p = .pointer (some ⟨b, 0, none⟩) ∧ w.heap.size ≤ b ∧ hget x.w' b = some (.cells (cel p).fin (cel p).T (0, 0))) → (∀ p ∈ pv, ∀ q ∈ pv, p ≠ q → g p ≠ g q) → (∀ e ∈ eo, (oel e).st < l.length) → Q .normal (over l.toArray pv g a') x.w') 0 l a)
    (hlt : ∀ e ∈ eo, (oel e).st < l.length) : (Code.region id l.toArray true).wp P Q a w := by
  have hp := Priv.of hP
  refine wp_region_inv pv (VRel cel) (VC eo oel w) (VInv pv cel eo oel w) hm hB hP ⟨(Out.refl _ _).drew, fun e he => h0 e he, fun p _ hf => absurd hf (by decide), fun p _ q _ _ hf => absurd hf (by decide)⟩ (fun S g w' h => h.vc) (fun S g w' p hp hS h => h.rel hp hS) (fun S g w' i o ho hg hi => ?_) ?_
  · have hio : l.toArray[i]? = some o := by simpa using ho
    exact hi.quiet (fun hip => by
      obtain ⟨o2, t, ho2, _, hg2⟩ := hp.has i hip
      have : o2 = o := Option.some.inj (ho2.symm.trans hio)
      subst this
      exact hg hg2) (fun p hp e => hg (hs.sg p hp o (by rw [e]; exact ho))) (fun e' he' e => hg (hs.og e' he' o (by rw [e]; exact ho))) (Below.refl _ _)
  · refine wpGho_mono (fun a' hq => ?_) _ _ _ (h hs)
    intro S g w' hall hinv
    refine hq g ⟨w', hinv.out⟩ (fun e he => ?_) (fun p hp' => ?_) (fun p hp' q hq' hpq => ?_) hlt
    · have := hinv.old e he
      unfold Cel.at at this
      rwa [hall _ (hlt e he), if_pos rfl] at this
    · obtain ⟨o, t, ho, _⟩ := hp.has p hp'
      have hpl : p < l.length := by simpa using (Array.getElem?_eq_some_iff.1 ho).1
      obtain ⟨b, e1, e2, e3⟩ := hinv.new p hp' (hall p hpl)
      obtain ⟨o2, ho2, _⟩ := hs.behind p hp'
      have hsl : (cel p).st < l.length := (List.getElem?_eq_some_iff.1 ho2).1
      unfold Cel.at at e3
      rw [hall _ hsl, if_pos rfl] at e3
      exact ⟨b, e1, e2, e3⟩
    · obtain ⟨o, t, ho, _⟩ := hp.has p hp'
      obtain ⟨o', t', ho', _⟩ := hp.has q hq'
      exact hinv.apart p hp' q hq' hpq (hall p (by simpa using (Array.getElem?_eq_some_iff.1 ho).1)) (hall q (by simpa using (Array.getElem?_eq_some_iff.1 ho').1))
variable {l : List Oper} {Q : Act → Prop} {i : Nat} {a : Act} {o : Oper} {rest : List Oper}
set_option maxRecDepth 100000 in
/-- An operation that neither makes nor stores. -/
theorem wpV_plain (_hsep : VSep l pv cel eo oel w) (hP : privB l.toArray pv = true) (hip : pv.contains i = false) (hsel : isSelect o = false) (hpl : (pv.all fun p => !readsB o (dstOf l.toArray p)) = true) (hs : ∀ p ∈ pv, (cel p).st ≠ i) (ho : ∀ e ∈ eo, (oel e).st ≠ i)
    (h : ∀ K : Act → Prop, (∀ a, wpGho P l.toArray pv (VRel cel) (VC eo oel w) (VPost l pv cel eo oel w) Q (i + 1) rest a → K a) →
      if Region.wanted o (yielded l.toArray a.tmps) then ∃ v, (∀ x : LaterX (fun b => b ∈ eo) w, gOut P x.w' (fun u _ => u = v) ((execOp a.eval o).run P x.w')) ∧ K (a.put o.dst v) else K (a.put o.dst undef)) :
    wpGho P l.toArray pv (VRel cel) (VC eo oel w) (VPost l pv cel eo oel w) Q i (o :: rest) a := by
  have h2 := h _ (fun _ h => h)
  have hni : i ∉ pv := by simpa using hip
  cases hw : Region.wanted o (yielded l.toArray a.tmps)
  · rw [hw] at h2
    exact ⟨undef, .inr ⟨hw, rfl⟩, h2⟩
  · rw [hw, if_pos rfl] at h2
    obtain ⟨v, a1, a2⟩ := h2
    refine ⟨v, .inl ⟨hw, ?_⟩, a2⟩
    intro g w1 hC _
    rw [over_plain (Priv.of hP) (not_select hsel) hpl]
    exact gRaw_mono (fun u y hh S _ _ hinv => by
      rw [if_neg hni]
      exact ⟨fun _ => hh.2, hinv.quiet hni hs ho hh.1⟩) (gRaw_of_gOut (a1 ⟨w1, hC.1⟩))
set_option maxRecDepth 100000 in
/-- A load of an old variable that is turned in the region, ahead of its store. -/
theorem wpV_load (e : Nat) (he : e ∈ eo) (_hsep : VSep l pv cel eo oel w) (hP : privB l.toArray pv = true) (hip : pv.contains i = false) (hg : o.guard = none) (hsel : isSelect o = false) (hpl : (pv.all fun p => !readsB o (dstOf l.toArray p)) = true) (hs : ∀ p ∈ pv, (cel p).st ≠ i) (ho : ∀ e ∈ eo, (oel e).st ≠ i) (hpath : pathB l.toArray i l.length (oel e).st = true)
    (h : ∀ K : Act → Prop, (∀ a, wpGho P l.toArray pv (VRel cel) (VC eo oel w) (VPost l pv cel eo oel w) Q (i + 1) rest a → K a) →
      ∃ v, (∀ (x : LaterX (fun b => b ∈ eo) w) (cs : Array Value), (cs = (oel e).ini ∨ cs = (oel e).fin) → hget x.w' e = some (.cells cs (oel e).T (0, 0)) → gOut P x.w' (fun u _ => cs = (oel e).ini → u = v) ((execOp a.eval o).run P x.w')) ∧ K (a.put o.dst v)) :
    wpGho P l.toArray pv (VRel cel) (VC eo oel w) (VPost l pv cel eo oel w) Q i (o :: rest) a := by
  obtain ⟨v, a1, a2⟩ := h _ (fun _ h => h)
  have hni : i ∉ pv := by simpa using hip
  refine ⟨v, .inl ⟨by unfold Region.wanted; rw [hg], ?_⟩, a2⟩
  intro g w1 hC _
  rw [over_plain (Priv.of hP) (not_select hsel) hpl]
  have hx : ∃ cs, (cs = (oel e).ini ∨ cs = (oel e).fin) ∧ hget w1 e = some (.cells cs (oel e).T (0, 0)) := by
    rcases hC.2 e he with h1 | h1
    · exact ⟨_, .inl rfl, h1⟩
    · exact ⟨_, .inr rfl, h1⟩
  obtain ⟨cs, hcs, hx⟩ := hx
  refine gRaw_mono (fun u y hh S hclo hdue hinv => ?_) (gRaw_of_gOut (a1 ⟨w1, hC.1⟩ cs hcs hx))
  rw [if_neg hni]
  refine ⟨fun _ => hh.2 ?_, hinv.quiet hni hs ho hh.1⟩
  have hst : S (oel e).st = false := by
    cases hS : S (oel e).st with
    | false => rfl
    | true =>
      have := pathS hclo i _ _ hpath hS
      rw [hdue.1] at this; cases this
  have h3 := hinv.old e he
  unfold Cel.at at h3
  rw [hst, hx] at h3
  injection h3 with h3
  injection h3
set_option maxRecDepth 100000 in
/-- A variable is made. -/
theorem wpV_make (hsep : VSep l pv cel eo oel w) (hP : privB l.toArray pv = true) (hip : pv.contains i = true) (hg : o.guard = none) (hsel : isSelect o = false) (hpl : (pv.all fun p => !readsB o (dstOf l.toArray p)) = true) (hs : ∀ p ∈ pv, (cel p).st ≠ i) (ho : ∀ e ∈ eo, (oel e).st ≠ i)
    (h : ∀ K : Act → Prop, (∀ a, wpGho P l.toArray pv (VRel cel) (VC eo oel w) (VPost l pv cel eo oel w) Q (i + 1) rest a → K a) →
      (∀ x : World, (execOp a.eval o).run P x = .ok (.value (.pointer (some ⟨x.heap.size, 0, none⟩))) (x.alloc (.cells (cel i).ini (cel i).T (0, 0)))) ∧ K (a.put o.dst undef)) :
    wpGho P l.toArray pv (VRel cel) (VC eo oel w) (VPost l pv cel eo oel w) Q i (o :: rest) a := by
  obtain ⟨a1, a2⟩ := h _ (fun _ h => h)
  have hi : i ∈ pv := by simpa using hip
  refine ⟨undef, .inl ⟨by unfold Region.wanted; rw [hg], ?_⟩, a2⟩
  intro g w1 hC _
  rw [over_plain (Priv.of hP) (not_select hsel) hpl, a1 w1]
  show PostI _ _ _ _ _ _ _ _ _
  intro S hclo hdue hinv
  rw [if_pos hi]
  refine ⟨fun hn => absurd hi hn, hinv.make hi hs ho ?_⟩
  cases hS : S (cel i).st with
  | false => rfl
  | true =>
    obtain ⟨o2, ho2, hw⟩ := hsep.behind i hi
    unfold waitsB at hw
    obtain ⟨e, he, hb⟩ := Array.any_eq_true'.1 hw
    simp only [Bool.and_eq_true, beq_iff_eq] at hb
    have := hclo _ o2 (by simpa using ho2) hS e he hb.1
    rw [hb.2, hdue.1] at this; cases this
set_option maxRecDepth 100000 in
/-- A store into a variable that was made. -/
theorem wpV_store (p : Nat) (hp : p ∈ pv) (hst : (cel p).st = i) (hsep : VSep l pv cel eo oel w) (hip : pv.contains i = false) (hg : o.guard = none) (hu : usesB l.toArray o p = true)
    (h : ∀ K : Act → Prop, (∀ a, wpGho P l.toArray pv (VRel cel) (VC eo oel w) (VPost l pv cel eo oel w) Q (i + 1) rest a → K a) →
      (∀ (g : Nat → Value) (b : Nat) (x : World) (cs : Array Value), g p = .pointer (some ⟨b, 0, none⟩) → (cs = (cel p).ini ∨ cs = (cel p).fin) → hget x b = some (.cells cs (cel p).T (0, 0)) → (execOp (over l.toArray pv g a).eval o).run P x = .ok .skip (blk x b (.cells (cel p).fin (cel p).T (0, 0)))) ∧ K (a.put o.dst undef)) :
    wpGho P l.toArray pv (VRel cel) (VC eo oel w) (VPost l pv cel eo oel w) Q i (o :: rest) a := by
  obtain ⟨a1, a2⟩ := h _ (fun _ h => h)
  have hni : i ∉ pv := by simpa using hip
  refine ⟨undef, .inl ⟨by unfold Region.wanted; rw [hg], ?_⟩, a2⟩
  intro g w1 hC hR
  obtain ⟨b, cs, e1, e2, e3⟩ := hR p hp hu
  rw [a1 g b w1 cs e1 e3 e2]
  show PostI _ _ _ _ _ _ _ _ _
  intro S hclo hdue hinv
  rw [if_neg hni]
  refine ⟨fun _ => rfl, ?_⟩
  have hsp : S p = true := by
    obtain ⟨o2, ho2, hw⟩ := hsep.behind p hp
    unfold waitsB at hw
    obtain ⟨e, he, hb⟩ := Array.any_eq_true'.1 hw
    simp only [Bool.and_eq_true, beq_iff_eq] at hb
    rw [← hb.2]
    exact hdue.2 o2 (by rw [← hst]; simpa using ho2) e he hb.1
  have := hinv.storeNew hp hsp (hsep.nst p hp) (fun q hq hqp => hsep.nn p hp q hq hqp) (fun e he => hsep.no p hp e he) hsep.lt e1
  rwa [hst] at this
set_option maxRecDepth 100000 in
/-- A store into an old variable. -/
theorem wpV_storeOld (e : Nat) (he : e ∈ eo) (hst : (oel e).st = i) (hsep : VSep l pv cel eo oel w) (hP : privB l.toArray pv = true) (hip : pv.contains i = false) (hg : o.guard = none) (hsel : isSelect o = false) (hpl : (pv.all fun p => !readsB o (dstOf l.toArray p)) = true)
    (h : ∀ K : Act → Prop, (∀ a, wpGho P l.toArray pv (VRel cel) (VC eo oel w) (VPost l pv cel eo oel w) Q (i + 1) rest a → K a) →
      (∀ (x : World) (cs : Array Value), (cs = (oel e).ini ∨ cs = (oel e).fin) → hget x e = some (.cells cs (oel e).T (0, 0)) → (execOp a.eval o).run P x = .ok .skip (blk x e (.cells (oel e).fin (oel e).T (0, 0)))) ∧ K (a.put o.dst undef)) :
    wpGho P l.toArray pv (VRel cel) (VC eo oel w) (VPost l pv cel eo oel w) Q i (o :: rest) a := by
  obtain ⟨a1, a2⟩ := h _ (fun _ h => h)
  have hni : i ∉ pv := by simpa using hip
  refine ⟨undef, .inl ⟨by unfold Region.wanted; rw [hg], ?_⟩, a2⟩
  intro g w1 hC _
  rw [over_plain (Priv.of hP) (not_select hsel) hpl]
  have hx : ∃ cs, (cs = (oel e).ini ∨ cs = (oel e).fin) ∧ hget w1 e = some (.cells cs (oel e).T (0, 0)) := by
    rcases hC.2 e he with h1 | h1
    · exact ⟨_, .inl rfl, h1⟩
    · exact ⟨_, .inr rfl, h1⟩
  obtain ⟨cs, hcs, hx⟩ := hx
  rw [a1 w1 cs hcs hx]
  show PostI _ _ _ _ _ _ _ _ _
  intro S hclo hdue hinv
  rw [if_neg hni]
  refine ⟨fun _ => rfl, ?_⟩
  have := hinv.storeOld he (hsep.ost e he) (fun q hq => fun hqe => hsep.no q hq e he hqe.symm) (fun f hf hfe => hsep.oo e he f hf hfe) (hsep.lt e he)
  rwa [hst] at this
end

end Go.Proofs.YtceljjnohjnepaaDoor

namespace Go.Proofs.YtceljjnohjnepaaDoor
open Go Go.RowKit

def stuckM (P : Program) (t : TypeId) (b off : Nat) (w : World) : Result Value := (loadRow t (.pointer (some ⟨b, off, none⟩))).run P w
set_option maxRecDepth 100000 in
theorem load_mid {P : Program} {w : World} {b off n : Nat} {t T : TypeId} {d : TypeDesc} {c : Array Value} {fz : Nat × Nat} (h : hget w b = some (.cells c T fz)) (hu : P.underlying t = some d) (hd : d.isRow = true) (hi : (P.info? t).map (·.size) = some n) (hle : off + n ≤ c.size) :
    (loadRow t (.pointer (some ⟨b, off, none⟩))).run P w = .ok (.agg (c.extract off (off + n))) w := by
  have hl : (c.extract off (off + n)).toList.length = n := by simp; omega
  have hr : w.rangeAt b off (c.extract off (off + n)).toList := fun j v hv => by
    have hj : j < n := by
      have := (List.getElem?_eq_some_iff.1 hv).1
      rw [hl] at this; exact this
    rw [cell_at h]
    have hv' : (c.extract off (off + n))[j]? = some v := by rw [← Array.getElem?_toList]; exact hv
    rw [Array.getElem?_extract] at hv'
    split at hv'
    · exact hv'
    · cases hv'
  have := run_loadAt_mid (P := P) w b off t (c.extract off (off + n)).toList d hr hu hd (by rw [hi, hl])
  exact this
set_option maxRecDepth 100000 in
theorem loadMid_run {P : Program} {n : Nat} {t : TypeId} {d : TypeDesc} (hu : P.underlying t = some d) (hd : d.isRow = true) (hi : (P.info? t).map (·.size) = some n) (b off : Nat) (w : World) :
    (loadRow t (.pointer (some ⟨b, off, none⟩))).run P w = match hget w b with | some (.cells c _ _) => if off + n ≤ c.size then .ok (.agg (c.extract off (off + n))) w else stuckM P t b off w | _ => stuckM P t b off w := by
  split
  · rename_i c T fz h
    split
    · rename_i hs; exact load_mid h hu hd hi hs
    · rfl
  · rfl
set_option maxRecDepth 100000 in
theorem ldm_Elem (b off : Nat) (w : World) : (loadRow 44 (.pointer (some ⟨b, off, none⟩))).run Tryd.prog w = match hget w b with | some (.cells c _ _) => if off + 4 ≤ c.size then .ok (.agg (c.extract off (off + 4))) w else stuckM Tryd.prog 44 b off w | _ => stuckM Tryd.prog 44 b off w := loadMid_run Tryd.underlying44 rfl info_Elem b off w
set_option maxRecDepth 100000 in
@[go_sem] theorem ext_quad (n : Nat) : (quad n).extract 0 4 = quad n := rfl
set_option maxRecDepth 100000 in
@[go_sem] theorem ext_nine (n : Nat) : (nine n).extract 0 9 = nine n := by
  have h := nine_size n
  generalize nine n = A at *
  rw [← h]; exact Array.extract_size
set_option maxRecDepth 100000 in
theorem ext_at (A B C : Array Value) (i n : Nat) (hA : A.size = i) (hB : B.size = n) : (A ++ B ++ C).extract i (i + n) = B := by
  subst hA hB
  apply Array.ext'
  rw [Array.toList_extract, Array.toList_append, Array.toList_append, List.extract_eq_take_drop]
  have h1 : (A.toList ++ B.toList ++ C.toList).drop A.size = B.toList ++ C.toList := by
    rw [List.append_assoc, List.drop_append_of_le_length (by simp), List.drop_eq_nil_of_le (by simp), List.nil_append]
  rw [h1, Nat.add_sub_cancel_left, List.take_append_of_le_length (by simp), List.take_of_length_le (by simp)]
set_option maxRecDepth 100000 in
theorem ones_append (A B : Array Value) : ones (A ++ B) = (ones A && ones B) := by unfold ones; rw [Array.toList_append, List.all_append]
/-- A point of the program. -/
def pt (x y z t : Nat) (is : Bool) : Array Value := quad x ++ quad y ++ quad z ++ quad t ++ #[.bool is]
section
variable (x y z t : Nat) (is : Bool)
set_option maxRecDepth 100000 in
@[go_sem] theorem pt_size : (pt x y z t is).size = 17 := by unfold pt; simp only [Array.size_append, quad_size]; rfl
set_option maxRecDepth 100000 in
@[go_sem] theorem pt_x : (pt x y z t is).extract 0 4 = quad x := by
  have e : pt x y z t is = #[] ++ quad x ++ (quad y ++ (quad z ++ (quad t ++ #[.bool is]))) := by unfold pt; simp only [Array.append_assoc, Array.empty_append]
  rw [e]; exact ext_at _ _ _ 0 4 rfl (quad_size x)
set_option maxRecDepth 100000 in
@[go_sem] theorem pt_y : (pt x y z t is).extract 4 8 = quad y := by
  have e : pt x y z t is = quad x ++ quad y ++ (quad z ++ (quad t ++ #[.bool is])) := by unfold pt; simp only [Array.append_assoc]
  rw [e]; exact ext_at _ _ _ 4 4 (quad_size x) (quad_size y)
set_option maxRecDepth 100000 in
@[go_sem] theorem pt_z : (pt x y z t is).extract 8 12 = quad z := by
  have e : pt x y z t is = (quad x ++ quad y) ++ quad z ++ (quad t ++ #[.bool is]) := by unfold pt; simp only [Array.append_assoc]
  rw [e]; exact ext_at _ _ _ 8 4 (by rw [Array.size_append, quad_size, quad_size]) (quad_size z)
set_option maxRecDepth 100000 in
@[go_sem] theorem pt_t : (pt x y z t is).extract 12 16 = quad t := by
  have e : pt x y z t is = (quad x ++ (quad y ++ quad z)) ++ quad t ++ #[.bool is] := by unfold pt; simp only [Array.append_assoc]
  rw [e]; exact ext_at _ _ _ 12 4 (by simp only [Array.size_append, quad_size]) (quad_size t)
set_option maxRecDepth 100000 in
@[go_sem] theorem pt_one : ones (pt x y z t is) = true := by
  unfold pt
  simp only [ones_append, quad_one, Bool.true_and]
  rfl
set_option maxRecDepth 100000 in
theorem pt_is : (pt x y z t is)[16]? = some (.bool is) := by
  unfold pt
  rw [Array.getElem?_append_right (by simp only [Array.size_append, quad_size]; omega)]
  simp only [Array.size_append, quad_size]
  rfl
end
/-- A point of the document. -/
def rpt (x y z : Nat) : Array Value := nine x ++ nine y ++ nine z
section
variable (x y z : Nat)
set_option maxRecDepth 100000 in
@[go_sem] theorem rpt_size : (rpt x y z).size = 27 := by unfold rpt; simp only [Array.size_append, nine_size]
set_option maxRecDepth 100000 in
@[go_sem] theorem rpt_x : (rpt x y z).extract 0 9 = nine x := by
  have e : rpt x y z = #[] ++ nine x ++ (nine y ++ nine z) := by unfold rpt; simp only [Array.append_assoc, Array.empty_append]
  rw [e]; exact ext_at _ _ _ 0 9 rfl (nine_size x)
set_option maxRecDepth 100000 in
@[go_sem] theorem rpt_y : (rpt x y z).extract 9 18 = nine y := by
  unfold rpt; exact ext_at _ _ _ 9 9 (nine_size x) (nine_size y)
set_option maxRecDepth 100000 in
@[go_sem] theorem rpt_z : (rpt x y z).extract 18 27 = nine z := by
  have e : rpt x y z = (nine x ++ nine y) ++ nine z ++ #[] := by unfold rpt; simp only [Array.append_empty]
  rw [e]; exact ext_at _ _ _ 18 9 (by simp only [Array.size_append, nine_size]) (nine_size z)
set_option maxRecDepth 100000 in
@[go_sem] theorem rpt_one : ones (rpt x y z) = true := by
  unfold rpt
  simp only [ones_append, nine_one, Bool.true_and]
end
set_option maxRecDepth 100000 in
theorem info_Pt : (Tryd.prog.info? 46).map (·.size) = some 17 := by kernel_rfl
   theorem exl_Pt {r : Operand → Value} {dst : Option Nat} {x : Operand} {t : TypeId} {pos : String} {af : Array Edge} {g : Option (Nat × Bool)} : execOp r ⟨dst, .load 46 x, t, pos, af, g⟩ = (do let v ← loadRow 46 (r x); pure (Next.value v)) := rfl
   theorem exs_Pt {r : Operand → Value} {dst : Option Nat} {x y : Operand} {t : TypeId} {pos : String} {af : Array Edge} {g : Option (Nat × Bool)} : execOp r ⟨dst, .store 46 x y, t, pos, af, g⟩ = (do storeRow 46 (r x) (r y); pure Next.skip) := rfl
   theorem ldr_Pt (b : Nat) (w : World) : (loadRow 46 (.pointer (some ⟨b, 0, none⟩))).run Tryd.prog w = match hget w b with | some (.cells c _ _) => if c.size = 17 then .ok (.agg c) w else stuckL Tryd.prog 46 b w | _ => stuckL Tryd.prog 46 b w := loadRow_run Tryd.underlying46 rfl info_Pt b w
   theorem str_Pt (b : Nat) (c' : Array Value) (w : World) : (storeRow 46 (.pointer (some ⟨b, 0, none⟩)) (.agg c')).run Tryd.prog w = match hget w b with | some (.cells c T (0, 0)) => if c.size = 17 then (if c'.size = 17 then (if ones c' = true then .ok () (blk w b (.cells c' T (0, 0))) else stuckS Tryd.prog 46 b (.agg c') w) else stuckS Tryd.prog 46 b (.agg c') w) else stuckS Tryd.prog 46 b (.agg c') w | _ => stuckS Tryd.prog 46 b (.agg c') w := storeRow_run info_Pt b c' w
/-- The stores are apart, told by a look. -/
def vsepB (l : List Oper) (pv : List Nat) (cel : Nat → Cel) : Bool := pv.all fun p => !pv.contains (cel p).st && (pv.all fun q => q == p || (cel q).st != (cel p).st) && match l[(cel p).st]? with
  | some o => waitsB o p && o.guard.isNone
  | none => false
set_option maxRecDepth 100000 in
theorem vsep_new {l : List Oper} {pv : List Nat} {cel oel : Nat → Cel} {w : World} (h : vsepB l pv cel = true) : VSep l pv cel [] oel w := by
  unfold vsepB at h
  rw [List.all_eq_true] at h
  have each : ∀ p ∈ pv, (cel p).st ∉ pv ∧ (∀ q ∈ pv, q ≠ p → (cel q).st ≠ (cel p).st) ∧ ∃ o, l[(cel p).st]? = some o ∧ waitsB o p = true ∧ o.guard = none := fun p hp => by
    have h1 := h p hp
    rw [Bool.and_eq_true, Bool.and_eq_true, List.all_eq_true] at h1
    refine ⟨by simpa using h1.1.1, fun q hq hqp => by simpa [hqp] using h1.1.2 q hq, ?_⟩
    cases ho : l[(cel p).st]? with
    | none => rw [ho] at h1; simp at h1
    | some o =>
      rw [ho] at h1
      have h2 := h1.2
      simp only [Bool.and_eq_true, Option.isNone_iff_eq_none] at h2
      exact ⟨o, rfl, h2.1, h2.2⟩
  refine ⟨fun p hp => (each p hp).1, fun p hp => (each p hp).2.1, fun _ _ _ he => absurd he (by simp), fun _ he => absurd he (by simp), fun _ he => absurd he (by simp), fun _ he => absurd he (by simp), fun p hp => ?_, fun p hp o ho => ?_, fun _ he => absurd he (by simp)⟩
  · obtain ⟨o, h1, h2, _⟩ := (each p hp).2.2
    exact ⟨o, h1, h2⟩
  · obtain ⟨o', h1, _, h3⟩ := (each p hp).2.2
    have : o' = o := Option.some.inj (h1.symm.trans ho)
    rw [← this]; exact h3

end Go.Proofs.YtceljjnohjnepaaDoor

namespace Go.Proofs.YtceljjnohjnepaaDoor
open Go Go.RowKit

section
variable {P : Program} {pv : List Nat} {cel oel : Nat → Cel} {w : World} {l : List Oper} {Q : Act → Prop} {i : Nat} {a : Act} {o : Oper} {rest : List Oper}
abbrev LaterV (w : World) := LaterX (fun b => b ∈ ([] : List Nat)) w
set_option maxRecDepth 100000 in
theorem laterV_below {w : World} (x : LaterV w) : Below w.heap.size w x.w' := ⟨x.h.os, x.h.tape, x.h.output, x.h.size, fun k hk => x.h.block k hk (by simp)⟩
set_option maxRecDepth 100000 in
theorem apartV {i : Nat} (h : (pv.all fun p => (cel p).st != i) = true) : ∀ p ∈ pv, (cel p).st ≠ i := fun p hp => by
  rw [List.all_eq_true] at h
  simpa using h p hp
set_option maxRecDepth 100000 in
theorem wpV_plain0 (hsep : VSep l pv cel [] oel w) (hP : privB l.toArray pv = true) (hip : pv.contains i = false) (hsel : isSelect o = false) (hpl : (pv.all fun p => !readsB o (dstOf l.toArray p)) = true) (hs : (pv.all fun p => (cel p).st != i) = true)
    (h : ∀ K : Act → Prop, (∀ a, wpGho P l.toArray pv (VRel cel) (VC [] oel w) (VPost l pv cel [] oel w) Q (i + 1) rest a → K a) →
      if Region.wanted o (yielded l.toArray a.tmps) then ∃ v, (∀ x : LaterV w, gOut P x.w' (fun u _ => u = v) ((execOp a.eval o).run P x.w')) ∧ K (a.put o.dst v) else K (a.put o.dst undef)) :
    wpGho P l.toArray pv (VRel cel) (VC [] oel w) (VPost l pv cel [] oel w) Q i (o :: rest) a :=
  wpV_plain hsep hP hip hsel hpl (apartV hs) (fun _ he => absurd he (by simp)) h
set_option maxRecDepth 100000 in
theorem wpV_make0 (hsep : VSep l pv cel [] oel w) (hP : privB l.toArray pv = true) (hip : pv.contains i = true) (hg : o.guard = none) (hsel : isSelect o = false) (hpl : (pv.all fun p => !readsB o (dstOf l.toArray p)) = true) (hs : (pv.all fun p => (cel p).st != i) = true)
    (h : ∀ K : Act → Prop, (∀ a, wpGho P l.toArray pv (VRel cel) (VC [] oel w) (VPost l pv cel [] oel w) Q (i + 1) rest a → K a) →
      (∀ x : World, (execOp a.eval o).run P x = .ok (.value (.pointer (some ⟨x.heap.size, 0, none⟩))) (x.alloc (.cells (cel i).ini (cel i).T (0, 0)))) ∧ K (a.put o.dst undef)) :
    wpGho P l.toArray pv (VRel cel) (VC [] oel w) (VPost l pv cel [] oel w) Q i (o :: rest) a :=
  wpV_make hsep hP hip hg hsel hpl (apartV hs) (fun _ he => absurd he (by simp)) h
set_option maxRecDepth 100000 in
theorem wpV_store0 (p : Nat) (hp : pv.contains p = true) (hst : (cel p).st = i) (hsep : VSep l pv cel [] oel w) (hip : pv.contains i = false) (hg : o.guard = none) (hu : usesB l.toArray o p = true)
    (h : ∀ K : Act → Prop, (∀ a, wpGho P l.toArray pv (VRel cel) (VC [] oel w) (VPost l pv cel [] oel w) Q (i + 1) rest a → K a) →
      (∀ (g : Nat → Value) (b : Nat) (x : World) (cs : Array Value), g p = .pointer (some ⟨b, 0, none⟩) → (cs = (cel p).ini ∨ cs = (cel p).fin) → hget x b = some (.cells cs (cel p).T (0, 0)) → (execOp (over l.toArray pv g a).eval o).run P x = .ok .skip (blk x b (.cells (cel p).fin (cel p).T (0, 0)))) ∧ K (a.put o.dst undef)) :
    wpGho P l.toArray pv (VRel cel) (VC [] oel w) (VPost l pv cel [] oel w) Q i (o :: rest) a :=
  wpV_store p (by simpa using hp) hst hsep hip hg hu h
end

end Go.Proofs.YtceljjnohjnepaaDoor
