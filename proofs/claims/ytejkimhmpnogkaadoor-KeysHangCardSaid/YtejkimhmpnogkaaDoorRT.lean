/- Whole values in memory: loads and stores of a row as one step, told by what its block holds. -/
import Derived.Test.YtejkimhmpnogkaaDoorROW
namespace Go.Proofs.YtejkimhmpnogkaaDoor
open Go Go.RowKit

/-- What a block holds. -/
def hget (w : World) (b : Nat) : Option Obj := w.heap[b]?
theorem hget_eq (w : World) (b : Nat) : hget w b = w.heap[b]? := rfl
/-- Is each of them one cell? -/
def ones (c : Array Value) : Bool := c.toList.all (·.oneCell')
@[go_sem] theorem ones_list (l : List Value) : ones l.toArray = l.all (·.oneCell') := rfl
@[go_sem] theorem one_int (k : IntKind) (i : Int) : (Value.int k i).oneCell' = true := rfl
@[go_sem] theorem one_bool (i : Bool) : (Value.bool i).oneCell' = true := rfl
@[go_sem] theorem one_string (i : ByteArray) : (Value.string i).oneCell' = true := rfl
theorem ones_all {c : Array Value} (h : ones c = true) : c.all (·.oneCell') = true := by
  unfold ones at h
  simpa [Array.all_toList] using h
/-- A load of a whole value, under a name of its own. -/
def loadRow (t : TypeId) (p : Value) : Sem Value := Instr.loadAt t p
def storeRow (t : TypeId) (p v : Value) : Sem Unit := Instr.storeAt t p v
def stuckL (P : Program) (t : TypeId) (b : Nat) (w : World) : Result Value := (loadRow t (.pointer (some ⟨b, 0, none⟩))).run P w
def stuckS (P : Program) (t : TypeId) (b : Nat) (v : Value) (w : World) : Result Unit := (storeRow t (.pointer (some ⟨b, 0, none⟩)) v).run P w
section
variable {P : Program} {w : World} {b n : Nat} {t : TypeId} {d : TypeDesc}
theorem loadRow_run (hu : P.underlying t = some d) (hd : d.isRow = true) (hi : (P.info? t).map (·.size) = some n) (b : Nat) (w : World) :
    (loadRow t (.pointer (some ⟨b, 0, none⟩))).run P w = match hget w b with | some (.cells c _ _) => if c.size = n then .ok (.agg c) w else stuckL P t b w | _ => stuckL P t b w := by
  split
  · rename_i c T fz h
    split
    · rename_i hs; exact load_row h hu hd (by rw [hi, hs])
    · rfl
  · rfl
theorem storeRow_run (hi : (P.info? t).map (·.size) = some n) (b : Nat) (c' : Array Value) (w : World) :
    (storeRow t (.pointer (some ⟨b, 0, none⟩)) (.agg c')).run P w = match hget w b with | some (.cells c T (0, 0)) => if c.size = n then (if c'.size = n then (if ones c' = true then .ok () (blk w b (.cells c' T (0, 0))) else stuckS P t b (.agg c') w) else stuckS P t b (.agg c') w) else stuckS P t b (.agg c') w | _ => stuckS P t b (.agg c') w := by
  split
  · rename_i c T h
    split
    · rename_i hs
      split
      · rename_i hs'
        split
        · rename_i h1; exact store_row h (by rw [hi, hs']) (by rw [hs, hs']) (ones_all h1)
        · rfl
      · rfl
    · rfl
  · rfl
end
theorem results_cell_tmp {P : Program} {fn : Func} {p u : Tmp} {ty : TypeId} (h : fn.results = #[.cell p ty, .tmp u]) (tmps : Array Value) (w : World) (g : Nat) (t : TypeId) (cs : Array Value) (fr : Nat × Nat) (d : TypeDesc) (v : Value)
    (hp : tmps.getD p undef = .pointer (some ⟨g, 0, none⟩)) (hv : tmps.getD u undef = v) (hg : w.heap[g]? = some (.cells cs t fr))
    (hu : P.underlying ty = some d) (hd : (match d with | .struct _ | .array _ _ => true | _ => false) = true) (hi : (P.info? ty).map (·.size) = some cs.size) :
    (results fn tmps).run P w = .ok (.tuple #[.agg cs, v]) w := by
  have hp' : tmps[p]?.getD undef = .pointer (some ⟨g, 0, none⟩) := by simpa using hp
  have hv' : tmps[u]?.getD undef = v := by simpa using hv
  simp [results, h, hp', hv', asAddr, run_loadVar_row w g t ty cs fr d hg hu hd hi]
section
variable {w w' : World} {b k : Nat} {o o' : Obj}
@[go_sem] theorem hget_drew (w : World) (b : Nat) : hget w.drew b = hget w b := rfl
@[go_sem] theorem hget_drewN (w : World) (n b : Nat) : hget (w.drewN n) b = hget w b := rfl
@[go_sem] theorem hget_alloc (w : World) (o : Obj) (b : Nat) : hget (w.alloc o) b = if b = w.heap.size then some o else hget w b := by
  show (w.heap.push o)[b]? = _
  rw [Array.getElem?_push]; rfl
@[go_sem] theorem hget_blk (w : World) (b k : Nat) (o : Obj) : hget (blk w b o) k = if k = b then (if b < w.heap.size then some o else none) else hget w k := by
  unfold blk hget
  simp only [Array.getElem?_setIfInBounds]
  split
  · rename_i h; subst h; simp
  · rename_i h; rw [if_neg (Ne.symm h)]
@[go_sem] theorem blk_size' (w : World) (b : Nat) (o : Obj) : (blk w b o).heap.size = w.heap.size := blk_size
@[go_sem] theorem blk_cell_other (w : World) (b b' j : Nat) (o : Obj) (h : (b' = b) = False) : (blk w b o).cell? ⟨b', j, none⟩ = w.cell? ⟨b', j, none⟩ := by
  have hn : b' ≠ b := fun e => by rw [e] at h; simp at h
  exact World.cell?_of_block (blk_other (w := w) (b := b) (o := o) b' hn)
@[go_sem] theorem blk_alloc_new (w : World) (o o' : Obj) : blk (w.alloc o) w.heap.size o' = w.alloc o' := by
  unfold blk World.alloc
  congr 1
  apply Array.ext
  · simp
  · intro i h1 h2
    simp only [Array.size_setIfInBounds, Array.size_push] at h1
    rw [Array.getElem_setIfInBounds (by simpa using h1)]
    rcases Nat.lt_or_ge i w.heap.size with h | h
    · rw [if_neg (by omega), Array.getElem_push_lt h, Array.getElem_push_lt h]
    · have : i = w.heap.size := by omega
      subst this
      simp
@[go_sem] theorem ne_s2 (n : Nat) : (n = n + 1 + 1) = False := by simp; omega
@[go_sem] theorem ne_t2 (n : Nat) : (n + 1 + 1 = n) = False := by simp; omega
@[go_sem] theorem ne_s3 (n : Nat) : (n = n + 1 + 1 + 1) = False := by simp; omega
@[go_sem] theorem ne_t3 (n : Nat) : (n + 1 + 1 + 1 = n) = False := by simp; omega
@[go_sem] theorem ne_s4 (n : Nat) : (n = n + 1 + 1 + 1 + 1) = False := by simp; omega
@[go_sem] theorem ne_t4 (n : Nat) : (n + 1 + 1 + 1 + 1 = n) = False := by simp; omega
@[go_sem] theorem ne_s5 (n : Nat) : (n = n + 1 + 1 + 1 + 1 + 1) = False := by simp; omega
@[go_sem] theorem ne_t5 (n : Nat) : (n + 1 + 1 + 1 + 1 + 1 = n) = False := by simp; omega
@[go_sem] theorem ne_s6 (n : Nat) : (n = n + 1 + 1 + 1 + 1 + 1 + 1) = False := by simp; omega
@[go_sem] theorem ne_t6 (n : Nat) : (n + 1 + 1 + 1 + 1 + 1 + 1 = n) = False := by simp; omega
@[go_sem] theorem ne_s7 (n : Nat) : (n = n + 1 + 1 + 1 + 1 + 1 + 1 + 1) = False := by simp; omega
@[go_sem] theorem ne_t7 (n : Nat) : (n + 1 + 1 + 1 + 1 + 1 + 1 + 1 = n) = False := by simp; omega
@[go_sem] theorem ne_s8 (n : Nat) : (n = n + 1 + 1 + 1 + 1 + 1 + 1 + 1 + 1) = False := by simp; omega
@[go_sem] theorem ne_t8 (n : Nat) : (n + 1 + 1 + 1 + 1 + 1 + 1 + 1 + 1 = n) = False := by simp; omega
theorem hget_lt (h : hget w b = some o) : b < w.heap.size := lt_blk h
theorem hget_hid (h : Hid (hget w b = some o)) : w.heap[b]? = some o := h.out
/-- Behind a call: what stood, stands; it is not what is made next. -/
structure Kept (w : World) (b : Nat) (o : Obj) : Prop where
  get : hget w b = some o
  lt : b < w.heap.size
  ne : (b = w.heap.size) = False
  ne' : (w.heap.size = b) = False
theorem kept (h : hget w b = some o) : Kept w b o := by
  have := hget_lt h
  exact ⟨h, this, by simp; omega, by simp; omega⟩
theorem Kept.on (h : Kept w b o) (hb : Below w.heap.size w w') : Kept w' b o := kept ((hb.block b h.lt).trans h.get)
theorem Kept.later (h : Kept w b o) (x : Later w) : hget x.w' b = some o := later_block h.get x
end
end Go.Proofs.YtejkimhmpnogkaaDoor
