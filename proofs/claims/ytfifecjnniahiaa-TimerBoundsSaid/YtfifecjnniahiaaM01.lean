/- Small lemmas on worlds, for the walks of this seat: a block that is put whole, draws, what is below. Numbers of 64 bits that are not below nought, by their rungs: what they stand for, how a number is rounded; sums, products, differences. Numbers of 64 bits by their rungs: whole numbers, halves, what is cut; mixes stay below their greater part. Numbers of 64 bits by their rungs: halves, differences below nought, what is none; a timer, as it reckons. A timer's numbers come near those of samples that are alike. A timer, many samples that are alike. Numbers of 64 bits: of either sign, without end, or none; quotients; the next whole number. -/
import Derived.Test.YtfifecjnniahiaaRows
import Derived.WalkKit
import Derived.WalkSpells
import Derived.WalkLawsBesides
import Derived.Deep.QuietTactic
import Derived.BigQuiet
import Derived.StillTailTactics
import Derived.Lib.MinMax
import Derived.Deep.RegionHeld3
import Derived.Laws.FloatArith
namespace Go.Proofs.Ytfifecjnniahiaa
open Go.RowKit
attribute [go_sem] World.cell?_alloc_some

/-- The world with block b put. -/
def blk (w : World) (b : Nat) (o : Obj) : World := { w with heap := w.heap.setIfInBounds b o }
section
variable {w : World} {b k : Nat} {c : Array Value} {T : TypeId} {fz : Nat × Nat} {v : Value} {o o' : Obj}
theorem lt_blk (h : w.heap[b]? = some o) : b < w.heap.size := by
  rcases Nat.lt_or_ge b w.heap.size with h' | h'
  · exact h'
  · simp [Array.getElem?_eq_none h'] at h
theorem cell_at (h : w.heap[b]? = some (.cells c T fz)) (k : Nat) : w.cell? ⟨b, k, none⟩ = c[k]? := by simp [World.cell?, h]
theorem free_at (h : w.heap[b]? = some (.cells c T (0, 0))) (k : Nat) : w.frozen? ⟨b, k, none⟩ = false := by simp [World.frozen?, h]
theorem setCell_blk (h : w.heap[b]? = some (.cells c T fz)) (k : Nat) (v : Value) : w.setCell ⟨b, k, none⟩ v = blk w b (.cells (c.setIfInBounds k v) T fz) := by
  unfold World.setCell blk
  have hlt := lt_blk h
  have h' : w.heap[b] = .cells c T fz := by simpa [Array.getElem?_eq_getElem hlt] using h
  congr 1
  apply Array.ext
  · simp
  · intro i h1 h2
    simp only [Array.size_modify] at h1
    rw [Array.getElem_modify, Array.getElem_setIfInBounds]
    · split
      · rename_i hi; subst hi; simp [h']
      · rfl
theorem blk_heap (h : b < w.heap.size) : (blk w b o).heap[b]? = some o := by simp [blk, h]
theorem blk_other (j : Nat) (h : j ≠ b) : (blk w b o).heap[j]? = w.heap[j]? := by
  unfold blk; rw [Array.getElem?_setIfInBounds_ne (by omega)]
theorem blk_size : (blk w b o).heap.size = w.heap.size := by simp [blk]
theorem blk_blk : blk (blk w b o) b o' = blk w b o' := by simp [blk]
theorem blk_self (h : w.heap[b]? = some o) : blk w b o = w := by
  unfold blk
  have hlt := lt_blk h
  have h' : w.heap[b] = o := by simpa [Array.getElem?_eq_getElem hlt] using h
  rw [← h', Array.setIfInBounds_def, dif_pos hlt, Array.set_getElem_self]
theorem blk_setCell (hb : b < w.heap.size) (k : Nat) (v : Value) : (blk w b (.cells c T fz)).setCell ⟨b, k, none⟩ v = blk w b (.cells (c.setIfInBounds k v) T fz) := by
  rw [setCell_blk (blk_heap hb), blk_blk]
@[go_sem] theorem setCell_drewN (w : World) (n : Nat) (a : Addr) (v : Value) : (w.drewN n).setCell a v = (w.setCell a v).drewN n := rfl
@[go_sem] theorem setCell_drew' (w : World) (a : Addr) (v : Value) : w.drew.setCell a v = (w.setCell a v).drew := rfl
theorem at_setCell (h : w.heap[b]? = some (.cells c T fz)) (k : Nat) (v : Value) : (w.setCell ⟨b, k, none⟩ v).heap[b]? = some (.cells (c.setIfInBounds k v) T fz) := by
  rw [setCell_blk h]; exact blk_heap (lt_blk h)
theorem at_setCell_other (h : w.heap[b]? = some o) {p : Addr} (hp : b ≠ p.block) (v : Value) : (w.setCell p v).heap[b]? = some o := (Below.heap_setCell w p v b hp).trans h
theorem blk_drew : (blk w b o).drew = blk w.drew b o := rfl
end

theorem hid {p : Prop} (h : p) : Hid p := h

/-- Some draws later. -/
def Dr (w w' : World) : Prop := ∃ n, w' = w.drewN n
theorem Dr.refl (w : World) : Dr w w := ⟨0, rfl⟩
theorem Dr.drew {w w' : World} (h : Dr w w') : Dr w w'.drew := by obtain ⟨n, rfl⟩ := h; exact ⟨n + 1, rfl⟩
theorem Dr.drewN {w w' : World} (h : Dr w w') (m : Nat) : Dr w (w'.drewN m) := by obtain ⟨n, rfl⟩ := h; exact ⟨n + m, World.drewN_drewN ..⟩

theorem dr_blk {W w' : World} {b : Nat} {o o' : Obj} (h : Dr (blk W b o) w') (e : o = o') : Dr (blk W b o') w' := e ▸ h

theorem Dr.heap {w w' : World} (h : Dr w w') : w'.heap = w.heap := by obtain ⟨n, rfl⟩ := h; rfl
theorem Dr.below {B : Nat} {w w' : World} (h : Dr w w') : Below B w w' := by obtain ⟨n, rfl⟩ := h; exact ⟨rfl, rfl, rfl, Nat.le_refl _, fun _ _ => rfl⟩
theorem below_blk {B : Nat} {w : World} {b : Nat} {o : Obj} (h : B ≤ b) : Below B w (blk w b o) :=
  ⟨rfl, rfl, rfl, by simp [blk], fun k hk => blk_other k (by omega)⟩
theorem dr_at {w w' : World} {b : Nat} {o : Obj} (h : Dr (blk w b o) w') (hb : b < w.heap.size) : w'.heap[b]? = some o := by rw [h.heap]; exact blk_heap hb
theorem dr_other {w w' : World} {b : Nat} {o : Obj} (h : Dr (blk w b o) w') (j : Nat) (hj : j ≠ b) : w'.heap[j]? = w.heap[j]? := by rw [h.heap]; exact blk_other j hj
theorem dr_size {w w' : World} {b : Nat} {o : Obj} (h : Dr (blk w b o) w') : w'.heap.size = w.heap.size := by rw [h.heap]; exact blk_size
theorem dr_below {B : Nat} {w w' : World} {b : Nat} {o : Obj} (h : Dr (blk w b o) w') (hb : B ≤ b) : Below B w w' := (below_blk hb).trans h.below
theorem alloc_at (w : World) (o : Obj) : (w.alloc o).heap[w.heap.size]? = some o := by
  show (w.heap.push o)[w.heap.size]? = _; simp
theorem alloc_at' {w : World} {n : Nat} (h : n = w.heap.size) (o : Obj) : (w.alloc o).heap[n]? = some o := by rw [h]; exact alloc_at w o
theorem alloc_old {w : World} {o o' : Obj} {b : Nat} (h : w.heap[b]? = some o) : (w.alloc o').heap[b]? = some o := by
  rw [Below.heap_alloc _ _ _ (lt_blk h)]; exact h
theorem alloc_below (B : Nat) (w : World) (o : Obj) (h : B ≤ w.heap.size) : Below B w (w.alloc o) := (Below.refl _ _).alloc h o

/-- But for block b, and for what is new, the world is as it was. -/
structure Only (b : Nat) (w w' : World) : Prop where
  os : w'.os = w.os
  tape : w'.tape = w.tape
  output : w'.output = w.output
  size : w.heap.size ≤ w'.heap.size
  block : ∀ k, k < w.heap.size → k ≠ b → w'.heap[k]? = w.heap[k]?
theorem Only.refl (b : Nat) (w : World) : Only b w w := ⟨rfl, rfl, rfl, Nat.le_refl _, fun _ _ _ => rfl⟩
theorem Only.trans {b : Nat} {a w w' : World} (h : Only b a w) (k : Only b w w') : Only b a w' :=
  ⟨k.os.trans h.os, k.tape.trans h.tape, k.output.trans h.output, Nat.le_trans h.size k.size, fun i hi hn => (k.block i (Nat.lt_of_lt_of_le hi h.size) hn).trans (h.block i hi hn)⟩
theorem Only.of_below {b : Nat} {w w' : World} (h : Below w.heap.size w w') : Only b w w' := ⟨h.os, h.tape, h.output, h.size, fun k hk _ => h.block k hk⟩
theorem Only.below {B b : Nat} {w w' : World} (h : Only b w w') (hb : B ≤ b) (hB : B ≤ w.heap.size) : Below B w w' := ⟨h.os, h.tape, h.output, h.size, fun k hk => h.block k (by omega) (by omega)⟩
theorem Only.alloc {b : Nat} {a w : World} (h : Only b a w) (o : Obj) : Only b a (w.alloc o) :=
  ⟨h.os, h.tape, h.output, Nat.le_trans h.size (by simp), fun i hi hn => (Below.heap_alloc w o i (Nat.lt_of_lt_of_le hi h.size)).trans (h.block i hi hn)⟩
theorem Only.drewN {b : Nat} {a w : World} (h : Only b a w) (n : Nat) : Only b a (w.drewN n) := ⟨h.os, h.tape, h.output, h.size, h.block⟩
theorem Only.drew {b : Nat} {a w : World} (h : Only b a w) : Only b a w.drew := ⟨h.os, h.tape, h.output, h.size, h.block⟩
theorem Only.blk {b : Nat} {a w : World} (h : Only b a w) {c : Nat} (hc : c = b ∨ a.heap.size ≤ c) (o : Obj) : Only b a (blk w c o) :=
  ⟨h.os, h.tape, h.output, Nat.le_trans h.size (by simp [Proofs.Ytfifecjnniahiaa.blk]), fun i hi hn => (blk_other i (by omega)).trans (h.block i hi hn)⟩
theorem Only.setCell {b : Nat} {a w : World} (h : Only b a w) {p : Addr} (hp : p.block = b ∨ a.heap.size ≤ p.block) (u : Value) : Only b a (w.setCell p u) :=
  ⟨h.os, h.tape, h.output, Nat.le_trans h.size (by simp [World.setCell]), fun i hi hn => (Below.heap_setCell w p u i (by omega)).trans (h.block i hi hn)⟩
theorem Only.cell {b : Nat} {w w' : World} (h : Only b w w') {p : Addr} (hp : p.block < w.heap.size) (hn : p.block ≠ b) : w'.cell? p = w.cell? p := World.cell?_of_block (w := w) (h.block p.block hp hn)
theorem below_new {w : World} (o : Obj) : Below w.heap.size w (w.alloc o) := alloc_below _ _ _ (Nat.le_refl _)
theorem below_alloc {W w : World} (h : Below W.heap.size W w) (o : Obj) : Below W.heap.size W (w.alloc o) := h.alloc h.size o
theorem below_blk' {W w : World} (h : Below W.heap.size W w) {b : Nat} (hb : W.heap.size ≤ b) (o : Obj) : Below W.heap.size W (blk w b o) := h.trans (below_blk hb)
theorem below_to {W w w' : World} (h : Below W.heap.size W w) (h' : Below w.heap.size w w') : Below W.heap.size W w' := h.trans (h'.mono h.size)

theorem still_tail {P : Program} {id : Nat} {Q : Exit → Act → World → Prop} {a : Act} {w : World} {l : List Oper} (n : Nat) (hm : P.follows .mixedOrders = true) (hB : Region.lexTailB .any l.toArray n = true)
    (h : wpStill P l.toArray w.drew (fun a' => wpList P l.toArray Q (l.drop n) a' w.drew) (l.take n) a) : (Code.region id l.toArray true).wp P Q a w := wp_region_still_tail n hm hB h

theorem rsame {P : Program} {f : FuncId} {args : Array Value} {w : World} {v : Value} (h : Calls P f args w fun e w' => e = .returned v ∧ w = w') :
   Calls P f args w fun e w' => e = .returned v ∧ w' = w := h.mono fun _ _ ⟨a, b⟩ => ⟨a, b.symm⟩

end Go.Proofs.Ytfifecjnniahiaa

namespace Go.Proofs.Ytfifecjnniahiaa
namespace IE
open Go Ieee

abbrev D : Format := Ieee.double
theorem binade_eq : D.binade = 4503599627370496 := by decide
theorem weight_eq : D.signWeight = 9223372036854775808 := by decide
theorem inf_eq : D.infRung = 9218868437227405312 := by decide
theorem least_eq : D.leastPlace = -1074 := by decide
/-- The rung of what is without end. -/
def inf : Nat := 9218868437227405312
def b52 : Nat := 4503599627370496
/-- The digits and the place of a rung. -/
def vm (r : Nat) : Nat := if r < b52 then r else b52 + r % b52
def ve (r : Nat) : Nat := r / b52 - 1
/-- What a rung stands for, in units of 2^-(1074 + k). -/
def val (k r : Nat) : Nat := vm r * 2 ^ (ve r + k)
theorem read_rung {r : Nat} (h : r < inf) : D.read r = .number false (vm r) (-1074 + (ve r : Int)) := by
  unfold inf at h
  have h1 : r / 9223372036854775808 = 0 := Nat.div_eq_of_lt (by omega)
  have h2 : r % 9223372036854775808 = r := Nat.mod_eq_of_lt (by omega)
  unfold Format.read
  simp only [weight_eq, binade_eq, inf_eq, least_eq, h1, h2]
  unfold vm ve b52
  by_cases hr : r < 4503599627370496
  · rw [if_pos hr, if_pos hr, Nat.div_eq_of_lt hr]
    rfl
  · rw [if_neg hr, if_neg hr, if_pos (by omega)]
    rfl
/-- To the nearest whole number of g's; between two, the even one. -/
def rnd (n g : Nat) : Nat := n / g + if g < 2 * (n % g) ∨ (g = 2 * (n % g) ∧ n / g % 2 = 1) then 1 else 0
theorem rnd_le (n g : Nat) : rnd n g ≤ n / g + 1 := by unfold rnd; split <;> omega
theorem rnd_ge (n g : Nat) : n / g ≤ rnd n g := by unfold rnd; omega
theorem rnd_mono {n m g : Nat} (_hg : 0 < g) (h : n ≤ m) : rnd n g ≤ rnd m g := by
  have hd : n / g ≤ m / g := Nat.div_le_div_right h
  rcases Nat.lt_or_ge (n / g) (m / g) with h1 | h1
  · exact Nat.le_trans (rnd_le n g) (Nat.le_trans h1 (rnd_ge m g))
  · have he : n / g = m / g := by omega
    have hr : n % g ≤ m % g := by
      have e1 := Nat.div_add_mod n g
      have e2 := Nat.div_add_mod m g
      rw [he] at e1
      omega
    unfold rnd
    rw [he]
    generalize n % g = a at *
    generalize m % g = b at *
    split
    · rename_i hc
      rw [if_pos]
      · omega
      · rcases hc with hc | ⟨hc, hc2⟩
        · left; omega
        · rcases Nat.lt_or_ge g (2 * b) with h3 | h3
          · left; exact h3
          · right; exact ⟨by omega, hc2⟩
    · omega
theorem rnd_mul (n g c : Nat) (hc : 0 < c) (_hg : 0 < g) : rnd (n * c) (g * c) = rnd n g := by
  unfold rnd
  rw [Nat.mul_div_mul_right _ _ hc, Nat.mul_mod_mul_right]
  have e : (g * c < 2 * (n % g * c) ∨ g * c = 2 * (n % g * c) ∧ n / g % 2 = 1) ↔ (g < 2 * (n % g) ∨ g = 2 * (n % g) ∧ n / g % 2 = 1) := by
    rw [← Nat.mul_assoc]
    constructor
    · rintro (h | ⟨h, h2⟩)
      · left; exact Nat.lt_of_mul_lt_mul_right h
      · right; exact ⟨Nat.eq_of_mul_eq_mul_right hc h, h2⟩
    · rintro (h | ⟨h, h2⟩)
      · left; exact (Nat.mul_lt_mul_right hc).2 h
      · right; exact ⟨by rw [← h], h2⟩
  by_cases hp : g < 2 * (n % g) ∨ g = 2 * (n % g) ∧ n / g % 2 = 1
  · rw [if_pos hp, if_pos (e.2 hp)]
  · rw [if_neg hp, if_neg (fun h => hp (e.1 h))]
theorem rnd_exact (n g : Nat) (hg : 0 < g) : rnd (n * g) g = n := by
  unfold rnd
  rw [Nat.mul_div_cancel _ hg, Nat.mul_mod_left, if_neg (by omega)]
  rfl
theorem cut_even (neg : Bool) (n drop : Nat) : Toward.even.cut neg n drop = rnd n (2 ^ drop) := by
  have core : ∀ d, n / (1 <<< d) + (decide (1 <<< d < 2 * (n % (1 <<< d))) || (1 <<< d == 2 * (n % (1 <<< d)) && n / (1 <<< d) % 2 == 1)).toNat = rnd n (2 ^ d) := by
    intro d
    rw [Nat.one_shiftLeft]
    unfold rnd
    congr 1
    by_cases h : 2 ^ d < 2 * (n % 2 ^ d) ∨ 2 ^ d = 2 * (n % 2 ^ d) ∧ n / 2 ^ d % 2 = 1
    · rw [if_pos h]
      rcases h with h | ⟨h1, h2⟩
      · rw [decide_eq_true h]; rfl
      · rw [show ((2 ^ d == 2 * (n % 2 ^ d)) = true) from by rw [beq_iff_eq]; exact h1, show ((n / 2 ^ d % 2 == 1) = true) from by rw [beq_iff_eq]; exact h2]
        simp
    · rw [if_neg h, decide_eq_false (fun hh => h (.inl hh))]
      by_cases h1 : 2 ^ d = 2 * (n % 2 ^ d)
      · have h2 : ¬ n / 2 ^ d % 2 = 1 := fun hh => h (.inr ⟨h1, hh⟩)
        rw [show (n / 2 ^ d % 2 == 1) = false from by rw [beq_eq_false_iff_ne]; exact h2]
        simp
      · rw [show (2 ^ d == 2 * (n % 2 ^ d)) = false from by rw [beq_eq_false_iff_ne]; exact h1]
        simp
  unfold Toward.cut
  simp only
  rw [core]
  rcases Nat.le_total drop (n.log2 + 2) with h | h
  · rw [Nat.min_eq_left h]
  · rw [Nat.min_eq_right h]
    have hn : n < 2 ^ (n.log2 + 1) := Nat.lt_log2_self
    have z : ∀ d, n.log2 + 2 ≤ d → rnd n (2 ^ d) = 0 := by
      intro d hd
      have h1 : 2 ^ (n.log2 + 2) ≤ 2 ^ d := Nat.pow_le_pow_right (by decide) hd
      have h2 : 2 * n < 2 ^ d := by rw [Nat.pow_succ] at h1; omega
      unfold rnd
      rw [Nat.div_eq_of_lt (by omega), Nat.mod_eq_of_lt (by omega), if_neg (by omega)]
    rw [z _ (Nat.le_refl _), z _ h]

/-- The rung of a number of units of 2^-(1074 + k). -/
def top (k X : Nat) : Nat := max (X.log2 - 52) k
def RN (k X : Nat) : Nat := min ((top k X - k) * b52 + rnd X (2 ^ top k X)) inf
theorem log2_le {X n : Nat} (h : X < 2 ^ (n + 1)) : X.log2 ≤ n := by
  rcases Nat.eq_zero_or_pos X with h0 | h0
  · subst h0; simp
  · exact Nat.le_of_lt_succ ((Nat.log2_lt (by omega)).2 h)
theorem le_log2 {X n : Nat} (h : 2 ^ n ≤ X) : n ≤ X.log2 := by
  have hp : 0 < 2 ^ n := Nat.two_pow_pos n
  exact (Nat.le_log2 (by omega)).2 h
theorem log2_mono {X Y : Nat} (h : X ≤ Y) : X.log2 ≤ Y.log2 := by
  rcases Nat.eq_zero_or_pos X with h0 | h0
  · subst h0; simp
  · exact le_log2 (Nat.le_trans (Nat.log2_self_le (by omega)) h)
theorem min_mono {a b c : Nat} (h : a ≤ b) : min a c ≤ min b c := by omega
theorem RN_key {a c x y rx ry B : Nat} (h6 : a + 1 * B ≤ c) (r1 : rx ≤ x + 1) (hx : x < 2 * B) (hy : B ≤ y) (r2 : y ≤ ry) : a + rx ≤ c + ry := by omega
theorem RN_mono {k X Y : Nat} (h : X ≤ Y) : RN k X ≤ RN k Y := by
  have hl := log2_mono h
  have ht : top k X ≤ top k Y := by unfold top; omega
  have hk : k ≤ top k X := by unfold top; omega
  unfold RN
  suffices (top k X - k) * b52 + rnd X (2 ^ top k X) ≤ (top k Y - k) * b52 + rnd Y (2 ^ top k Y) from min_mono this
  rcases Nat.lt_or_ge (top k X) (top k Y) with h1 | h1
  · have e2 : top k Y = Y.log2 - 52 := by unfold top at *; omega
    have e3 : 52 ≤ Y.log2 := by unfold top at *; omega
    have hY : Y ≠ 0 := fun e => by rw [e] at e3; simp at e3
    have hy : 2 ^ top k Y * b52 ≤ Y := by
      have h5 := Nat.log2_self_le hY
      rw [show Y.log2 = top k Y + 52 by omega, Nat.pow_add] at h5
      exact h5
    have hy2 : b52 ≤ Y / 2 ^ top k Y := (Nat.le_div_iff_mul_le (Nat.two_pow_pos _)).2 (by rw [Nat.mul_comm]; exact hy)
    have hx : X < 2 ^ top k X * (2 * b52) := by
      have h5 : X < 2 ^ (X.log2 + 1) := Nat.lt_log2_self
      refine Nat.lt_of_lt_of_le h5 ?_
      rw [show 2 * b52 = 2 ^ 53 by decide, ← Nat.pow_add]
      exact Nat.pow_le_pow_right (by decide) (by unfold top; omega)
    have hx2 : X / 2 ^ top k X < 2 * b52 := (Nat.div_lt_iff_lt_mul (Nat.two_pow_pos _)).2 (by rw [Nat.mul_comm]; exact hx)
    have r1 := rnd_le X (2 ^ top k X)
    have r2 := rnd_ge Y (2 ^ top k Y)
    have h6 : (top k X - k + 1) * b52 ≤ (top k Y - k) * b52 := Nat.mul_le_mul_right _ (by omega)
    rw [Nat.add_mul] at h6
    exact RN_key h6 r1 hx2 hy2 r2
  · have e : top k X = top k Y := by omega
    rw [e]
    exact Nat.add_le_add_left (rnd_mono (g := 2 ^ top k Y) (Nat.two_pow_pos _) h) _
theorem near_eq (k m : Nat) (p : Int) (hp : -(1074 + (k : Int)) ≤ p) : D.nearest false m p = RN k (m * 2 ^ (p + (1074 + k)).toNat) := by
  obtain ⟨q, hq⟩ : ∃ q : Nat, p = (q : Int) - (1074 + k) := ⟨(p + (1074 + k)).toNat, by omega⟩
  subst hq
  rw [show ((q : Int) - (1074 + k) + (1074 + k)).toNat = q by omega]
  unfold Format.nearest
  by_cases h0 : m = 0
  · subst h0
    rw [if_pos rfl, Nat.zero_mul]
    unfold RN
    rw [show top k 0 = k by unfold top; simp]
    unfold rnd
    simp [Format.word]
  · rw [if_neg h0]
    have hlog : (m * 2 ^ q).log2 = m.log2 + q := by
      have h1 := Nat.log2_self_le h0
      have h2 : m < 2 ^ (m.log2 + 1) := Nat.lt_log2_self
      refine Nat.le_antisymm (log2_le ?_) (le_log2 ?_)
      · rw [show m.log2 + q + 1 = m.log2 + 1 + q by omega, Nat.pow_add]
        exact (Nat.mul_lt_mul_right (Nat.two_pow_pos q)).2 h2
      · rw [Nat.pow_add]
        exact Nat.mul_le_mul_right _ h1
    obtain ⟨L, hL⟩ : ∃ L, top k (m * 2 ^ q) = L := ⟨_, rfl⟩
    have hLk : k ≤ L := by rw [← hL]; unfold top; omega
    have elast : max ((q : Int) - (1074 + k) + (m.log2 : Int) - (D.fractionBits : Int)) D.leastPlace = (L : Int) - (1074 + k) := by
      rw [least_eq, show (D.fractionBits : Int) = 52 from rfl, ← hL]
      unfold top
      rw [hlog]
      omega
    simp only [elast]
    unfold RN
    rw [hL, cut_even, least_eq, binade_eq, inf_eq]
    have e1 : ((L : Int) - (1074 + k) - -1074).toNat = L - k := by omega
    rw [e1]
    have e2 : rnd (m <<< ((q : Int) - (1074 + k) - ((L : Int) - (1074 + k))).toNat) (2 ^ ((L : Int) - (1074 + k) - ((q : Int) - (1074 + k))).toNat) = rnd (m * 2 ^ q) (2 ^ L) := by
      rw [Nat.shiftLeft_eq]
      rcases Nat.le_total q L with h | h
      · rw [show ((q : Int) - (1074 + k) - ((L : Int) - (1074 + k))).toNat = 0 by omega, show ((L : Int) - (1074 + k) - ((q : Int) - (1074 + k))).toNat = L - q by omega, Nat.pow_zero, Nat.mul_one]
        have : 2 ^ L = 2 ^ (L - q) * 2 ^ q := by rw [← Nat.pow_add]; congr 1; omega
        rw [this, rnd_mul _ _ _ (Nat.two_pow_pos _) (Nat.two_pow_pos _)]
      · rw [show ((q : Int) - (1074 + k) - ((L : Int) - (1074 + k))).toNat = q - L by omega, show ((L : Int) - (1074 + k) - ((q : Int) - (1074 + k))).toNat = 0 by omega, Nat.pow_zero]
        have : 2 ^ q = 2 ^ (q - L) * 2 ^ L := by rw [← Nat.pow_add]; congr 1; omega
        rw [this, ← Nat.mul_assoc, rnd_exact _ _ (Nat.two_pow_pos _)]
        have := rnd_exact (m * 2 ^ (q - L)) 1 (by decide)
        rwa [Nat.mul_one] at this
    rw [e2, show ∀ r, D.word false r = r from fun r => rfl]
    unfold b52 inf
    with_reducible rfl
/-- A rung is rounded to itself. -/
theorem vm_lt (r : Nat) : vm r < 2 * b52 := by
  unfold vm
  split
  · unfold b52 at *; omega
  · have := Nat.mod_lt r (show 0 < b52 by decide)
    omega
theorem RN_two {m B : Nat} (h : m < B) : B + m < 2 * B := by omega
theorem RN_val {k r : Nat} (h : r ≤ inf) : RN k (val k r) = r := by
  unfold val vm ve
  have hb : b52 = 2 ^ 52 := by decide
  by_cases hr : r < b52
  · rw [if_pos hr, Nat.div_eq_of_lt hr, show 0 - 1 + k = k by omega]
    have ht : top k (r * 2 ^ k) = k := by
      unfold top
      have : (r * 2 ^ k).log2 ≤ 51 + k := log2_le (by
        rw [show 51 + k + 1 = 52 + k by omega, Nat.pow_add]
        exact (Nat.mul_lt_mul_right (Nat.two_pow_pos k)).2 (hb ▸ hr))
      omega
    unfold RN
    rw [ht, rnd_exact _ _ (Nat.two_pow_pos _), Nat.sub_self, Nat.zero_mul, Nat.zero_add]
    omega
  · rw [if_neg hr]
    have hd : 1 ≤ r / b52 := (Nat.le_div_iff_mul_le (by decide)).2 (by omega)
    have hm := Nat.mod_lt r (show 0 < b52 by decide)
    have hdm := Nat.div_add_mod r b52
    generalize r % b52 = m at *
    obtain ⟨e, he⟩ : ∃ e, r / b52 = e + 1 := ⟨r / b52 - 1, by omega⟩
    rw [he] at hdm ⊢
    rw [Nat.add_sub_cancel]
    have hlog : ((b52 + m) * 2 ^ (e + k)).log2 = 52 + (e + k) := by
      refine Nat.le_antisymm (log2_le ?_) (le_log2 ?_)
      · have h53 : 2 ^ 53 = 2 * b52 := by decide
        have h54 : b52 + m < 2 ^ 53 := by rw [h53]; exact RN_two hm
        rw [show 52 + (e + k) + 1 = 53 + (e + k) by omega, Nat.pow_add 2 53 (e + k)]
        exact (Nat.mul_lt_mul_right (Nat.two_pow_pos _)).2 h54
      · rw [Nat.pow_add 2 52 (e + k), ← hb]
        exact Nat.mul_le_mul_right _ (Nat.le_add_right _ _)
    have ht : top k ((b52 + m) * 2 ^ (e + k)) = e + k := by unfold top; rw [hlog]; omega
    unfold RN
    rw [ht, rnd_exact _ _ (Nat.two_pow_pos _), Nat.add_sub_cancel]
    rw [Nat.mul_add, Nat.mul_one, Nat.mul_comm b52 e, Nat.add_assoc] at hdm
    rw [hdm]
    exact Nat.min_eq_left h
theorem RN_le {k X r : Nat} (h : r ≤ inf) (hx : X ≤ val k r) : RN k X ≤ r := by
  have := RN_mono (k := k) hx
  rwa [RN_val h] at this
theorem le_RN {k X r : Nat} (h : r ≤ inf) (hx : val k r ≤ X) : r ≤ RN k X := by
  have := RN_mono (k := k) hx
  rwa [RN_val h] at this
theorem val_mono {k r q : Nat} (hr : r ≤ inf) (hq : q ≤ inf) : val k r ≤ val k q ↔ r ≤ q := by
  constructor
  · intro h
    have := RN_le (k := k) hq h
    rwa [RN_val hr] at this
  · intro h
    rcases Nat.le_total (val k r) (val k q) with h1 | h1
    · exact h1
    · have := RN_le (k := k) hr h1
      rw [RN_val hq] at this
      have : r = q := by omega
      rw [this]
      exact Nat.le_refl _
theorem val_inj {k r q : Nat} (hr : r ≤ inf) (hq : q ≤ inf) (h : val k r = val k q) : r = q := by
  have h1 := RN_val (k := k) hr
  rw [h, RN_val hq] at h1
  exact h1.symm
theorem RN_inf (k X : Nat) : RN k X ≤ inf := by unfold RN; omega
theorem val_shift (k j r : Nat) : val (k + j) r = val k r * 2 ^ j := by unfold val; rw [← Nat.add_assoc, Nat.pow_add, ← Nat.mul_assoc]

/-- Sums, products. -/
theorem signed_pos (m u : Nat) : signed false m u = ((m * 2 ^ u : Nat) : Int) := by unfold signed; rw [Nat.shiftLeft_eq]; rfl
theorem signed_neg (m u : Nat) : signed true m u = -((m * 2 ^ u : Nat) : Int) := by unfold signed; rw [Nat.shiftLeft_eq]; rfl
theorem add_eq {x y : Nat} (hx : x < inf) (hy : y < inf) : D.add x y = some (RN 0 (val 0 x + val 0 y)) := by
  unfold Format.add
  rw [read_rung hx, read_rung hy]
  unfold val
  simp only [Datum.sum, Option.map_some, Format.write]
  generalize vm x = m
  generalize vm y = n
  generalize ve x = i
  generalize ve y = j
  congr 1
  obtain ⟨b, hb⟩ : ∃ b : Nat, min (-1074 + (i : Int)) (-1074 + (j : Int)) = -1074 + (b : Int) ∧ b ≤ i ∧ b ≤ j := ⟨min i j, by omega, by omega, by omega⟩
  rw [hb.1, show (-1074 + (i : Int) - (-1074 + (b : Int))).toNat = i - b by omega, show (-1074 + (j : Int) - (-1074 + (b : Int))).toNat = j - b by omega, signed_pos, signed_pos]
  have hs : (if ((m * 2 ^ (i - b) : Nat) : Int) + ((n * 2 ^ (j - b) : Nat) : Int) = 0 then false && false else decide (((m * 2 ^ (i - b) : Nat) : Int) + ((n * 2 ^ (j - b) : Nat) : Int) < 0)) = false := by
    split
    · rfl
    · exact decide_eq_false (by omega)
  rw [hs, near_eq 0 _ _ (by omega)]
  congr 1
  rw [show (-1074 + (b : Int) + (1074 + ((0 : Nat) : Int))).toNat = b by omega]
  rw [show (((m * 2 ^ (i - b) : Nat) : Int) + ((n * 2 ^ (j - b) : Nat) : Int)).natAbs = m * 2 ^ (i - b) + n * 2 ^ (j - b) by omega, Nat.add_mul, Nat.mul_assoc, Nat.mul_assoc, ← Nat.pow_add, ← Nat.pow_add, Nat.sub_add_cancel hb.2.1, Nat.sub_add_cancel hb.2.2]
  rfl
theorem mul_eq {x y : Nat} (hx : x < inf) (hy : y < inf) : D.mul x y = some (RN 1074 (val 0 x * val 0 y)) := by
  unfold Format.mul
  rw [read_rung hx, read_rung hy]
  unfold val
  simp only [Datum.product, Option.map_some, Format.write]
  generalize vm x = m
  generalize vm y = n
  generalize ve x = i
  generalize ve y = j
  rw [show (false ^^ false) = false from rfl, near_eq 1074 _ _ (by omega), show (-1074 + (i : Int) + (-1074 + (j : Int)) + (1074 + ((1074 : Nat) : Int))).toNat = i + j by omega]
  congr 2
  rw [Nat.pow_add, Nat.add_zero, Nat.add_zero, Nat.mul_mul_mul_comm]
/-- A difference: the greater one less the other. -/
theorem sub_eq {x y : Nat} (hx : x < inf) (hy : y < inf) (h : y ≤ x) : D.sub x y = some (RN 0 (val 0 x - val 0 y)) := by
  have hv := (val_mono (k := 0) (Nat.le_of_lt hy) (Nat.le_of_lt hx)).2 h
  unfold Format.sub
  rw [read_rung hx, read_rung hy]
  unfold val at *
  simp only [Datum.sum, Datum.opposite, Option.map_some, Format.write]
  generalize vm x = m at *
  generalize vm y = n at *
  generalize ve x = i at *
  generalize ve y = j at *
  congr 1
  obtain ⟨b, hb⟩ : ∃ b : Nat, min (-1074 + (i : Int)) (-1074 + (j : Int)) = -1074 + (b : Int) ∧ b ≤ i ∧ b ≤ j := ⟨min i j, by omega, by omega, by omega⟩
  rw [hb.1, show (-1074 + (i : Int) - (-1074 + (b : Int))).toNat = i - b by omega, show (-1074 + (j : Int) - (-1074 + (b : Int))).toNat = j - b by omega, signed_pos, show (!false) = true from rfl, signed_neg]
  rw [Nat.add_zero, Nat.add_zero] at hv
  have ei : m * 2 ^ i = m * 2 ^ (i - b) * 2 ^ b := by rw [Nat.mul_assoc, ← Nat.pow_add, Nat.sub_add_cancel hb.2.1]
  have ej : n * 2 ^ j = n * 2 ^ (j - b) * 2 ^ b := by rw [Nat.mul_assoc, ← Nat.pow_add, Nat.sub_add_cancel hb.2.2]
  have hle : n * 2 ^ (j - b) ≤ m * 2 ^ (i - b) := by
    rw [ei, ej] at hv
    exact Nat.le_of_mul_le_mul_right hv (Nat.two_pow_pos b)
  rw [Nat.add_zero, Nat.add_zero, ei, ej]
  generalize m * 2 ^ (i - b) = A at *
  generalize n * 2 ^ (j - b) = B at *
  have hs : (if (A : Int) + -(B : Int) = 0 then false && true else decide ((A : Int) + -(B : Int) < 0)) = false := by
    split
    · rfl
    · exact decide_eq_false (by omega)
  rw [hs, near_eq 0 _ _ (by omega), show (-1074 + (b : Int) + (1074 + ((0 : Nat) : Int))).toNat = b by omega, show ((A : Int) + -(B : Int)).natAbs = A - B by omega, Nat.sub_mul]
/-- How two stand to each other. -/
theorem order_eq {x y : Nat} (hx : x < inf) (hy : y < inf) : D.order x y = some (compare x y) := by
  have h1 := val_mono (k := 0) (Nat.le_of_lt hx) (Nat.le_of_lt hy)
  have h2 := val_mono (k := 0) (Nat.le_of_lt hy) (Nat.le_of_lt hx)
  unfold Format.order
  rw [read_rung hx, read_rung hy]
  unfold val at *
  simp only [Datum.order]
  generalize vm x = m at *
  generalize vm y = n at *
  generalize ve x = i at *
  generalize ve y = j at *
  obtain ⟨b, hb⟩ : ∃ b : Nat, min (-1074 + (i : Int)) (-1074 + (j : Int)) = -1074 + (b : Int) ∧ b ≤ i ∧ b ≤ j := ⟨min i j, by omega, by omega, by omega⟩
  rw [hb.1, show (-1074 + (i : Int) - (-1074 + (b : Int))).toNat = i - b by omega, show (-1074 + (j : Int) - (-1074 + (b : Int))).toNat = j - b by omega, signed_pos, signed_pos]
  have ei : m * 2 ^ (i + 0) = m * 2 ^ (i - b) * 2 ^ b := by rw [Nat.mul_assoc, ← Nat.pow_add, Nat.sub_add_cancel hb.2.1, Nat.add_zero]
  have ej : n * 2 ^ (j + 0) = n * 2 ^ (j - b) * 2 ^ b := by rw [Nat.mul_assoc, ← Nat.pow_add, Nat.sub_add_cancel hb.2.2, Nat.add_zero]
  rw [ei, ej] at h1 h2
  have hp := Nat.two_pow_pos b
  generalize m * 2 ^ (i - b) = A at *
  generalize n * 2 ^ (j - b) = B at *
  have k1 : A ≤ B ↔ x ≤ y := ⟨fun h => h1.1 (Nat.mul_le_mul_right _ h), fun h => Nat.le_of_mul_le_mul_right (h1.2 h) hp⟩
  have k2 : B ≤ A ↔ y ≤ x := ⟨fun h => h2.1 (Nat.mul_le_mul_right _ h), fun h => Nat.le_of_mul_le_mul_right (h2.2 h) hp⟩
  congr 1
  rcases Nat.lt_trichotomy x y with h | h | h
  · rw [Nat.compare_eq_lt.2 h, Int.compare_eq_lt.2 (by omega)]
  · rw [Nat.compare_eq_eq.2 h, Int.compare_eq_eq.2 (by omega)]
  · rw [Nat.compare_eq_gt.2 h, Int.compare_eq_gt.2 (by omega)]

end IE
end Go.Proofs.Ytfifecjnniahiaa

namespace Go.Proofs.Ytfifecjnniahiaa
namespace IE
open Go Ieee

/-- What is written by few digits is a number. -/
theorem rep (k : Nat) : ∀ (d m : Nat), m < 2 * b52 → ∃ r, val k r = m * 2 ^ (k + d) ∧ r < (d + 2) * b52
  | 0, m, h => by
    refine ⟨m, ?_, by rw [Nat.zero_add]; exact h⟩
    unfold val vm ve
    by_cases hm : m < b52
    · rw [if_pos hm, Nat.div_eq_of_lt hm, show 0 - 1 + k = k + 0 by omega]
    · have h1 : m / b52 = 1 := by
        refine Nat.div_eq_of_lt_le ?_ ?_
        · rw [Nat.one_mul]; exact Nat.le_of_not_lt hm
        · exact h
      have h2 := Nat.div_add_mod m b52
      rw [h1, Nat.mul_one] at h2
      rw [if_neg hm, h1, h2, show 1 - 1 + k = k + 0 by omega]
  | d + 1, m, h => by
    by_cases hm : m < b52
    · obtain ⟨r, h1, h2⟩ := rep k d (2 * m) (Nat.mul_lt_mul_of_pos_left hm (by decide))
      refine ⟨r, ?_, Nat.lt_of_lt_of_le h2 (Nat.mul_le_mul_right _ (by omega))⟩
      rw [h1, show k + (d + 1) = k + d + 1 from rfl, Nat.pow_succ, Nat.mul_comm 2 m, Nat.mul_assoc, Nat.mul_comm 2 (2 ^ (k + d))]
    · obtain ⟨a, ha⟩ : ∃ a, m = b52 + a := ⟨m - b52, (Nat.add_sub_cancel' (Nat.le_of_not_lt hm)).symm⟩
      subst ha
      have hab : a < b52 := by rw [Nat.two_mul] at h; exact Nat.lt_of_add_lt_add_left h
      have e1 : ((d + 2) * b52 + a) / b52 = d + 2 := by
        rw [Nat.mul_comm, Nat.mul_add_div (by decide), Nat.div_eq_of_lt hab, Nat.add_zero]
      have e2 : ((d + 2) * b52 + a) % b52 = a := by
        rw [Nat.mul_comm, Nat.mul_add_mod, Nat.mod_eq_of_lt hab]
      have hn : ¬ (d + 2) * b52 + a < b52 := fun hh => by
        have := Nat.div_eq_of_lt hh
        rw [e1] at this
        omega
      refine ⟨(d + 2) * b52 + a, ?_, ?_⟩
      · unfold val vm ve
        rw [if_neg hn, e1, e2, show d + 2 - 1 + k = k + (d + 1) by omega]
      · rw [show d + 1 + 2 = d + 2 + 1 from rfl, Nat.add_mul (d + 2) 1 b52, Nat.one_mul]
        exact Nat.add_lt_add_left hab _
theorem inf_b52 : inf = 2047 * b52 := by decide
theorem rep_lt {d r : Nat} (hd : d ≤ 2044) (h : r < (d + 2) * b52) : r < inf := by
  rw [inf_b52]
  exact Nat.lt_of_lt_of_le h (Nat.mul_le_mul_right _ (by omega))
/-- It is rounded to itself. -/
theorem RN_exact (k d m : Nat) (h : m < 2 * b52) (hd : d ≤ 2044) : val k (RN k (m * 2 ^ (k + d))) = m * 2 ^ (k + d) ∧ RN k (m * 2 ^ (k + d)) < inf := by
  obtain ⟨r, h1, h2⟩ := rep k d m h
  have h3 := rep_lt hd h2
  rw [← h1, RN_val (Nat.le_of_lt h3)]
  exact ⟨rfl, h3⟩
/-- Units of one. -/
def k74 : Nat := 1074
theorem k74_eq : k74 = 1074 := rfl
/-- Whole numbers. -/
def ofN (n : Nat) : Nat := RN 0 (n * 2 ^ k74)
theorem ofN_eq (n : Nat) : floatOfInt .f64 (n : Int) = ofN n := by
  show D.nearest (decide ((n : Int) < 0)) (n : Int).natAbs 0 = ofN n
  rw [decide_eq_false (by omega), show (n : Int).natAbs = n from rfl, near_eq 0 n 0 (by omega), show ((0 : Int) + (1074 + ((0 : Nat) : Int))).toNat = k74 from rfl]
  rfl
theorem ofN_val {n : Nat} (h : n ≤ 4294967296) : val 0 (ofN n) = n * 2 ^ k74 ∧ ofN n < inf := by
  have := RN_exact 0 k74 n (Nat.lt_of_le_of_lt h (by decide)) (by decide)
  rw [Nat.zero_add] at this
  exact this
theorem ofN_mono {n m : Nat} (h : n ≤ m) : ofN n ≤ ofN m := RN_mono (Nat.mul_le_mul_right _ h)
/-- What is cut towards nought. -/
def floorN (r : Nat) : Nat := val 0 r / 2 ^ k74
theorem cut_zero (neg : Bool) (n drop : Nat) : Toward.zero.cut neg n drop = n / 2 ^ drop := by
  unfold Toward.cut
  simp only [Nat.one_shiftLeft, Bool.toNat_false, Nat.add_zero]
  rcases Nat.le_total drop (n.log2 + 2) with h | h
  · rw [Nat.min_eq_left h]
  · rw [Nat.min_eq_right h]
    have hn : n < 2 ^ (n.log2 + 1) := Nat.lt_log2_self
    have z : ∀ d, n.log2 + 2 ≤ d → n / 2 ^ d = 0 := fun d hd =>
      Nat.div_eq_of_lt (Nat.lt_of_lt_of_le hn (Nat.pow_le_pow_right (by decide) (by omega)))
    rw [z _ (Nat.le_refl _), z _ h]
theorem shift_div (K m e : Nat) : m * 2 ^ ((e : Int) - (K : Int)).toNat / 2 ^ ((K : Int) - (e : Int)).toNat = m * 2 ^ e / 2 ^ K := by
  rcases Nat.le_total e K with h | h
  · rw [show ((e : Int) - (K : Int)).toNat = 0 by omega, show ((K : Int) - (e : Int)).toNat = K - e by omega, Nat.pow_zero, Nat.mul_one]
    have : (2 : Nat) ^ K = 2 ^ (K - e) * 2 ^ e := by rw [← Nat.pow_add, Nat.sub_add_cancel h]
    rw [this, Nat.mul_div_mul_right _ _ (Nat.two_pow_pos e)]
  · rw [show ((e : Int) - (K : Int)).toNat = e - K by omega, show ((K : Int) - (e : Int)).toNat = 0 by omega, Nat.pow_zero, Nat.div_one]
    have : (2 : Nat) ^ e = 2 ^ (e - K) * 2 ^ K := by rw [← Nat.pow_add, Nat.sub_add_cancel h]
    rw [this, ← Nat.mul_assoc, Nat.mul_div_cancel _ (Nat.two_pow_pos _)]
theorem toInt_eq {r : Nat} (h : r < inf) : (D.read r).toInt .zero = some ((floorN r : Nat) : Int) := by
  rw [read_rung h]
  unfold floorN val
  rw [Nat.add_zero]
  generalize vm r = m
  generalize ve r = e
  unfold Datum.toInt Datum.integral
  simp only
  rw [cut_zero, Nat.shiftLeft_eq, show (-1074 + (e : Int)).toNat = ((e : Int) - (k74 : Int)).toNat from congrArg Int.toNat (Int.add_comm _ _), show (-(-1074 + (e : Int))).toNat = ((k74 : Int) - (e : Int)).toNat by rw [show (k74 : Int) = 1074 from rfl]; omega, shift_div, signed_pos, Nat.pow_zero, Nat.mul_one]

/-- A mix of two, by weights that make one. -/
def mixR (w v o s : Nat) : Nat := RN 0 (val 0 (RN 1074 (val 0 o * val 0 w)) + val 0 (RN 1074 (val 0 s * val 0 v)))
/-- It is not above M, where M's parts are numbers. -/
theorem mix_le {w v o s M A B : Nat} (hM : M ≤ inf) (ho : o ≤ M) (hs : s ≤ M) (hA : A ≤ inf) (hB : B ≤ inf) (h1 : val 0 M * val 0 w = val 1074 A) (h2 : val 0 M * val 0 v = val 1074 B) (h3 : val 0 A + val 0 B = val 0 M) : mixR w v o s ≤ M := by
  have a1 : RN 1074 (val 0 o * val 0 w) ≤ A := RN_le hA (by rw [← h1]; exact Nat.mul_le_mul_right _ ((val_mono (Nat.le_trans ho hM) hM).2 ho))
  have b1 : RN 1074 (val 0 s * val 0 v) ≤ B := RN_le hB (by rw [← h2]; exact Nat.mul_le_mul_right _ ((val_mono (Nat.le_trans hs hM) hM).2 hs))
  have a2 := (val_mono (k := 0) (RN_inf 1074 _) hA).2 a1
  have b2 := (val_mono (k := 0) (RN_inf 1074 _) hB).2 b1
  exact RN_le hM (by rw [← h3]; exact Nat.add_le_add a2 b2)
theorem mix_ge {w v o s M A B : Nat} (hM : M ≤ inf) (ho : M ≤ o) (hs : M ≤ s) (io : o ≤ inf) (is : s ≤ inf) (hA : A ≤ inf) (hB : B ≤ inf) (h1 : val 0 M * val 0 w = val 1074 A) (h2 : val 0 M * val 0 v = val 1074 B) (h3 : val 0 A + val 0 B = val 0 M) : M ≤ mixR w v o s := by
  have a1 : A ≤ RN 1074 (val 0 o * val 0 w) := le_RN hA (by rw [← h1]; exact Nat.mul_le_mul_right _ ((val_mono hM io).2 ho))
  have b1 : B ≤ RN 1074 (val 0 s * val 0 v) := le_RN hB (by rw [← h2]; exact Nat.mul_le_mul_right _ ((val_mono hM is).2 hs))
  have a2 := (val_mono (k := 0) hA (RN_inf 1074 _)).2 a1
  have b2 := (val_mono (k := 0) hB (RN_inf 1074 _)).2 b1
  exact le_RN hM (by rw [← h3]; exact Nat.add_le_add a2 b2)
/-- 2^32, and its parts. -/
def M32 : Nat := 4751297606875873280
theorem M32_eq : M32 = ofN 4294967296 := by decide +kernel
theorem M32_inf : M32 < inf := by decide
def c075 : Nat := 4604930618986332160
def c025 : Nat := 4598175219545276416
def c0875 : Nat := 4606056518893174784
def c0125 : Nat := 4593671619917905920
def c4 : Nat := 4616189618054758400
def c05 : Nat := 4602678819172646912
def c2 : Nat := 4611686018427387904
def c1 : Nat := 4607182418800017408
theorem mixV_le {o s : Nat} (ho : o ≤ M32) (hs : s ≤ M32) : mixR c075 c025 o s ≤ M32 :=
  mix_le (A := 4749045807062188032) (B := 4742290407621132288) (Nat.le_of_lt M32_inf) ho hs (by decide) (by decide) (by decide +kernel) (by decide +kernel) (by decide +kernel)
theorem mixS_le {o s : Nat} (ho : o ≤ M32) (hs : s ≤ M32) : mixR c0875 c0125 o s ≤ M32 :=
  mix_le (A := 4750171706969030656) (B := 4737786807993761792) (Nat.le_of_lt M32_inf) ho hs (by decide) (by decide) (by decide +kernel) (by decide +kernel) (by decide +kernel)

end IE
end Go.Proofs.Ytfifecjnniahiaa

namespace Go.Proofs.Ytfifecjnniahiaa
namespace IE
open Go Ieee

def sgn : Nat := 9223372036854775808
theorem near_neg (m : Nat) (p : Int) : D.nearest true m p = sgn + D.nearest false m p := by
  unfold Format.nearest
  by_cases h : m = 0
  · rw [if_pos h, if_pos h]; rfl
  · rw [if_neg h, if_neg h]
    simp only [cut_even]
    unfold Format.word
    rw [if_pos rfl, if_neg (by decide), weight_eq]
    rfl
/-- A difference below nought. -/
theorem sub_neg {x y : Nat} (hx : x < inf) (hy : y < inf) (h : x < y) : D.sub x y = some (sgn + RN 0 (val 0 y - val 0 x)) := by
  have hv := (val_mono (k := 0) (Nat.le_of_lt hx) (Nat.le_of_lt hy)).2 (Nat.le_of_lt h)
  have hne : val 0 x ≠ val 0 y := fun e => absurd (val_inj (Nat.le_of_lt hx) (Nat.le_of_lt hy) e) (Nat.ne_of_lt h)
  unfold Format.sub
  rw [read_rung hx, read_rung hy]
  unfold val at *
  simp only [Datum.sum, Datum.opposite, Option.map_some, Format.write]
  generalize vm x = m at *
  generalize vm y = n at *
  generalize ve x = i at *
  generalize ve y = j at *
  congr 1
  obtain ⟨b, hb⟩ : ∃ b : Nat, min (-1074 + (i : Int)) (-1074 + (j : Int)) = -1074 + (b : Int) ∧ b ≤ i ∧ b ≤ j := ⟨min i j, by omega, by omega, by omega⟩
  rw [hb.1, show (-1074 + (i : Int) - (-1074 + (b : Int))).toNat = i - b by omega, show (-1074 + (j : Int) - (-1074 + (b : Int))).toNat = j - b by omega, signed_pos, show (!false) = true from rfl, IE.signed_neg]
  rw [Nat.add_zero, Nat.add_zero] at hv hne
  have ei : m * 2 ^ i = m * 2 ^ (i - b) * 2 ^ b := by rw [Nat.mul_assoc, ← Nat.pow_add, Nat.sub_add_cancel hb.2.1]
  have ej : n * 2 ^ j = n * 2 ^ (j - b) * 2 ^ b := by rw [Nat.mul_assoc, ← Nat.pow_add, Nat.sub_add_cancel hb.2.2]
  rw [ei, ej] at hv hne
  rw [Nat.add_zero, Nat.add_zero, ei, ej]
  generalize m * 2 ^ (i - b) = A at *
  generalize n * 2 ^ (j - b) = B at *
  have hle : A ≤ B := Nat.le_of_mul_le_mul_right hv (Nat.two_pow_pos b)
  have hn : A ≠ B := fun e => hne (by rw [e])
  have hs : (if (A : Int) + -(B : Int) = 0 then false && true else decide ((A : Int) + -(B : Int) < 0)) = true := by
    rw [if_neg (by omega)]
    exact decide_eq_true (by omega)
  rw [hs, near_neg, near_eq 0 _ _ (by omega), show (-1074 + (b : Int) + (1074 + ((0 : Nat) : Int))).toNat = b by omega, show ((A : Int) + -(B : Int)).natAbs = B - A by omega, Nat.sub_mul]
/-- Half. -/
def k72 : Nat := 1072
def half (x : Nat) : Nat := RN 1074 (val 0 x * 2 ^ (k72 + 1))
theorem half_eq {x : Nat} (hx : x < inf) : D.div x c2 = some (half x) := by
  have hl : (vm x).log2 ≤ 52 := log2_le (by
    have := vm_lt x
    rw [show 2 ^ (52 + 1) = 2 * b52 by decide]
    exact this)
  have h2 : D.read c2 = .number false 4503599627370496 (-51) := by decide +kernel
  unfold Format.div half
  rw [read_rung hx, h2]
  unfold val
  rw [Nat.add_zero]
  generalize vm x = m at *
  generalize ve x = e
  obtain ⟨K, hK⟩ : ∃ K, k72 + 1 = K := ⟨_, rfl⟩
  rw [hK]
  simp only [Datum.quotient]
  rw [if_neg (by decide), Option.map_some, show D.fractionBits + 2 = 54 from rfl, show Nat.log2 4503599627370496 = 52 by decide +kernel]
  simp only [Format.write]
  congr 1
  obtain ⟨a, ha⟩ : ∃ a, 54 + 52 - m.log2 = a + 52 := ⟨54 - m.log2, by omega⟩
  have hal : a ≤ 54 := by omega
  rw [ha, Nat.shiftLeft_eq, Nat.pow_add, ← Nat.mul_assoc, show (2 : Nat) ^ 52 = 4503599627370496 by decide, Nat.mul_div_cancel _ (by decide), Nat.mul_mod_left, show ((0 : Nat) != 0) = false from rfl, Bool.toNat_false, Nat.add_zero, show (false ^^ false) = false from rfl]
  rw [near_eq 1074 _ _ (by omega), show (-1074 + (e : Int) - -51 - ((a + 52 : Nat) : Int) - 1 + (1074 + ((1074 : Nat) : Int))).toNat = e + k72 - a by rw [show k72 = 1072 from rfl]; omega]
  congr 1
  rw [← hK]
  have hk : a ≤ e + k72 := Nat.le_trans hal (Nat.le_trans (by decide : 54 ≤ k72) (Nat.le_add_left _ _))
  have e1 : 2 ^ a * 2 ^ (e + k72 - a) = 2 ^ (e + k72) := by rw [← Nat.pow_add, Nat.add_sub_cancel' hk]
  have e2 : (2 : Nat) ^ e * 2 ^ (k72 + 1) = 2 * 2 ^ (e + k72) := by rw [← Nat.pow_add, ← Nat.add_assoc, Nat.pow_succ']
  rw [Nat.add_zero, Nat.mul_assoc m (2 ^ e), e2, Nat.mul_assoc 2, Nat.mul_assoc m, e1, Nat.mul_left_comm]
theorem half_le {x : Nat} (hx : x ≤ inf) : half x ≤ x := by
  refine RN_le hx ?_
  have h : val 1074 x = val 0 x * 2 ^ (k72 + 2) := val_shift 0 (k72 + 2) x
  rw [h]
  exact Nat.mul_le_mul_left _ (Nat.pow_le_pow_right (by decide) (Nat.le_succ _))
/-- How far apart. -/
def dif (a b : Nat) : Nat := if b ≤ a then RN 0 (val 0 a - val 0 b) else RN 0 (val 0 b - val 0 a)
theorem dif_le {a b M : Nat} (hM : M ≤ inf) (ha : a ≤ M) (hb : b ≤ M) : dif a b ≤ M := by
  have h1 := (val_mono (k := 0) (Nat.le_trans ha hM) hM).2 ha
  have h2 := (val_mono (k := 0) (Nat.le_trans hb hM) hM).2 hb
  unfold dif
  split
  · exact RN_le hM (Nat.le_trans (Nat.sub_le _ _) h1)
  · exact RN_le hM (Nat.le_trans (Nat.sub_le _ _) h2)
theorem dif_pos {a b : Nat} (ha : a < inf) (hb : b < inf) (h : a < b) : 1 ≤ dif a b := by
  have hv : val 0 a < val 0 b := by
    rcases Nat.lt_or_ge (val 0 a) (val 0 b) with h1 | h1
    · exact h1
    · have := (val_mono (k := 0) (Nat.le_of_lt hb) (Nat.le_of_lt ha)).1 h1
      omega
  unfold dif
  rw [if_neg (by omega)]
  refine le_RN (by decide) ?_
  rw [show val 0 1 = 1 by decide]
  omega
/-- What is sent again when: the value ahead of its bounds. -/
def due (s v : Nat) : Nat := floorN (RN 0 (val 0 s + val 0 (RN 1074 (val 0 c4 * val 0 (max v c025)))))
def M34 : Nat := 4760304806130614272
def M35 : Nat := 4764808405757984768
theorem floorN_mono {a b : Nat} (hb : b ≤ inf) (h : a ≤ b) : floorN a ≤ floorN b := Nat.div_le_div_right ((val_mono (Nat.le_trans h hb) hb).2 h)
theorem four_le {v : Nat} (h : v ≤ M32) : RN 1074 (val 0 c4 * val 0 (max v c025)) ≤ M34 := by
  refine RN_le (by decide) ?_
  rw [show val 1074 M34 = val 0 c4 * val 0 M32 by decide +kernel]
  refine Nat.mul_le_mul_left _ ((val_mono (Nat.le_trans (Nat.max_le.2 ⟨h, by decide⟩) (Nat.le_of_lt M32_inf)) (Nat.le_of_lt M32_inf)).2 (Nat.max_le.2 ⟨h, by decide⟩))
theorem sum_le {s v : Nat} (hs : s ≤ M32) (h : v ≤ M32) : RN 0 (val 0 s + val 0 (RN 1074 (val 0 c4 * val 0 (max v c025)))) ≤ M35 := by
  refine RN_le (by decide) ?_
  have h1 := (val_mono (k := 0) (Nat.le_trans hs (Nat.le_of_lt M32_inf)) (Nat.le_of_lt M32_inf)).2 hs
  have h2 := (val_mono (k := 0) (RN_inf 1074 _) (show M34 ≤ inf by decide)).2 (four_le h)
  refine Nat.le_trans (Nat.add_le_add h1 h2) ?_
  decide +kernel
theorem due_le {s v : Nat} (hs : s ≤ M32) (h : v ≤ M32) : due s v ≤ 34359738368 := by
  refine Nat.le_trans (floorN_mono (by decide) (sum_le hs h)) ?_
  decide +kernel
/-- A timer: no number yet, or its smooth time and its deviation; its value. -/
structure TS where
  has : Bool
  s : Nat
  v : Nat
  val : Nat
def clampT (least most n : Nat) : Nat := min (max n least) most
def TS.sample (least most : Nat) (t : TS) (n : Nat) : TS :=
  if 4294967296 < n then t else
  let x := ofN n
  let s := if t.has then mixR c0875 c0125 t.s x else x
  let v := if t.has then mixR c075 c025 t.v (dif t.s x) else half x
  ⟨true, s, v, clampT least most (due s v)⟩
def TS.backoff (most : Nat) (t : TS) : TS := { t with val := min (2 * t.val % 18446744073709551616) most }
structure TS.ok (t : TS) : Prop where
  s : t.s ≤ M32
  v : t.v ≤ M32
theorem TS.sample_ok {t : TS} (h : t.ok) (least most n : Nat) : (t.sample least most n).ok := by
  unfold TS.sample
  split
  · exact h
  · rename_i hn
    have hx : ofN n ≤ M32 := by rw [M32_eq]; exact ofN_mono (by omega)
    refine ⟨?_, ?_⟩
    · show (if t.has then mixR c0875 c0125 t.s (ofN n) else ofN n) ≤ M32
      split
      · exact mixS_le h.s hx
      · exact hx
    · show (if t.has then mixR c075 c025 t.v (dif t.s (ofN n)) else half (ofN n)) ≤ M32
      split
      · exact mixV_le h.v (dif_le (Nat.le_of_lt M32_inf) h.s hx)
      · exact Nat.le_trans (half_le (Nat.le_trans hx (Nat.le_of_lt M32_inf))) hx

end IE
end Go.Proofs.Ytfifecjnniahiaa

namespace Go.Proofs.Ytfifecjnniahiaa
namespace IE
open Go Ieee

/-- So many parts of 2^-16. -/
def k58 : Nat := 1058
def Q (a : Nat) : Nat := RN 0 (a * 2 ^ k58)
theorem Q_val {a : Nat} (h : a < 2 * b52) : val 0 (Q a) = a * 2 ^ k58 ∧ Q a < inf := by
  have := RN_exact 0 k58 a h (by decide)
  rw [Nat.zero_add] at this
  exact this
theorem Q_of (n : Nat) : ofN n = Q (n * 65536) := by
  unfold ofN Q
  refine congrArg (RN 0) ?_
  rw [Nat.mul_assoc, show (65536 : Nat) = 2 ^ 16 by decide, ← Nat.pow_add, show 16 + k58 = k74 by decide]
theorem le_Q {x a : Nat} (ha : a < 2 * b52) (hx : x ≤ inf) : x ≤ Q a ↔ val 0 x ≤ a * 2 ^ k58 := by
  rw [← (Q_val ha).1]
  exact (val_mono hx (Nat.le_of_lt (Q_val ha).2)).symm
theorem Q_le {x a : Nat} (ha : a < 2 * b52) (hx : x ≤ inf) : Q a ≤ x ↔ a * 2 ^ k58 ≤ val 0 x := by
  rw [← (Q_val ha).1]
  exact (val_mono (Nat.le_of_lt (Q_val ha).2) hx).symm
section
variable {x a c e g w : Nat}
theorem part_A (hca : a * c < 2 * b52) (hg2 : g ≤ 2044) : ∃ A, val 1074 A = a * c * 2 ^ (1074 + g) ∧ val 0 A = a * c * 2 ^ g ∧ A < inf := by
  obtain ⟨r1, r2⟩ := RN_exact 1074 g (a * c) hca hg2
  obtain ⟨A, hA⟩ : ∃ A, RN 1074 (a * c * 2 ^ (1074 + g)) = A := ⟨_, rfl⟩
  rw [hA] at r1 r2
  refine ⟨A, r1, ?_, r2⟩
  obtain ⟨j, hj⟩ : ∃ j, 1074 = j := ⟨_, rfl⟩
  rw [hj] at r1
  have h := val_shift 0 j A
  rw [Nat.zero_add, r1, Nat.add_comm j, Nat.pow_add, ← Nat.mul_assoc] at h
  exact (Nat.eq_of_mul_eq_mul_right (Nat.two_pow_pos _) h).symm
theorem part_le (hw : val 0 w = c * 2 ^ e) (hx : val 0 x ≤ a * 2 ^ k58) (hca : a * c < 2 * b52) (hg : k58 + e = 1074 + g) (hg2 : g ≤ 2044) : val 0 (RN 1074 (val 0 x * val 0 w)) ≤ a * c * 2 ^ g := by
  obtain ⟨A, h1, h2, h3⟩ := part_A hca hg2
  rw [← h2]
  refine (val_mono (RN_inf _ _) (Nat.le_of_lt h3)).2 (RN_le (Nat.le_of_lt h3) ?_)
  rw [h1, hw, ← hg, Nat.pow_add, Nat.mul_mul_mul_comm a c]
  exact Nat.mul_le_mul_right _ hx
theorem part_ge (hw : val 0 w = c * 2 ^ e) (hx : a * 2 ^ k58 ≤ val 0 x) (hca : a * c < 2 * b52) (hg : k58 + e = 1074 + g) (hg2 : g ≤ 2044) : a * c * 2 ^ g ≤ val 0 (RN 1074 (val 0 x * val 0 w)) := by
  obtain ⟨A, h1, h2, h3⟩ := part_A hca hg2
  rw [← h2]
  refine (val_mono (Nat.le_of_lt h3) (RN_inf _ _)).2 (le_RN (Nat.le_of_lt h3) ?_)
  rw [h1, hw, ← hg, Nat.pow_add, Nat.mul_mul_mul_comm a c]
  exact Nat.mul_le_mul_right _ hx
end
section
variable {o s a b r c d e g h w v : Nat}
theorem mix_up (hw : val 0 w = c * 2 ^ e) (hv : val 0 v = d * 2 ^ e) (ho : val 0 o ≤ a * 2 ^ k58) (hs : val 0 s ≤ b * 2 ^ k58) (h1 : a * c < 2 * b52) (h2 : b * d < 2 * b52) (h3 : r < 2 * b52) (hg : k58 + e = 1074 + g) (hg2 : g ≤ 2044) (hh : k58 = g + h) (hr : a * c + b * d ≤ r * 2 ^ h) : val 0 (mixR w v o s) ≤ r * 2 ^ k58 := by
  have p1 := part_le hw ho h1 hg hg2
  have p2 := part_le hv hs h2 hg hg2
  have hq := Q_val h3
  rw [← hq.1]
  refine (val_mono (RN_inf _ _) (Nat.le_of_lt hq.2)).2 (RN_le (Nat.le_of_lt hq.2) ?_)
  rw [hq.1]
  refine Nat.le_trans (Nat.add_le_add p1 p2) ?_
  rw [← Nat.add_mul, hh, Nat.add_comm g, Nat.pow_add, ← Nat.mul_assoc]
  exact Nat.mul_le_mul_right _ hr
theorem mix_down (hw : val 0 w = c * 2 ^ e) (hv : val 0 v = d * 2 ^ e) (ho : a * 2 ^ k58 ≤ val 0 o) (hs : b * 2 ^ k58 ≤ val 0 s) (h1 : a * c < 2 * b52) (h2 : b * d < 2 * b52) (h3 : r < 2 * b52) (hg : k58 + e = 1074 + g) (hg2 : g ≤ 2044) (hh : k58 = g + h) (hr : r * 2 ^ h ≤ a * c + b * d) : r * 2 ^ k58 ≤ val 0 (mixR w v o s) := by
  have p1 := part_ge hw ho h1 hg hg2
  have p2 := part_ge hv hs h2 hg hg2
  have hq := Q_val h3
  rw [← hq.1]
  refine (val_mono (Nat.le_of_lt hq.2) (RN_inf _ _)).2 (le_RN (Nat.le_of_lt hq.2) ?_)
  rw [hq.1]
  refine Nat.le_trans ?_ (Nat.add_le_add p1 p2)
  rw [← Nat.add_mul, hh, Nat.add_comm g, Nat.pow_add, ← Nat.mul_assoc]
  exact Nat.mul_le_mul_right _ hr
end
def e71 : Nat := 1071
def e72 : Nat := 1072
def g55 : Nat := 1055
def g56 : Nat := 1056
theorem w0875 : val 0 c0875 = 7 * 2 ^ e71 := by decide +kernel
theorem w0125 : val 0 c0125 = 1 * 2 ^ e71 := by decide +kernel
theorem w075 : val 0 c075 = 3 * 2 ^ e72 := by decide +kernel
theorem w025 : val 0 c025 = 1 * 2 ^ e72 := by decide +kernel
/-- How near a timer's numbers are: the smooth time within c, the deviation below b, parts of 2^-16. -/
structure Near (n c b s v : Nat) : Prop where
  up : val 0 s ≤ (n + c) * 2 ^ k58
  lo : (n - c) * 2 ^ k58 ≤ val 0 s
  dv : val 0 v ≤ b * 2 ^ k58
  si : s ≤ inf
  vi : v ≤ inf
theorem two52 : 2 * b52 = 9007199254740992 := by decide
theorem dif_near {n c b s v x : Nat} (h : Near n c b s v) (hx : val 0 x = n * 2 ^ k58) (hc : c < 2 * b52) : val 0 (dif s x) ≤ c * 2 ^ k58 := by
  have hq := Q_val hc
  rw [← hq.1]
  have key : ∀ y, y ≤ c * 2 ^ k58 → val 0 (RN 0 y) ≤ val 0 (Q c) := fun y hy => (val_mono (RN_inf _ _) (Nat.le_of_lt hq.2)).2 (RN_le (Nat.le_of_lt hq.2) (by rw [hq.1]; exact hy))
  have h1 := h.up
  have h2 := h.lo
  unfold dif
  split
  · refine key _ ?_
    rw [hx]
    rw [Nat.add_mul] at h1
    exact Nat.sub_le_iff_le_add'.2 h1
  · refine key _ ?_
    rw [hx]
    rw [Nat.sub_mul] at h2
    generalize n * 2 ^ k58 = N at *
    generalize c * 2 ^ k58 = C at *
    omega
theorem kg1 : k58 + e71 = 1074 + g55 := by decide
theorem kg2 : k58 + e72 = 1074 + g56 := by decide
theorem kh1 : k58 = g55 + 3 := by decide
theorem kh2 : k58 = g56 + 2 := by decide
theorem near_step {n c b s v x : Nat} (h : Near n c b s v) (hx : val 0 x = n * 2 ^ k58) (hn : n ≤ 4294967296) (hc : c ≤ 281474976710656) (hb : b ≤ 281474976710656) :
    Near n ((7 * c + 7) / 8) ((3 * b + c + 3) / 4) (mixR c0875 c0125 s x) (mixR c075 c025 v (dif s x)) := by
  have t := two52
  refine ⟨?_, ?_, ?_, RN_inf _ _, RN_inf _ _⟩
  · exact mix_up (h := 3) (g := g55) w0875 w0125 h.up (Nat.le_of_eq hx) (by omega) (by omega) (by omega) kg1 (by decide) kh1 (by omega)
  · exact mix_down (h := 3) (g := g55) w0875 w0125 h.lo (Nat.le_of_eq hx.symm) (by omega) (by omega) (by omega) kg1 (by decide) kh1 (by omega)
  · exact mix_up (h := 2) (g := g56) w075 w025 h.dv (dif_near h hx (by omega)) (by omega) (by omega) (by omega) kg2 (by decide) kh2 (by omega)
/-- The bounds, step by step. -/
def cb : Nat → Nat × Nat
  | 0 => (281474976710656, 281474976710656)
  | k + 1 => ((7 * (cb k).1 + 7) / 8, (3 * (cb k).2 + (cb k).1 + 3) / 4)
theorem cb_le : ∀ k, (cb k).1 ≤ 281474976710656 ∧ (cb k).2 ≤ 281474976710656
  | 0 => ⟨Nat.le_refl _, Nat.le_refl _⟩
  | k + 1 => by
    have ⟨h1, h2⟩ := cb_le k
    refine ⟨?_, ?_⟩
    · show (7 * (cb k).1 + 7) / 8 ≤ _; omega
    · show (3 * (cb k).2 + (cb k).1 + 3) / 4 ≤ _; omega
theorem cb_400 : cb 400 = (7, 10) := by decide +kernel
/-- One is added, and it is cut. -/
theorem one_val : RN 1074 (val 0 c4 * val 0 c025) = c1 := by decide +kernel
theorem c1_val : val 0 c1 = 65536 * 2 ^ k58 := by decide +kernel
theorem c025_val : val 0 c025 = 16384 * 2 ^ k58 := by decide +kernel
theorem floor_Q {a : Nat} (h : a < 2 * b52) : floorN (Q a) = a / 65536 := by
  unfold floorN
  rw [(Q_val h).1, show k74 = 16 + k58 by decide, Nat.pow_add, Nat.mul_div_mul_right _ _ (Nat.two_pow_pos _)]
theorem key_up (u x y : Nat) (h : x ≤ y * u) : x + 65536 * u ≤ (y + 65536) * u := by rw [Nat.add_mul]; exact Nat.add_le_add_right h _
theorem key_lo (u x y : Nat) (h : y * u ≤ x) : (y + 65536) * u ≤ x + 65536 * u := by rw [Nat.add_mul]; exact Nat.add_le_add_right h _
theorem due_near {n s v : Nat} (hn : n ≤ 65536) (h : Near (n * 65536) 7 10 s v) : n ≤ due s v ∧ due s v ≤ n + 1 := by
  have t := two52
  have hv : max v c025 = c025 := by
    refine Nat.max_eq_right ((val_mono (k := 0) h.vi (by decide)).1 ?_)
    rw [c025_val]
    exact Nat.le_trans h.dv (Nat.mul_le_mul_right _ (by decide))
  unfold due
  rw [hv, one_val, c1_val]
  have u1 : RN 0 (val 0 s + 65536 * 2 ^ k58) ≤ Q (n * 65536 + 7 + 65536) := by
    have q := Q_val (a := n * 65536 + 7 + 65536) (by omega)
    exact RN_le (Nat.le_of_lt q.2) (Nat.le_trans (key_up _ _ _ h.up) (Nat.le_of_eq q.1.symm))
  have u2 : Q (n * 65536 - 7 + 65536) ≤ RN 0 (val 0 s + 65536 * 2 ^ k58) := by
    have q := Q_val (a := n * 65536 - 7 + 65536) (by omega)
    exact le_RN (Nat.le_of_lt q.2) (Nat.le_trans (Nat.le_of_eq q.1) (key_lo _ _ _ h.lo))
  have q1 := Q_val (a := n * 65536 + 7 + 65536) (by omega)
  have f1 := floorN_mono (Nat.le_of_lt q1.2) u1
  have f2 := floorN_mono (RN_inf _ _) u2
  rw [floor_Q (by omega)] at f1 f2
  omega
/-- Where it all begins. -/
theorem near_start {n : Nat} {t : TS} (h : t.ok) (hn : n ≤ 65536) : Near (n * 65536) 281474976710656 281474976710656 t.s t.v := by
  have e : val 0 M32 = 281474976710656 * 2 ^ k58 := by decide +kernel
  have h1 := (val_mono (k := 0) (Nat.le_trans h.s (Nat.le_of_lt M32_inf)) (Nat.le_of_lt M32_inf)).2 h.s
  have h2 := (val_mono (k := 0) (Nat.le_trans h.v (Nat.le_of_lt M32_inf)) (Nat.le_of_lt M32_inf)).2 h.v
  rw [e] at h1 h2
  refine ⟨Nat.le_trans h1 (Nat.mul_le_mul_right _ (Nat.le_add_left _ _)), ?_, h2, Nat.le_trans h.s (Nat.le_of_lt M32_inf), Nat.le_trans h.v (Nat.le_of_lt M32_inf)⟩
  rw [show n * 65536 - 281474976710656 = 0 by omega, Nat.zero_mul]
  exact Nat.zero_le _

end IE
end Go.Proofs.Ytfifecjnniahiaa

namespace Go.Proofs.Ytfifecjnniahiaa
namespace IE
open Go Ieee

def iter (least most n : Nat) : Nat → TS → TS
  | 0, t => t
  | k + 1, t => (iter least most n k t).sample least most n
theorem iter_ok {t : TS} (h : t.ok) (least most n : Nat) : ∀ k, (iter least most n k t).ok
  | 0 => h
  | k + 1 => TS.sample_ok (iter_ok h least most n k) least most n
theorem sample_has (least most : Nat) (t : TS) {n : Nat} (hn : n ≤ 65536) : (t.sample least most n).has = true := by
  unfold TS.sample
  rw [if_neg (by omega)]
theorem sample_s (least most : Nat) (t : TS) {n : Nat} (hn : n ≤ 65536) : (t.sample least most n).s = (if t.has then mixR c0875 c0125 t.s (ofN n) else ofN n) ∧ (t.sample least most n).v = (if t.has then mixR c075 c025 t.v (dif t.s (ofN n)) else half (ofN n)) := by
  unfold TS.sample
  rw [if_neg (by omega)]
  exact ⟨rfl, rfl⟩
theorem near_mk {n c B s v : Nat} (hs : val 0 s = n * 2 ^ k58) (si : s ≤ inf) (vi : v ≤ inf) (hv : val 0 v ≤ n * 2 ^ k58) (hb : n ≤ B) : Near n c B s v := by
  refine ⟨?_, ?_, Nat.le_trans hv (Nat.mul_le_mul_right _ hb), si, vi⟩
  · rw [hs]; exact Nat.mul_le_mul_right _ (Nat.le_add_right _ _)
  · rw [hs]; exact Nat.mul_le_mul_right _ (Nat.sub_le _ _)
theorem half_inf (x : Nat) : half x ≤ inf := by unfold half; exact RN_inf _ _
theorem ofN_inf (n : Nat) : ofN n ≤ inf := by unfold ofN; exact RN_inf _ _
theorem half_val {x : Nat} (h : x ≤ inf) : val 0 (half x) ≤ val 0 x := (val_mono (half_inf x) h).2 (half_le h)
theorem cb1_2 : (cb 1).2 = 281474976710656 := by decide
theorem near_first {n : Nat} (hn : n ≤ 65536) : Near (n * 65536) (cb 1).1 (cb 1).2 (ofN n) (half (ofN n)) := by
  have t := two52
  have q := (Q_val (a := n * 65536) (by omega)).1
  rw [← Q_of] at q
  have h1 := half_val (ofN_inf n)
  rw [q] at h1
  exact near_mk q (ofN_inf n) (half_inf _) h1 (by rw [cb1_2]; omega)
theorem near_iter {t : TS} (h : t.ok) (least most : Nat) {n : Nat} (hn : n ≤ 65536) : ∀ k, Near (n * 65536) (cb k).1 (cb k).2 (iter least most n k t).s (iter least most n k t).v
  | 0 => near_start h hn
  | k + 1 => by
    have ih := near_iter h least most hn k
    have hc := cb_le k
    have hx : val 0 (ofN n) = n * 65536 * 2 ^ k58 := by
      rw [Q_of]
      exact (Q_val (by have := two52; omega)).1
    have hs := sample_s least most (iter least most n k t) hn
    have hstep : (iter least most n k t).has = true → Near (n * 65536) (cb (k + 1)).1 (cb (k + 1)).2 (iter least most n (k + 1) t).s (iter least most n (k + 1) t).v := fun hh => by
      show Near (n * 65536) ((7 * (cb k).1 + 7) / 8) ((3 * (cb k).2 + (cb k).1 + 3) / 4) ((iter least most n k t).sample least most n).s ((iter least most n k t).sample least most n).v
      rw [hs.1, hs.2, if_pos hh, if_pos hh]
      exact near_step ih hx (by omega) hc.1 hc.2
    match k with
    | 0 =>
      by_cases hh : t.has = true
      · exact hstep hh
      · show Near (n * 65536) (cb 1).1 (cb 1).2 (t.sample least most n).s (t.sample least most n).v
        have hs0 := sample_s least most t hn
        rw [hs0.1, hs0.2, if_neg hh, if_neg hh]
        exact near_first hn
    | j + 1 => exact hstep (sample_has least most (iter least most n j t) hn)
/-- What it comes to. -/
theorem sample_val (least most : Nat) (t : TS) {n : Nat} (hn : n ≤ 65536) : (t.sample least most n).val = clampT least most (due (t.sample least most n).s (t.sample least most n).v) := by
  unfold TS.sample
  rw [if_neg (by omega)]
theorem iter_400 {t : TS} (h : t.ok) (least most : Nat) {n : Nat} (hn : n ≤ 65536) : clampT least most n ≤ (iter least most n 400 t).val ∧ (iter least most n 400 t).val ≤ clampT least most (n + 3) := by
  have hv := near_iter h least most hn 400
  rw [cb_400] at hv
  have hd := due_near hn hv
  have he := sample_val least most (iter least most n 399 t) hn
  rw [show (iter least most n 400 t).val = clampT least most (due (iter least most n 400 t).s (iter least most n 400 t).v) from he]
  generalize due (iter least most n 400 t).s (iter least most n 400 t).v = d at *
  unfold clampT
  omega
/-- A timer's value lies within its bounds. -/
theorem sample_in {least most : Nat} (hl : least ≤ most) {t : TS} (h : least ≤ t.val ∧ t.val ≤ most) (n : Nat) : least ≤ (t.sample least most n).val ∧ (t.sample least most n).val ≤ most := by
  unfold TS.sample
  split
  · exact h
  · show least ≤ clampT least most _ ∧ clampT least most _ ≤ most
    unfold clampT
    omega
theorem backoff_in {least most : Nat} {t : TS} (h : least ≤ t.val ∧ t.val ≤ most) (hm : most ≤ 4294967296) : least ≤ (t.backoff most).val ∧ (t.backoff most).val ≤ most ∧ (t.backoff most).val = min (2 * t.val) most := by
  show least ≤ min (2 * t.val % 18446744073709551616) most ∧ min (2 * t.val % 18446744073709551616) most ≤ most ∧ min (2 * t.val % 18446744073709551616) most = _
  rw [Nat.mod_eq_of_lt (by omega)]
  omega

end IE
end Go.Proofs.Ytfifecjnniahiaa

namespace Go.Proofs.Ytfifecjnniahiaa
namespace IE
open Go Ieee

/-- A word that is no number. -/
def nanB (w : Nat) : Bool := (D.read w).isNaN
theorem order_none (x y : Nat) : D.order x y = none ↔ (nanB x = true ∨ nanB y = true) := by
  unfold Format.order nanB
  cases D.read x <;> cases D.read y <;> simp [Datum.order, Datum.isNaN]
theorem order_self {x : Nat} (h : nanB x = false) : D.order x x = some .eq := by
  unfold Format.order
  unfold nanB at h
  cases hx : D.read x with
  | nan s t => rw [hx] at h; simp [Datum.isNaN] at h
  | infinity s => cases s <;> rfl
  | number s m e => simp only [Datum.order]; rw [Int.compare_eq_eq.2 rfl]
theorem order_nan {x : Nat} (h : nanB x = true) (y : Nat) : D.order x y = none ∧ D.order y x = none := ⟨(order_none x y).2 (.inl h), (order_none y x).2 (.inr h)⟩
theorem op_nan {x : Nat} (h : nanB x = true) (y : Nat) : D.add x y = none ∧ D.add y x = none ∧ D.mul x y = none ∧ D.mul y x = none ∧ D.sub x y = none ∧ D.sub y x = none ∧ D.div x y = none ∧ D.div y x = none := by
  unfold nanB at h
  unfold Format.add Format.mul Format.sub Format.div
  cases hx : D.read x with
  | nan s t =>
    cases D.read y <;> simp [Datum.sum, Datum.product, Datum.quotient, Datum.opposite]
  | infinity s => rw [hx] at h; simp [Datum.isNaN] at h
  | number s m e => rw [hx] at h; simp [Datum.isNaN] at h
/-- What is drawn for no number is none. -/
theorem drawn_nan (t : Nat) : nanB ((t % 2) * 2 ^ 63 + 0x7ff0000000000000 + 1 + (t / 2) % (2 ^ 52 - 1)) = true := by
  obtain ⟨a, ha, ha2⟩ : ∃ a, t % 2 = a ∧ a < 2 := ⟨_, rfl, Nat.mod_lt _ (by decide)⟩
  obtain ⟨b, hb, hb2⟩ : ∃ b, (t / 2) % (2 ^ 52 - 1) = b ∧ b < 4503599627370495 := ⟨_, rfl, Nat.mod_lt _ (by decide)⟩
  rw [ha, hb, show (2 : Nat) ^ 63 = 9223372036854775808 by decide]
  unfold nanB Format.read
  simp only [weight_eq, binade_eq, inf_eq]
  have hm : (a * 9223372036854775808 + 9218868437227405312 + 1 + b) % 9223372036854775808 = 9218868437227405313 + b := by
    rw [Nat.add_assoc, Nat.add_assoc, Nat.mul_comm, Nat.mul_add_mod, Nat.mod_eq_of_lt (by omega)]
    omega
  simp only [hm]
  rw [if_neg (by omega), if_neg (by omega), if_neg (by omega)]
  rfl
/-- The words, by sign and rung. -/
theorem read_pos {r : Nat} (h : r < sgn) : D.read r = if r < inf then .number false (vm r) (-1074 + (ve r : Int)) else if r = inf then .infinity false else .nan false (r - inf) := by
  by_cases h1 : r < inf
  · rw [if_pos h1, read_rung h1]
  · rw [if_neg h1]
    unfold sgn at h
    unfold inf at *
    unfold Format.read
    simp only [weight_eq, binade_eq, inf_eq, Nat.mod_eq_of_lt h, Nat.div_eq_of_lt h]
    rw [if_neg (by omega), if_neg h1]
    rfl
theorem read_neg {r : Nat} (h : r < sgn) : D.read (sgn + r) = (D.read r).opposite := by
  unfold sgn at *
  unfold Format.read
  have h1 : (9223372036854775808 + r) / 9223372036854775808 = 1 := by omega
  have h2 : (9223372036854775808 + r) % 9223372036854775808 = r := by omega
  simp only [weight_eq, h1, h2, Nat.mod_eq_of_lt h, Nat.div_eq_of_lt h]
  split
  · rfl
  · split
    · rfl
    · split <;> rfl
/-- A quotient is a rung. -/
theorem vm_pos {r : Nat} (h : 1 ≤ r) : vm r ≠ 0 := by
  unfold vm
  split
  · exact Nat.ne_of_gt h
  · exact Nat.ne_of_gt (Nat.lt_of_lt_of_le (show 0 < b52 by decide) (Nat.le_add_right _ _))
theorem ve_le {r : Nat} (h : r < inf) : ve r ≤ 2045 := by
  unfold ve
  have : r / b52 < 2047 := (Nat.div_lt_iff_lt_mul (by decide)).2 (by rw [← inf_b52]; exact h)
  omega
def moreQ (m n : Nat) : Nat := 54 + n.log2 - m.log2
def magQ (m n : Nat) : Nat := 2 * (m <<< moreQ m n / n) + (m <<< moreQ m n % n != 0).toNat
def expQ (i j a : Nat) : Nat := ((i : Int) - (j : Int) - (a : Int) - 1 + 2274).toNat
def quo (x y : Nat) : Nat := RN 1200 (magQ (vm x) (vm y) * 2 ^ expQ (ve x) (ve y) (moreQ (vm x) (vm y)))
theorem quo_core {m n : Nat} (i j : Nat) (hn : n ≠ 0) (hl : n.log2 ≤ 52) (hj : j ≤ 2045) : ((Datum.number false m (-1074 + (i : Int))).quotient 54 (.number false n (-1074 + (j : Int)))).map D.write = some (RN 1200 (magQ m n * 2 ^ expQ i j (moreQ m n))) := by
  have hmore : moreQ m n ≤ 106 := by unfold moreQ; omega
  have e1 : (Datum.number false m (-1074 + (i : Int))).quotient 54 (.number false n (-1074 + (j : Int))) = some (.number false (magQ m n) (-1074 + (i : Int) - (-1074 + (j : Int)) - (moreQ m n : Int) - 1)) := by
    unfold magQ moreQ
    simp only [Datum.quotient]
    rw [if_neg hn]
    rfl
  rw [e1, Option.map_some]
  show some (D.nearest false (magQ m n) (-1074 + (i : Int) - (-1074 + (j : Int)) - (moreQ m n : Int) - 1)) = _
  generalize magQ m n = A
  generalize moreQ m n = a at *
  rw [near_eq 1200 _ _ (by omega)]
  unfold expQ
  rw [show -1074 + (i : Int) - (-1074 + (j : Int)) - (a : Int) - 1 + (1074 + ((1200 : Nat) : Int)) = (i : Int) - (j : Int) - (a : Int) - 1 + 2274 by omega]
theorem div_rung {x y : Nat} (hx : x < inf) (hy : y < inf) (h1 : 1 ≤ y) : D.div x y = some (quo x y) := by
  have hl : (vm y).log2 ≤ 52 := log2_le (by
    have := vm_lt y
    rw [show 2 ^ (52 + 1) = 2 * b52 by decide]
    exact this)
  have h := quo_core (m := vm x) (ve x) (ve y) (vm_pos h1) hl (ve_le hy)
  unfold Format.div
  rw [read_rung hx, read_rung hy]
  exact h
theorem quo_inf (x y : Nat) : quo x y ≤ inf := RN_inf _ _
/-- The next whole number. -/
def ceilN (r : Nat) : Nat := val 0 r / 2 ^ k74 + if val 0 r % 2 ^ k74 = 0 then 0 else 1
theorem cut_up (n drop : Nat) : Toward.up.cut false n drop = n / 2 ^ drop + if n % 2 ^ drop = 0 then 0 else 1 := by
  have core : ∀ d, n / (1 <<< d) + ((!false) && n % (1 <<< d) != 0).toNat = n / 2 ^ d + if n % 2 ^ d = 0 then 0 else 1 := by
    intro d
    rw [Nat.one_shiftLeft]
    by_cases h : n % 2 ^ d = 0
    · rw [h]; rfl
    · rw [if_neg h, show (n % 2 ^ d != 0) = true from by rw [bne_iff_ne]; exact h]; rfl
  unfold Toward.cut
  simp only
  rw [core]
  rcases Nat.le_total drop (n.log2 + 2) with h | h
  · rw [Nat.min_eq_left h]
  · rw [Nat.min_eq_right h]
    have hn : n < 2 ^ (n.log2 + 1) := Nat.lt_log2_self
    have z : ∀ d, n.log2 + 2 ≤ d → n < 2 ^ d := fun d hd => Nat.lt_of_lt_of_le hn (Nat.pow_le_pow_right (by decide) (by omega))
    rw [Nat.div_eq_of_lt (z _ (Nat.le_refl _)), Nat.div_eq_of_lt (z _ h), Nat.mod_eq_of_lt (z _ (Nat.le_refl _)), Nat.mod_eq_of_lt (z _ h)]
theorem shift_mod (K m e : Nat) : (m * 2 ^ ((e : Int) - (K : Int)).toNat % 2 ^ ((K : Int) - (e : Int)).toNat = 0) ↔ (m * 2 ^ e % 2 ^ K = 0) := by
  rcases Nat.le_total e K with h | h
  · rw [show ((e : Int) - (K : Int)).toNat = 0 by omega, show ((K : Int) - (e : Int)).toNat = K - e by omega, Nat.pow_zero, Nat.mul_one]
    have : (2 : Nat) ^ K = 2 ^ (K - e) * 2 ^ e := by rw [← Nat.pow_add, Nat.sub_add_cancel h]
    rw [this, Nat.mul_mod_mul_right]
    have hp := Nat.two_pow_pos e
    constructor
    · intro h; rw [h, Nat.zero_mul]
    · intro h
      rcases Nat.mul_eq_zero.1 h with h | h
      · exact h
      · omega
  · rw [show ((K : Int) - (e : Int)).toNat = 0 by omega, Nat.pow_zero, Nat.mod_one]
    have : (2 : Nat) ^ e = 2 ^ (e - K) * 2 ^ K := by rw [← Nat.pow_add, Nat.sub_add_cancel h]
    rw [this, ← Nat.mul_assoc, Nat.mul_mod_left]
theorem ceil_eq {r : Nat} (h : r < inf) : D.write ((D.read r).integral .up) = ofN (ceilN r) := by
  rw [read_rung h]
  unfold ceilN val ofN
  rw [Nat.add_zero]
  generalize vm r = m
  generalize ve r = e
  unfold Datum.integral
  simp only [Format.write]
  rw [cut_up, Nat.shiftLeft_eq, show (-1074 + (e : Int)).toNat = ((e : Int) - (k74 : Int)).toNat from congrArg Int.toNat (Int.add_comm _ _), show (-(-1074 + (e : Int))).toNat = ((k74 : Int) - (e : Int)).toNat by rw [show (k74 : Int) = 1074 from rfl]; omega, shift_div, near_eq 0 _ 0 (by omega), show ((0 : Int) + (1074 + ((0 : Nat) : Int))).toNat = k74 from rfl]
  refine congrArg (fun c => RN 0 ((m * 2 ^ e / 2 ^ k74 + c) * 2 ^ k74)) ?_
  by_cases hz : m * 2 ^ e % 2 ^ k74 = 0
  · rw [if_pos hz, if_pos ((shift_mod k74 m e).2 hz)]
  · rw [if_neg hz, if_neg (fun hh => hz ((shift_mod k74 m e).1 hh))]
theorem ceil_inf : D.write ((D.read inf).integral .up) = inf := by decide +kernel
/-- Whether something is left over. -/
theorem left_over {r : Nat} (h : r < inf) (hf : floorN r ≤ 4294967296) : ofN (floorN r) < r ↔ val 0 r % 2 ^ k74 ≠ 0 := by
  obtain ⟨h1, h2⟩ := ofN_val hf
  have hd := Nat.div_add_mod (val 0 r) (2 ^ k74)
  have e : val 0 (ofN (floorN r)) = 2 ^ k74 * (val 0 r / 2 ^ k74) := by rw [h1, Nat.mul_comm]; rfl
  have hm := val_mono (k := 0) (Nat.le_of_lt h) (Nat.le_of_lt h2)
  rw [e] at hm
  generalize 2 ^ k74 * (val 0 r / 2 ^ k74) = A at *
  generalize val 0 r % 2 ^ k74 = B at *
  constructor
  · intro hlt hz
    rw [hz, Nat.add_zero] at hd
    have := hm.1 (Nat.le_of_eq hd.symm)
    omega
  · intro hz
    apply Decidable.byContradiction
    intro hn
    have := hm.2 (Nat.le_of_not_lt hn)
    omega
theorem ceil_floor {r : Nat} (h : r < inf) (hf : floorN r ≤ 4294967296) : ceilN r = if ofN (floorN r) < r then floorN r + 1 else floorN r := by
  unfold ceilN
  by_cases hz : val 0 r % 2 ^ k74 = 0
  · rw [if_pos hz, if_neg (fun hh => (left_over h hf).1 hh hz)]
    rfl
  · rw [if_neg hz, if_pos ((left_over h hf).2 hz)]
    rfl

end IE
end Go.Proofs.Ytfifecjnniahiaa
