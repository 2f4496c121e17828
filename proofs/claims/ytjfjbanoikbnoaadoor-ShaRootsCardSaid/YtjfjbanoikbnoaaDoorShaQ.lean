/- Plain lemmas on the digest's lists. -/
import Derived.Test.YtjfjbanoikbnoaaDoorShaP
namespace Go.Proofs.YtjfjbanoikbnoaaDoor
open SH

/-- The words of a block, of which i bytes were read. -/
def ld (bl : List UInt8) (i : Nat) : List UInt64 := (List.range 80).map fun j => be (((bl.take i).drop (8 * j)).take 8)
theorem ld_length (bl : List UInt8) (i : Nat) : (ld bl i).length = 80 := by simp [ld]
theorem ld_getD (bl : List UInt8) (i : Nat) {j : Nat} (h : j < 80) : (ld bl i).getD j 0 = be (((bl.take i).drop (8 * j)).take 8) := by simp [ld, h]
theorem ld_zero (bl : List UInt8) : ld bl 0 = List.replicate 80 0 := by
  apply List.ext_getElem
  · simp [ld]
  · intro j h1 h2
    rw [List.getElem_replicate]
    simp [ld, be]
theorem dnil {α : Type} {l : List α} {k : Nat} (h : l.length ≤ k) : l.drop k = [] := List.drop_eq_nil_of_le h
theorem tk8 {α : Type} {X : List α} (c : α) (h : X.length < 8) : (X ++ [c]).take 8 = X.take 8 ++ [c] := by
  rw [List.take_of_length_le (by simp; omega), List.take_of_length_le (by omega)]
theorem be_snoc (l : List UInt8) (c : UInt8) : be (l ++ [c]) = (be l <<< 8) ||| c.toUInt64 := by simp [be]
theorem ld_step (bl : List UInt8) (i : Nat) (hb : i < bl.length) (hi : i < 128) : ld bl (i + 1) = (ld bl i).set (i / 8) (((ld bl i).getD (i / 8) 0 <<< 8) ||| (bl.getD i 0).toUInt64) := by
  rw [ld_getD bl i (by omega), ← be_snoc]
  apply List.ext_getElem
  · simp [ld]
  · intro j h1 h2
    have hj : j < 80 := by simpa [ld] using h1
    rw [List.getElem_set]
    have e1 : (ld bl (i + 1))[j]'h1 = be (((bl.take (i + 1)).drop (8 * j)).take 8) := by simp [ld]
    have ht : bl.take (i + 1) = bl.take i ++ [bl.getD i 0] := by rw [List.take_succ_eq_append_getElem hb]; simp [hb]
    have hlen : (bl.take i).length = i := by rw [List.length_take]; omega
    rw [e1, ht]
    split
    · rename_i hij
      subst hij
      congr 1
      rw [List.drop_append_of_le_length (by omega), tk8 _ (by rw [List.length_drop]; omega)]
    · rename_i hij
      have e2 : (ld bl i)[j]'(by simp [ld]; exact hj) = be (((bl.take i).drop (8 * j)).take 8) := by simp [ld]
      rw [e2]
      congr 1
      rcases Nat.lt_or_ge i (8 * j) with h | h
      · rw [dnil (l := bl.take i ++ [bl.getD i 0]) (by simp; omega), dnil (l := bl.take i) (by omega)]
      · rw [List.drop_append_of_le_length (by omega), List.take_append_of_le_length (by rw [List.length_drop]; omega)]
theorem ld_end (bl : List UInt8) (hb : bl.length = 128) : ld bl 128 = words bl 16 ++ List.replicate 64 0 := by
  apply List.ext_getElem
  · simp [ld, words]
  · intro j h1 h2
    have hj : j < 80 := by simpa [ld] using h1
    rw [List.getElem_append]
    have e1 : (ld bl 128)[j]'h1 = be (((bl.take 128).drop (8 * j)).take 8) := by simp [ld]
    rw [e1, List.take_of_length_le (l := bl) (by omega)]
    split
    · simp [words]
    · rename_i h
      have : 16 ≤ j := by simpa [words] using h
      rw [dnil (by omega), List.getElem_replicate]
      simp [be]
theorem words_length (bl : List UInt8) (n : Nat) : (words bl n).length = n := by simp [words]

def wordOf (a b c d : UInt64) : UInt64 := a + s0 b + c + s1 d
/-- The row while it grows. -/
def gr (W : List UInt64) (n : Nat) : List UInt64 := ext n W ++ List.replicate (64 - n) 0
theorem gr_length {W : List UInt64} (hW : W.length = 16) {n : Nat} (h : n ≤ 64) : (gr W n).length = 80 := by
  unfold gr; rw [List.length_append, ext_length, List.length_replicate]; omega
theorem gr_step {W : List UInt64} (hW : W.length = 16) {n i : Nat} (h : n < 64) (hi : i = 16 + n) :
    (gr W n).set i (wordOf ((gr W n).getD (i - 16) 0) ((gr W n).getD (i - 15) 0) ((gr W n).getD (i - 7) 0) ((gr W n).getD (i - 2) 0)) = gr W (n + 1) := by
  subst hi
  have hl : (ext n W).length = 16 + n := by rw [ext_length, hW]
  have g : ∀ k, k < 16 + n → (gr W n).getD k 0 = (ext n W).getD k 0 := fun k hk => by
    unfold gr
    simp [List.getElem?_append, hl, hk]
  rw [g _ (by omega), g _ (by omega), g _ (by omega), g _ (by omega)]
  have hw : wordOf ((ext n W).getD (16 + n - 16) 0) ((ext n W).getD (16 + n - 15) 0) ((ext n W).getD (16 + n - 7) 0) ((ext n W).getD (16 + n - 2) 0) = word (ext n W) := by
    unfold wordOf word; rw [hl]
  rw [hw]
  unfold gr
  rw [ext, List.append_assoc, ← hl, List.set_append_right _ _ (Nat.le_refl _), Nat.sub_self, show 64 - n = (64 - (n + 1)) + 1 by omega, List.replicate_succ, List.set_cons_zero]
  rfl

/-- One after the other of a row is put anew. -/
theorem put_len {α : Type} {A B : List α} (h : A.length = B.length) (i : Nat) : (A.take i ++ B.drop i).length = A.length := by
  rw [List.length_append, List.length_take, List.length_drop]; omega
theorem put_get {A B : List UInt64} (h : A.length = B.length) {i : Nat} (hi : i < A.length) : (A.take i ++ B.drop i).getD i 0 = B.getD i 0 := by
  have : (A.take i).length = i := by rw [List.length_take]; omega
  simp [List.getElem?_append, this, List.getElem?_drop]
theorem put_step {A B : List UInt64} (h : A.length = B.length) {i : Nat} (hi : i < A.length) : (A.take i ++ B.drop i).set i (A.getD i 0) = A.take (i + 1) ++ B.drop (i + 1) := by
  have h1 : (A.take i).length = i := by rw [List.length_take]; omega
  rw [List.set_append_right _ _ (by omega), h1, Nat.sub_self, List.drop_eq_getElem_cons (by omega), List.set_cons_zero, List.take_succ_eq_append_getElem hi, List.append_assoc]
  simp [hi]

/-- Eight words in a list. -/
def stl (x : St) : List UInt64 := [x.a, x.b, x.c, x.d, x.e, x.f, x.g, x.h]
theorem stl_plus (x y : St) : List.zipWith (· + ·) (stl x) (stl y) = stl (plus x y) := rfl
theorem zip_get {A B : List UInt64} {i : Nat} (h : i < A.length) (hB : i < B.length) : (List.zipWith (· + ·) A B).getD i 0 = A.getD i 0 + B.getD i 0 := by
  simp [List.getElem?_zipWith, h, hB]

end Go.Proofs.YtjfjbanoikbnoaaDoor
