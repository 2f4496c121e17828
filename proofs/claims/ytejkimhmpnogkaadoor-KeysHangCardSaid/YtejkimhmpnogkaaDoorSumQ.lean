/- Plain lemmas on the digest's lists. -/
import Derived.Test.YtejkimhmpnogkaaDoorSumP
namespace Go.Proofs.YtejkimhmpnogkaaDoor
open SM

/-- The words of a block, of which i bytes were read. -/
def mld (bl : List UInt8) (i : Nat) : List UInt32 := (List.range 64).map fun j => be (((bl.take i).drop (4 * j)).take 4)
theorem mld_length (bl : List UInt8) (i : Nat) : (mld bl i).length = 64 := by simp [mld]
theorem mld_getD (bl : List UInt8) (i : Nat) {j : Nat} (h : j < 64) : (mld bl i).getD j 0 = be (((bl.take i).drop (4 * j)).take 4) := by simp [mld, h]
theorem mld_zero (bl : List UInt8) : mld bl 0 = List.replicate 64 0 := by
  apply List.ext_getElem
  · simp [mld]
  · intro j h1 h2
    rw [List.getElem_replicate]
    simp [mld, be]
theorem mdnil {α : Type} {l : List α} {k : Nat} (h : l.length ≤ k) : l.drop k = [] := List.drop_eq_nil_of_le h
theorem mtk4 {α : Type} {X : List α} (c : α) (h : X.length < 4) : (X ++ [c]).take 4 = X.take 4 ++ [c] := by
  rw [List.take_of_length_le (by simp; omega), List.take_of_length_le (by omega)]
theorem mbe_snoc (l : List UInt8) (c : UInt8) : be (l ++ [c]) = (be l <<< 8) ||| c.toUInt32 := by simp [be]
theorem mld_step (bl : List UInt8) (i : Nat) (hb : i < bl.length) (hi : i < 64) : mld bl (i + 1) = (mld bl i).set (i / 4) (((mld bl i).getD (i / 4) 0 <<< 8) ||| (bl.getD i 0).toUInt32) := by
  rw [mld_getD bl i (by omega), ← mbe_snoc]
  apply List.ext_getElem
  · simp [mld]
  · intro j h1 h2
    have hj : j < 64 := by simpa [mld] using h1
    rw [List.getElem_set]
    have e1 : (mld bl (i + 1))[j]'h1 = be (((bl.take (i + 1)).drop (4 * j)).take 4) := by simp [mld]
    have ht : bl.take (i + 1) = bl.take i ++ [bl.getD i 0] := by rw [List.take_succ_eq_append_getElem hb]; simp [hb]
    have hlen : (bl.take i).length = i := by rw [List.length_take]; omega
    rw [e1, ht]
    split
    · rename_i hij
      subst hij
      congr 1
      rw [List.drop_append_of_le_length (by omega), mtk4 _ (by rw [List.length_drop]; omega)]
    · rename_i hij
      have e2 : (mld bl i)[j]'(by simp [mld]; exact hj) = be (((bl.take i).drop (4 * j)).take 4) := by simp [mld]
      rw [e2]
      congr 1
      rcases Nat.lt_or_ge i (4 * j) with h | h
      · rw [mdnil (l := bl.take i ++ [bl.getD i 0]) (by simp; omega), mdnil (l := bl.take i) (by omega)]
      · rw [List.drop_append_of_le_length (by omega), List.take_append_of_le_length (by rw [List.length_drop]; omega)]
theorem mld_end (bl : List UInt8) (hb : bl.length = 64) : mld bl 64 = words bl 16 ++ List.replicate 48 0 := by
  apply List.ext_getElem
  · simp [mld, words]
  · intro j h1 h2
    have hj : j < 64 := by simpa [mld] using h1
    rw [List.getElem_append]
    have e1 : (mld bl 64)[j]'h1 = be (((bl.take 64).drop (4 * j)).take 4) := by simp [mld]
    rw [e1, List.take_of_length_le (l := bl) (by omega)]
    split
    · simp [words]
    · rename_i h
      have : 16 ≤ j := by simpa [words] using h
      rw [mdnil (by omega), List.getElem_replicate]
      simp [be]
theorem mwords_length (bl : List UInt8) (n : Nat) : (words bl n).length = n := by simp [words]

def mwordOf (a b c d : UInt32) : UInt32 := a + s0 b + c + s1 d
/-- The row while it grows. -/
def mgr (W : List UInt32) (n : Nat) : List UInt32 := ext n W ++ List.replicate (48 - n) 0
theorem mgr_length {W : List UInt32} (hW : W.length = 16) {n : Nat} (h : n ≤ 48) : (mgr W n).length = 64 := by
  unfold mgr; rw [List.length_append, ext_length, List.length_replicate]; omega
theorem mgr_step {W : List UInt32} (hW : W.length = 16) {n i : Nat} (h : n < 48) (hi : i = 16 + n) :
    (mgr W n).set i (mwordOf ((mgr W n).getD (i - 16) 0) ((mgr W n).getD (i - 15) 0) ((mgr W n).getD (i - 7) 0) ((mgr W n).getD (i - 2) 0)) = mgr W (n + 1) := by
  subst hi
  have hl : (ext n W).length = 16 + n := by rw [ext_length, hW]
  have g : ∀ k, k < 16 + n → (mgr W n).getD k 0 = (ext n W).getD k 0 := fun k hk => by
    unfold mgr
    simp [List.getElem?_append, hl, hk]
  rw [g _ (by omega), g _ (by omega), g _ (by omega), g _ (by omega)]
  have hw : mwordOf ((ext n W).getD (16 + n - 16) 0) ((ext n W).getD (16 + n - 15) 0) ((ext n W).getD (16 + n - 7) 0) ((ext n W).getD (16 + n - 2) 0) = word (ext n W) := by
    unfold mwordOf word; rw [hl]
  rw [hw]
  unfold mgr
  rw [ext, List.append_assoc, ← hl, List.set_append_right _ _ (Nat.le_refl _), Nat.sub_self, show 48 - n = (48 - (n + 1)) + 1 by omega, List.replicate_succ, List.set_cons_zero]
  rfl

/-- One after the other of a row is put anew. -/
theorem mput_len {α : Type} {A B : List α} (h : A.length = B.length) (i : Nat) : (A.take i ++ B.drop i).length = A.length := by
  rw [List.length_append, List.length_take, List.length_drop]; omega
theorem mput_get {A B : List UInt32} (h : A.length = B.length) {i : Nat} (hi : i < A.length) : (A.take i ++ B.drop i).getD i 0 = B.getD i 0 := by
  have : (A.take i).length = i := by rw [List.length_take]; omega
  simp [List.getElem?_append, this, List.getElem?_drop]
theorem mput_step {A B : List UInt32} (h : A.length = B.length) {i : Nat} (hi : i < A.length) : (A.take i ++ B.drop i).set i (A.getD i 0) = A.take (i + 1) ++ B.drop (i + 1) := by
  have h1 : (A.take i).length = i := by rw [List.length_take]; omega
  rw [List.set_append_right _ _ (by omega), h1, Nat.sub_self, List.drop_eq_getElem_cons (by omega), List.set_cons_zero, List.take_succ_eq_append_getElem hi, List.append_assoc]
  simp [hi]

/-- Eight words in a list. -/
def mstl (x : St) : List UInt32 := [x.a, x.b, x.c, x.d, x.e, x.f, x.g, x.h]
theorem mstl_plus (x y : St) : List.zipWith (· + ·) (mstl x) (mstl y) = mstl (plus x y) := rfl
theorem mzip_get {A B : List UInt32} {i : Nat} (h : i < A.length) (hB : i < B.length) : (List.zipWith (· + ·) A B).getD i 0 = A.getD i 0 + B.getD i 0 := by
  simp [List.getElem?_zipWith, h, hB]

end Go.Proofs.YtejkimhmpnogkaaDoor
