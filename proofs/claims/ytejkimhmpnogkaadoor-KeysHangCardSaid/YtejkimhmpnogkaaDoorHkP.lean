/- Keys out of keys (HKDF) as plain functions. -/
import Derived.Test.YtejkimhmpnogkaaDoorSumP
namespace Go.Proofs.YtejkimhmpnogkaaDoor.HK

/-- The i-th piece (from 1 on; the 0-th is empty). -/
def piece (k info : List UInt8) : Nat → List UInt8
  | 0 => []
  | i + 1 => SM.tag k (piece k info i ++ info ++ [UInt8.ofNat (i + 1)])
theorem piece_length (k info : List UInt8) (i : Nat) : (piece k info (i + 1)).length = 32 := rfl
/-- The first n pieces, one behind the other. -/
def pieces (k info : List UInt8) : Nat → List UInt8
  | 0 => []
  | n + 1 => pieces k info n ++ piece k info (n + 1)
theorem pieces_length (k info : List UInt8) (n : Nat) : (pieces k info n).length = 32 * n := by
  induction n with
  | zero => rfl
  | succ n ih => rw [pieces, List.length_append, ih, piece_length]; omega
theorem pieces_pre (k info : List UInt8) {n m : Nat} (h : n ≤ m) : pieces k info n <+: pieces k info m := by
  obtain ⟨d, rfl⟩ : ∃ d, m = n + d := ⟨m - n, by omega⟩
  clear h
  induction d with
  | zero => exact List.prefix_refl _
  | succ d ih => exact ih.trans (List.prefix_append _ _)
theorem take_pieces (k info : List UInt8) {c n m : Nat} (hn : c ≤ 32 * n) (h : n ≤ m) : (pieces k info m).take c = (pieces k info n).take c := by
  obtain ⟨t, ht⟩ := pieces_pre k info h
  rw [← ht, List.take_append_of_le_length (by rw [pieces_length]; exact hn)]
/-- So many pieces are wanted for n bytes. -/
def need (n : Nat) : Nat := (n + 31) / 32
theorem le_need (n : Nat) : n ≤ 32 * need n := by unfold need; omega
def expand (k info : List UInt8) (n : Nat) : List UInt8 := (pieces k info (need n)).take n
theorem expand_length (k info : List UInt8) (n : Nat) : (expand k info n).length = n := by
  have := le_need n
  unfold expand; rw [List.length_take, pieces_length]; omega
theorem expand_of (k info : List UInt8) {n m : Nat} (h : need n ≤ m) : (pieces k info m).take n = expand k info n := take_pieces k info (le_need n) h
/-- Fewer bytes are the beginning of more. -/
theorem expand_take (k info : List UInt8) {n m : Nat} (h : n ≤ m) : (expand k info m).take n = expand k info n := by
  have hnm : need n ≤ need m := by unfold need; omega
  rw [← expand_of k info hnm]
  unfold expand
  rw [List.take_take, Nat.min_eq_left h]
/-- What stands beside the key, for a label. -/
def beside (label context : List UInt8) (n : UInt16) : List UInt8 :=
  [(n >>> 8).toUInt8, n.toUInt8, UInt8.ofNat (6 + label.length)] ++ ([116, 108, 115, 49, 51, 32] ++ label) ++ [UInt8.ofNat context.length] ++ context
end Go.Proofs.YtejkimhmpnogkaaDoor.HK
