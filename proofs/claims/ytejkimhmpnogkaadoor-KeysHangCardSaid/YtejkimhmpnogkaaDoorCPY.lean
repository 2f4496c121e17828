/- The builtin copy into a row of bytes that is known whole: from a slice, from a text. -/
import Derived.Test.YtejkimhmpnogkaaDoorQF
import Derived.Laws.CopyOwn
import Derived.Lib.BufferWrite
import Derived.Lib.SlBuf
namespace Go.Proofs.YtejkimhmpnogkaaDoor
open Go Go.RowKit

theorem setRow_blk {w : World} {g : Nat} {old cs : Array Value} {t : TypeId} {fr : Nat × Nat} (h : w.heap[g]? = some (.cells old t fr)) : w.setRow g cs = blk w g (.cells cs t fr) := by
  unfold World.setRow blk
  have hlt := lt_blk h
  have h' : w.heap[g] = .cells old t fr := by simpa [Array.getElem?_eq_getElem hlt] using h
  congr 1
  apply Array.ext
  · simp
  · intro i h1 h2
    simp only [Array.size_modify] at h1
    rw [Array.getElem_modify, Array.getElem_setIfInBounds]
    · split
      · rename_i hi; subst hi; simp [h']
      · rfl
section
variable {P : Program} {w : World} {ops : Array Oper} {rest : List Oper} {o : Oper} {a : Act} {Q : Exit → Act → World → Prop}
theorem wp_copy_blk (hgd : o.guard = none) (d s : Operand) (dT sT : TypeId)
    (ho : o.op = .call { callee := .builtin .copy, args := #[d, s], argTypes := #[dT, sT] }) (elem : TypeId) (hu : P.underlying dT = some (.slice elem)) (hsz : (P.info? elem).map (·.size) = some 1)
    (g off dLen dCap : Nat) (ad : Addr) (sLen sCap : Nat) (hd : a.eval d = .slice (some ⟨g, off, none⟩) dLen dCap) (hs : a.eval s = .slice (some ad) sLen sCap)
    (cur : Array Value) (t : TypeId) (hg : w.heap[g]? = some (.cells cur t (0, 0))) (cs : List Value) (hn : cs.length = Nat.min sLen dLen)
    (hsrc : ∀ j v, cs[j]? = some v → w.cell? (ad.add j) = some v) (hfit : off + cs.length ≤ cur.size) (h1 : ∀ v ∈ cs, v.oneCell' = true)
    (new : Array Value) (hnew : (cur.toList.take off ++ (cs ++ cur.toList.drop (off + cs.length))).toArray = new)
    (h : wpList P ops Q rest (a.put o.dst (goInt cs.length)) (blk w g (.cells new t (0, 0)))) : wpList P ops Q (o :: rest) a w := by
  refine wpList_copy_own hgd d s dT sT ho elem hu hsz g off dLen dCap ad sLen sCap hd hs cur t hg cs hn hsrc hfit h1 ?_
  rw [setRow_blk hg, hnew]
  exact h
/-- Bytes laid over a row from place off on. -/
def ovr (cur : Array Value) (off : Nat) (l : List UInt8) : Array Value := (cur.toList.take off ++ (u8s l ++ cur.toList.drop (off + l.length))).toArray
theorem ovr_nil (cur : Array Value) (off : Nat) : ovr cur off [] = cur := by
  unfold ovr u8s; simp
theorem ovr_size {cur : Array Value} {off : Nat} {l : List UInt8} (h : off + l.length ≤ cur.size) : (ovr cur off l).size = cur.size := by
  unfold ovr
  simp only [List.size_toArray, List.length_append, List.length_take, List.length_drop, u8s_length, Array.length_toList]; omega
theorem ovr_new {cur : Array Value} {off : Nat} {l : List UInt8} (h : off + l.length ≤ cur.size) : ((ovr cur off l).toList.drop off).take l.length = u8s l := by
  unfold ovr
  simp only []
  rw [List.drop_append_of_le_length (by simp; omega), List.drop_of_length_le (by rw [List.length_take]; omega), List.nil_append, List.take_append_of_le_length (by simp [u8s_length]), List.take_of_length_le (by simp [u8s_length])]
theorem ovr_join {cur : Array Value} {o : Nat} {l m : List UInt8} (h : o + l.length + m.length ≤ cur.size) (hl : (cur.toList.drop o).take l.length = u8s l) : ((ovr cur (o + l.length) m).toList.drop o).take (l ++ m).length = u8s (l ++ m) := by
  unfold ovr
  simp only []
  have e1 : (cur.toList.take (o + l.length)).drop o = u8s l := by rw [List.drop_take, Nat.add_sub_cancel_left]; exact hl
  rw [List.drop_append_of_le_length (by simp; omega), e1, List.length_append, ← List.append_assoc, List.take_append_of_le_length (by simp [u8s_length]), List.take_of_length_le (by simp [u8s_length]), u8s_append]
theorem u8s_one (l : List UInt8) : ∀ v ∈ u8s l, v.oneCell' = true := by
  intro v hv
  unfold u8s at hv
  simp only [List.mem_map] at hv
  obtain ⟨x, _, rfl⟩ := hv
  rfl
/-- copy from a slice of bytes; as many as fit. -/
theorem wp_copy_sl (hgd : o.guard = none) (d s : Operand) (dT sT : TypeId)
    (ho : o.op = .call { callee := .builtin .copy, args := #[d, s], argTypes := #[dT, sT] }) (hu : P.underlying dT = some (.slice 5)) (hsz : (P.info? 5).map (·.size) = some 1)
    (dp sp : Option Addr) (dLen dCap sLen sCap : Nat) (hd : a.eval d = .slice dp dLen dCap) (hs : a.eval s = .slice sp sLen sCap)
    (g off : Nat) (cur : Array Value) (hg : w.heap[g]? = some (.cells cur 5 (0, 0))) (l : List UInt8) (hn : l.length = Nat.min sLen dLen)
    (hpos : 0 < l.length → dp = some ⟨g, off, none⟩ ∧ ∃ g' o', sp = some ⟨g', o', none⟩ ∧ ∀ j, j < l.length → w.cell? ⟨g', o' + j, none⟩ = some (.int .u8 ((l.getD j 0).toNat : Int))) (hfit : off + l.length ≤ cur.size)
    (h : wpList P ops Q rest (a.put o.dst (.int .i64 (l.length : Int))) (blk w g (.cells (ovr cur off l) 5 (0, 0)))) : wpList P ops Q (o :: rest) a w := by
  by_cases h0 : l.length = 0
  · obtain rfl : l = [] := List.eq_nil_of_length_eq_zero h0
    rw [ovr_nil, blk_self hg] at h
    exact wpList_copy_nothing hgd d s dT sT ho 5 hu hsz dp sp dLen dCap sLen sCap hd hs (by simpa using hn.symm) h
  · obtain ⟨rfl, g', o', rfl, hsrc⟩ := hpos (by omega)
    refine wp_copy_blk hgd d s dT sT ho 5 hu hsz g off dLen dCap ⟨g', o', none⟩ sLen sCap hd hs cur 5 hg (u8s l) (by rw [u8s_length]; exact hn) (fun j v hv => ?_) (by rw [u8s_length]; exact hfit) (u8s_one l) (ovr cur off l) (by rw [u8s_length]; rfl) (by rw [u8s_length]; exact h)
    have hj : j < l.length := by have := (List.getElem?_eq_some_iff.1 hv).1; rwa [u8s_length] at this
    rw [Addr.add_mid, hsrc j hj, ← hv]
    unfold u8s
    simp [hj]
/-- copy from a text that fits. -/
theorem wp_copy_str (hgd : o.guard = none) (d s : Operand) (dT sT : TypeId)
    (ho : o.op = .call { callee := .builtin .copy, args := #[d, s], argTypes := #[dT, sT] }) (hu : P.underlying dT = some (.slice 5)) (hsz : (P.info? 5).map (·.size) = some 1)
    (dp : Option Addr) (dLen dCap : Nat) (t : ByteArray) (hd : a.eval d = .slice dp dLen dCap) (hs : a.eval s = .string t)
    (g off : Nat) (cur : Array Value) (hg : w.heap[g]? = some (.cells cur 5 (0, 0))) (hle : t.size ≤ dLen)
    (hpos : 0 < t.size → dp = some ⟨g, off, none⟩) (hfit : off + t.size ≤ cur.size)
    (h : wpList P ops Q rest (a.put o.dst (.int .i64 (t.size : Int))) (blk w g (.cells (ovr cur off t.data.toList) 5 (0, 0)))) : wpList P ops Q (o :: rest) a w := by
  have hl : t.data.toList.length = t.size := by simp
  by_cases h0 : t.size = 0
  · have hnil : t.data.toList = [] := List.eq_nil_of_length_eq_zero (by rw [hl, h0])
    rw [hnil, ovr_nil, blk_self hg, h0] at h
    exact Lib.wpList_copy_run w hgd d s dT sT ho _ _ hd hs (Lib.run_copy_empty_string w dT sT o.type 5 dp dLen dCap t hu (by cases hq : P.info? 5 with | none => simp [hq] at hsz | some i => rfl) h0) h
  · obtain rfl := hpos (by omega)
    have hr := Lib.run_copy_row_string (P := P) w dT sT o.type 5 g off dLen dCap t cur 5 hu hsz hg hle hfit
    rw [setRow_blk hg] at hr
    have e : (cur.toList.take off ++ Lib.byteCells t.data.toList ++ cur.toList.drop (off + t.size)).toArray = ovr cur off t.data.toList := by
      unfold ovr
      rw [hl, List.append_assoc]
      rfl
    rw [e] at hr
    exact Lib.wpList_copy_run w hgd d s dT sT ho _ _ hd hs hr h
end

end Go.Proofs.YtejkimhmpnogkaaDoor
