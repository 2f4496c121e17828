/- Montgomery's ladder in memory: five numbers in one block; loads and stores of its parts. Montgomery's ladder: swap. Montgomery's ladder: a step. Plain laws of rows of bytes: which is less, differences, sums with carries. -/
import Derived.Test.YtceljjnohjnepaaM10
import Derived.Test.YtceljjnohjnepaaM15
import Derived.Test.YtceljjnohjnepaaM16
import Derived.Test.YtceljjnohjnepaaM02
import Derived.Test.YtceljjnohjnepaaM13
namespace Go.Proofs.Ytceljjnohjnepaa
open Go Go.RowKit DG

/-- The ladder's block. -/
def ldr (s : Ld) (u : Nat) : Array Value := quad s.lx ++ quad s.lz ++ quad s.hx ++ quad s.hz ++ quad u
def poi (x z : Nat) : Array Value := quad x ++ quad z
set_option maxRecDepth 100000 in
@[go_sem] theorem poi_size (x z : Nat) : (poi x z).size = 8 := by unfold poi; simp only [Array.size_append, quad_size]
set_option maxRecDepth 100000 in
@[go_sem] theorem poi_one (x z : Nat) : ones (poi x z) = true := by unfold poi; rw [ones_append, quad_one, quad_one]; rfl
/-- A part of a row is written. -/
def putM (c : Array Value) (off : Nat) (v : Array Value) : Array Value := c.extract 0 off ++ v ++ c.extract (off + v.size) c.size
set_option maxRecDepth 100000 in
theorem putM_at (A B C V : Array Value) (i : Nat) (hA : A.size = i) (hB : B.size = V.size) : putM (A ++ B ++ C) i V = A ++ V ++ C := by
  subst hA
  unfold putM
  have h1 : (A ++ B ++ C).extract 0 A.size = A := by
    have h := ext_at #[] A (B ++ C) 0 A.size rfl rfl
    rw [Array.empty_append, ← Array.append_assoc, Nat.zero_add] at h
    exact h
  have h2 : (A ++ B ++ C).extract (A.size + V.size) (A ++ B ++ C).size = C := by
    have h := ext_at (A ++ B) C #[] (A.size + V.size) C.size (by rw [Array.size_append, hB]) rfl
    rw [Array.append_empty] at h
    rw [show (A ++ B ++ C).size = A.size + V.size + C.size by rw [Array.size_append, Array.size_append, hB]]
    exact h
  rw [h1, h2]
section
variable (s : Ld) (u v z : Nat)
set_option maxRecDepth 100000 in
@[go_sem] theorem ldr_size : (ldr s u).size = 20 := by unfold ldr; simp only [Array.size_append, quad_size]
set_option maxRecDepth 100000 in
@[go_sem] theorem ldr_lx : (ldr s u).extract 0 4 = quad s.lx := by
  have e : ldr s u = #[] ++ quad s.lx ++ (quad s.lz ++ (quad s.hx ++ (quad s.hz ++ quad u))) := by unfold ldr; simp only [Array.append_assoc, Array.empty_append]
  rw [e]; exact ext_at _ _ _ 0 4 rfl (quad_size _)
set_option maxRecDepth 100000 in
@[go_sem] theorem ldr_lz : (ldr s u).extract 4 8 = quad s.lz := by
  have e : ldr s u = quad s.lx ++ quad s.lz ++ (quad s.hx ++ (quad s.hz ++ quad u)) := by unfold ldr; simp only [Array.append_assoc]
  rw [e]; exact ext_at _ _ _ 4 4 (quad_size _) (quad_size _)
set_option maxRecDepth 100000 in
@[go_sem] theorem ldr_hx : (ldr s u).extract 8 12 = quad s.hx := by
  have e : ldr s u = (quad s.lx ++ quad s.lz) ++ quad s.hx ++ (quad s.hz ++ quad u) := by unfold ldr; simp only [Array.append_assoc]
  rw [e]; exact ext_at _ _ _ 8 4 (by simp only [Array.size_append, quad_size]) (quad_size _)
set_option maxRecDepth 100000 in
@[go_sem] theorem ldr_hz : (ldr s u).extract 12 16 = quad s.hz := by
  have e : ldr s u = (quad s.lx ++ (quad s.lz ++ quad s.hx)) ++ quad s.hz ++ quad u := by unfold ldr; simp only [Array.append_assoc]
  rw [e]; exact ext_at _ _ _ 12 4 (by simp only [Array.size_append, quad_size]) (quad_size _)
set_option maxRecDepth 100000 in
@[go_sem] theorem ldr_u : (ldr s u).extract 16 20 = quad u := by
  have e : ldr s u = (quad s.lx ++ (quad s.lz ++ (quad s.hx ++ quad s.hz))) ++ quad u ++ #[] := by unfold ldr; simp only [Array.append_assoc, Array.append_empty]
  rw [e]; exact ext_at _ _ _ 16 4 (by simp only [Array.size_append, quad_size]) (quad_size _)
set_option maxRecDepth 100000 in
@[go_sem] theorem put_lx : putM (ldr s u) 0 (quad v) = ldr { s with lx := v } u := by
  have e : ∀ s : Ld, ldr s u = #[] ++ quad s.lx ++ (quad s.lz ++ (quad s.hx ++ (quad s.hz ++ quad u))) := fun s => by unfold ldr; simp only [Array.append_assoc, Array.empty_append]
  rw [e, e]; exact putM_at _ _ _ _ 0 rfl (by rw [quad_size, quad_size])
set_option maxRecDepth 100000 in
@[go_sem] theorem put_lz : putM (ldr s u) 4 (quad v) = ldr { s with lz := v } u := by
  have e : ∀ s : Ld, ldr s u = quad s.lx ++ quad s.lz ++ (quad s.hx ++ (quad s.hz ++ quad u)) := fun s => by unfold ldr; simp only [Array.append_assoc]
  rw [e, e]; exact putM_at _ _ _ _ 4 (quad_size _) (by rw [quad_size, quad_size])
set_option maxRecDepth 100000 in
@[go_sem] theorem put_hx : putM (ldr s u) 8 (quad v) = ldr { s with hx := v } u := by
  have e : ∀ s : Ld, ldr s u = (quad s.lx ++ quad s.lz) ++ quad s.hx ++ (quad s.hz ++ quad u) := fun s => by unfold ldr; simp only [Array.append_assoc]
  rw [e, e]; exact putM_at _ _ _ _ 8 (by simp only [Array.size_append, quad_size]) (by rw [quad_size, quad_size])
set_option maxRecDepth 100000 in
@[go_sem] theorem put_hz : putM (ldr s u) 12 (quad v) = ldr { s with hz := v } u := by
  have e : ∀ s : Ld, ldr s u = (quad s.lx ++ (quad s.lz ++ quad s.hx)) ++ quad s.hz ++ quad u := fun s => by unfold ldr; simp only [Array.append_assoc]
  rw [e, e]; exact putM_at _ _ _ _ 12 (by simp only [Array.size_append, quad_size]) (by rw [quad_size, quad_size])
set_option maxRecDepth 100000 in
@[go_sem] theorem put_low : putM (ldr s u) 0 (poi v z) = ldr { s with lx := v, lz := z } u := by
  have e : ∀ s : Ld, ldr s u = #[] ++ poi s.lx s.lz ++ (quad s.hx ++ (quad s.hz ++ quad u)) := fun s => by unfold ldr poi; simp only [Array.append_assoc, Array.empty_append]
  rw [e, e]; exact putM_at _ _ _ _ 0 rfl (by rw [poi_size, poi_size])
set_option maxRecDepth 100000 in
@[go_sem] theorem put_high : putM (ldr s u) 8 (poi v z) = ldr { s with hx := v, hz := z } u := by
  have e : ∀ s : Ld, ldr s u = (quad s.lx ++ quad s.lz) ++ poi s.hx s.hz ++ quad u := fun s => by unfold ldr poi; simp only [Array.append_assoc]
  rw [e, e]; exact putM_at _ _ _ _ 8 (by simp only [Array.size_append, quad_size]) (by rw [poi_size, poi_size])
set_option maxRecDepth 100000 in
@[go_sem] theorem put_all (a : Nat) : putM (quad a) 0 (quad v) = quad v := by
  have := putM_at #[] (quad a) #[] (quad v) 0 rfl (by rw [quad_size, quad_size])
  simpa using this
set_option maxRecDepth 100000 in
@[go_sem] theorem ldr_one : ones (ldr s u) = true := by
  unfold ldr
  simp only [ones_append, quad_one, Bool.true_and]
end
def stuckT (P : Program) (t : TypeId) (b off : Nat) (v : Value) (w : World) : Result Unit := (storeRow t (.pointer (some ⟨b, off, none⟩)) v).run P w
set_option maxRecDepth 100000 in
theorem store_mid {P : Program} {w : World} {b off n : Nat} {t T : TypeId} {c c' : Array Value} (h : hget w b = some (.cells c T (0, 0))) (hi : (P.info? t).map (·.size) = some n) (hle : off + n ≤ c.size) (hc : c'.size = n) (h1 : ones c' = true) :
    (storeRow t (.pointer (some ⟨b, off, none⟩)) (.agg c')).run P w = .ok () (blk w b (.cells (putM c off c') T (0, 0))) := by
  have ht : w.there b off c'.size := fun j hj => by
    rw [cell_at (show w.heap[b]? = _ from h), free_at (show w.heap[b]? = _ from h)]
    simp; omega
  have h2 := run_storeAt_mid (P := P) w b off t c' ht (by rw [hi, hc]) (ones_all h1)
  have e : c = ((c.extract 0 off).toList ++ (c.extract off (off + n)).toList ++ (c.extract (off + n) c.size).toList).toArray := by
    apply Array.ext'
    simp only [Array.toList_extract, List.extract_eq_take_drop]
    rw [List.append_assoc]
    have h3 : List.take (c.size - (off + n)) (List.drop (off + n) c.toList) = List.drop (off + n) c.toList := List.take_of_length_le (by simp)
    rw [h3]
    have h4 : List.drop (off + n) c.toList = List.drop n (List.drop off c.toList) := by rw [List.drop_drop]
    rw [h4, show off + n - off = n by omega, List.take_append_drop]
    simp
  have hx : w.heap[b]? = some (.cells ((c.extract 0 off).toList ++ (c.extract off (off + n)).toList ++ (c.extract (off + n) c.size).toList).toArray T (0, 0)) := by rw [← e]; exact h
  have h5 := setCells_row c'.toList w b _ _ _ T (0, 0) hx (by simp; omega)
  have hl : (c.extract 0 off).toList.length = off := by simp; omega
  rw [hl] at h5
  rw [show (storeRow t (.pointer (some ⟨b, off, none⟩)) (.agg c')).run P w = (Instr.storeAt t (.pointer (some ⟨b, off, none⟩)) (.agg c')).run P w from rfl, h2, h5]
  congr 3
  unfold putM
  apply Array.ext'
  simp [hc]
set_option maxRecDepth 100000 in
theorem storeMid_run {P : Program} {n : Nat} {t : TypeId} (hi : (P.info? t).map (·.size) = some n) (b off : Nat) (c' : Array Value) (w : World) :
    (storeRow t (.pointer (some ⟨b, off, none⟩)) (.agg c')).run P w = match hget w b with | some (.cells c T (0, 0)) => if off + n ≤ c.size then (if c'.size = n then (if ones c' = true then .ok () (blk w b (.cells (putM c off c') T (0, 0))) else stuckT P t b off (.agg c') w) else stuckT P t b off (.agg c') w) else stuckT P t b off (.agg c') w | _ => stuckT P t b off (.agg c') w := by
  split
  · rename_i c T h
    split
    · rename_i hs
      split
      · rename_i hs'
        split
        · rename_i h1; exact store_mid h hi hs hs' h1
        · rfl
      · rfl
    · rfl
  · rfl
set_option maxRecDepth 100000 in
theorem info_Pnt : (Try.prog.info? 105).map (·.size) = some 8 := by kernel_rfl
       theorem exl_Pnt {r : Operand → Value} {dst : Option Nat} {x : Operand} {t : TypeId} {pos : String} {af : Array Edge} {g : Option (Nat × Bool)} : execOp r ⟨dst, .load 105 x, t, pos, af, g⟩ = (do let v ← loadRow 105 (r x); pure (Next.value v)) := rfl
       theorem exs_Pnt {r : Operand → Value} {dst : Option Nat} {x y : Operand} {t : TypeId} {pos : String} {af : Array Edge} {g : Option (Nat × Bool)} : execOp r ⟨dst, .store 105 x y, t, pos, af, g⟩ = (do storeRow 105 (r x) (r y); pure Next.skip) := rfl
       theorem ldr_Pnt (b : Nat) (w : World) : (loadRow 105 (.pointer (some ⟨b, 0, none⟩))).run Try.prog w = match hget w b with | some (.cells c _ _) => if c.size = 8 then .ok (.agg c) w else stuckL Try.prog 105 b w | _ => stuckL Try.prog 105 b w := loadRow_run Try.underlying105 rfl info_Pnt b w
       theorem str_Pnt (b : Nat) (c' : Array Value) (w : World) : (storeRow 105 (.pointer (some ⟨b, 0, none⟩)) (.agg c')).run Try.prog w = match hget w b with | some (.cells c T (0, 0)) => if c.size = 8 then (if c'.size = 8 then (if ones c' = true then .ok () (blk w b (.cells c' T (0, 0))) else stuckS Try.prog 105 b (.agg c') w) else stuckS Try.prog 105 b (.agg c') w) else stuckS Try.prog 105 b (.agg c') w | _ => stuckS Try.prog 105 b (.agg c') w := storeRow_run info_Pnt b c' w
set_option maxRecDepth 100000 in
theorem info_Lad : (Try.prog.info? 107).map (·.size) = some 20 := by kernel_rfl
                                                                                                                                                                                                                                                                                                                                                                                                                                                                                                       theorem exl_Lad {r : Operand → Value} {dst : Option Nat} {x : Operand} {t : TypeId} {pos : String} {af : Array Edge} {g : Option (Nat × Bool)} : execOp r ⟨dst, .load 107 x, t, pos, af, g⟩ = (do let v ← loadRow 107 (r x); pure (Next.value v)) := rfl
                                                                                                                                                                                                                                                                                                                                                                                                                                                                                                       theorem exs_Lad {r : Operand → Value} {dst : Option Nat} {x y : Operand} {t : TypeId} {pos : String} {af : Array Edge} {g : Option (Nat × Bool)} : execOp r ⟨dst, .store 107 x y, t, pos, af, g⟩ = (do storeRow 107 (r x) (r y); pure Next.skip) := rfl
                                                                                                                                                                                                                                                                                                                                                                                                                                                                                                       theorem ldr_Lad (b : Nat) (w : World) : (loadRow 107 (.pointer (some ⟨b, 0, none⟩))).run Try.prog w = match hget w b with | some (.cells c _ _) => if c.size = 20 then .ok (.agg c) w else stuckL Try.prog 107 b w | _ => stuckL Try.prog 107 b w := loadRow_run Try.underlying107 rfl info_Lad b w
                                                                                                                                                                                                                                                                                                                                                                                                                                                                                                       theorem str_Lad (b : Nat) (c' : Array Value) (w : World) : (storeRow 107 (.pointer (some ⟨b, 0, none⟩)) (.agg c')).run Try.prog w = match hget w b with | some (.cells c T (0, 0)) => if c.size = 20 then (if c'.size = 20 then (if ones c' = true then .ok () (blk w b (.cells c' T (0, 0))) else stuckS Try.prog 107 b (.agg c') w) else stuckS Try.prog 107 b (.agg c') w) else stuckS Try.prog 107 b (.agg c') w | _ => stuckS Try.prog 107 b (.agg c') w := storeRow_run info_Lad b c' w
set_option maxRecDepth 100000 in
theorem stm_Elem (b off : Nat) (c' : Array Value) (w : World) : (storeRow 40 (.pointer (some ⟨b, off, none⟩)) (.agg c')).run Try.prog w = match hget w b with | some (.cells c T (0, 0)) => if off + 4 ≤ c.size then (if c'.size = 4 then (if ones c' = true then .ok () (blk w b (.cells (putM c off c') T (0, 0))) else stuckT Try.prog 40 b off (.agg c') w) else stuckT Try.prog 40 b off (.agg c') w) else stuckT Try.prog 40 b off (.agg c') w | _ => stuckT Try.prog 40 b off (.agg c') w := storeMid_run info_Elem b off c' w
set_option maxRecDepth 100000 in
theorem stm_Pnt (b off : Nat) (c' : Array Value) (w : World) : (storeRow 105 (.pointer (some ⟨b, off, none⟩)) (.agg c')).run Try.prog w = match hget w b with | some (.cells c T (0, 0)) => if off + 8 ≤ c.size then (if c'.size = 8 then (if ones c' = true then .ok () (blk w b (.cells (putM c off c') T (0, 0))) else stuckT Try.prog 105 b off (.agg c') w) else stuckT Try.prog 105 b off (.agg c') w) else stuckT Try.prog 105 b off (.agg c') w | _ => stuckT Try.prog 105 b off (.agg c') w := storeMid_run info_Pnt b off c' w

end Go.Proofs.Ytceljjnohjnepaa

namespace Go.Proofs.Ytceljjnohjnepaa
open Go Go.RowKit DG

/-- Two pointers. -/
abbrev ptr (L o : Nat) : Value := .pointer (some ⟨L, o, none⟩)
def prR (L i j : Nat) : Array Value := #[ptr L i, ptr L j]
set_option maxRecDepth 100000 in
@[go_sem] theorem prR_size (L i j : Nat) : (prR L i j).size = 2 := rfl
set_option maxRecDepth 100000 in
@[go_sem] theorem prR_one (L i j : Nat) : ones (prR L i j) = true := rfl
set_option maxRecDepth 100000 in
theorem info_Pr : (Try.prog.info? 136).map (·.size) = some 2 := by kernel_rfl
                                                                        theorem exl_Pr {r : Operand → Value} {dst : Option Nat} {x : Operand} {t : TypeId} {pos : String} {af : Array Edge} {g : Option (Nat × Bool)} : execOp r ⟨dst, .load 136 x, t, pos, af, g⟩ = (do let v ← loadRow 136 (r x); pure (Next.value v)) := rfl
                                                                        theorem exs_Pr {r : Operand → Value} {dst : Option Nat} {x y : Operand} {t : TypeId} {pos : String} {af : Array Edge} {g : Option (Nat × Bool)} : execOp r ⟨dst, .store 136 x y, t, pos, af, g⟩ = (do storeRow 136 (r x) (r y); pure Next.skip) := rfl
                                                                        theorem ldr_Pr (b : Nat) (w : World) : (loadRow 136 (.pointer (some ⟨b, 0, none⟩))).run Try.prog w = match hget w b with | some (.cells c _ _) => if c.size = 2 then .ok (.agg c) w else stuckL Try.prog 136 b w | _ => stuckL Try.prog 136 b w := loadRow_run Try.underlying136 rfl info_Pr b w
                                                                        theorem str_Pr (b : Nat) (c' : Array Value) (w : World) : (storeRow 136 (.pointer (some ⟨b, 0, none⟩)) (.agg c')).run Try.prog w = match hget w b with | some (.cells c T (0, 0)) => if c.size = 2 then (if c'.size = 2 then (if ones c' = true then .ok () (blk w b (.cells c' T (0, 0))) else stuckS Try.prog 136 b (.agg c') w) else stuckS Try.prog 136 b (.agg c') w) else stuckS Try.prog 136 b (.agg c') w | _ => stuckS Try.prog 136 b (.agg c') w := storeRow_run info_Pr b c' w
set_option maxRecDepth 100000 in
theorem ldm_Pr (b off : Nat) (w : World) : (loadRow 136 (.pointer (some ⟨b, off, none⟩))).run Try.prog w = match hget w b with | some (.cells c _ _) => if off + 2 ≤ c.size then .ok (.agg (c.extract off (off + 2))) w else stuckM Try.prog 136 b off w | _ => stuckM Try.prog 136 b off w := loadMid_run Try.underlying136 rfl info_Pr b off w
def buildRowP (t : TypeId) (ps : Array (Nat × Value)) : Sem Value := Instr.build t ps
set_option maxRecDepth 100000 in
theorem exb_Pr {r : Operand → Value} {dst : Option Nat} {ps : Array (Nat × Operand)} {t : TypeId} {pos : String} {af : Array Edge} {g : Option (Nat × Bool)} : execOp r ⟨dst, .build 136 ps, t, pos, af, g⟩ = (do let v ← buildRowP 136 (ps.map fun (i, x) => (i, r x)); pure (Next.value v)) := rfl
set_option maxRecDepth 100000 in
theorem bld_pr (L i j : Nat) (w : World) : (buildRowP 136 #[(0, ptr L i), (1, ptr L j)]).run Try.prog w = .ok (.agg (prR L i j)) w :=
  run_build w 136 _ _ (by kernel_rfl)
attribute [local go_sem ↓] exl_Elem exs_Elem exl_Pr exs_Pr exb_Pr
                                     attribute [local go_sem] ldm_Elem stm_Elem to_quad0 ldm_Pr str_Pr bld_pr
def row4 (L : Nat) : Array Value := #[ptr L 0, ptr L 8, ptr L 4, ptr L 12]

set_option maxRecDepth 100000 in
@[go_sem] theorem row4_size (L : Nat) : (row4 L).size = 4 := rfl
set_option maxRecDepth 100000 in
@[go_sem] theorem row4_0 (L : Nat) : (row4 L).extract 0 2 = prR L 0 8 := rfl
set_option maxRecDepth 100000 in
@[go_sem] theorem row4_1 (L : Nat) : (row4 L).extract 2 4 = prR L 4 12 := rfl

set_option maxRecDepth 100000 in
set_option maxHeartbeats 4000000 in
theorem swap_any (L u : Nat) (s : Ld) (c : Bool) (W : World) (hL : hget W L = some (.cells (ldr s u) 107 (0, 0))) (hb : s.bd) :
    Calls Try.prog 75 #[ptr L 0, .bool c] W fun r w' => r = .returned (.tuple #[]) ∧ Out (fun b => b = L) W w' ∧ hget w' L = some (.cells (ldr (Ld.swap c s) u) 107 (0, 0)) := by
  have SE := hid (fun w a b ha hb => select_any c a b w ha hb)
  go_enter Try.func75, Try.ntmps75
  go_upto_region 0 with (fail)
  refine wp_region_gho [18] (fun _ v w => ∃ b, v = .slice (some ⟨b, 0, none⟩) 2 2 ∧ W.heap.size ≤ b ∧ w.heap[b]? = some (.cells (row4 L) 136 (0, 0))) (by kernel_rfl) (by kernel_rfl) (by kernel_rfl) (fun _ v w w' ⟨b, h1, h2, h3⟩ hb => ⟨b, h1, h2, keepB hb h3⟩) ?_
  repeat (first | (refine wpGho_plain (by kernel_rfl) (by decide) (by rfl) (by rfl) (fun K hK => ?_); go_simp; refine hK _ ?_; clear hK K; try go_ints))
  refine wpGho_make (by kernel_rfl) (by decide) (by rfl) (by rfl) (by rfl) (fun K hK => ?_)
  go_simp
  refine ⟨fun x => ⟨below_new _, _, rfl, x.h.size, alloc_at _ _⟩, hK _ ?_⟩
  clear hK K
  refine wpGho_read (by decide) (by rfl) (fun K hK => ?_)
  refine ⟨.int .i64 2, fun g x hR => ?_, hK _ ?_⟩
  · obtain ⟨b8, hb8, _, hc8⟩ := hR 18 (by decide) (by kernel_rfl)
    rw [show ∀ a, over _ [18] g a = Act.put a (some 26) (g 18) from fun _ => rfl, hb8]
    clear hR
    go_simp
    done
  clear hK K
  simp only [Act.put, List.setIfInBounds_toArray, List.set_cons_zero, List.set_cons_succ]
  repeat (first | (refine wpGho_plain (by kernel_rfl) (by decide) (by rfl) (by rfl) (fun K hK => ?_); go_simp; refine hK _ ?_; clear hK K; try go_ints))
  refine wpGho_nil ?_
  intro g wM hwM hR
  obtain ⟨⟨w9, hM⟩, e9⟩ := hwM
  change wM = w9 at e9
  subst e9
  obtain ⟨B, hB, hBW, hBc⟩ := hR 18 (by decide)
  rw [show ∀ a, over _ [18] g a = Act.put a (some 26) (g 18) from fun _ => rfl, hB]
  simp only [Act.put, List.setIfInBounds_toArray, List.set_cons_zero, List.set_cons_succ]
  clear hR hB
  generalize wM = w1 at *
  have b1 := hid hM
  have gM : hget w1 L = some (.cells (ldr s u) 107 (0, 0)) := (Kept.on (kept hL) hM).get
  have lL : L < W.heap.size := hget_lt hL
  have gB : hget w1 B = some (.cells (row4 L) 136 (0, 0)) := hBc
  clear hM hBc hL
  go_wp2_with fail
  have hBL : (B = L) = False := by simp; omega
  have hLB : (L = B) = False := by simp; omega
  obtain ⟨W0, hW0⟩ : ∃ W0, W0 = W := ⟨_, rfl⟩
  subst hW0
  have hO := hid (Out.of_below (ex := fun b => b = L) b1.out)
  clear b1
  generalize w1 = W at *
  refine wp_loop_rounds 3 ?_
  rw [rounds_succ]
  go_upto_region 2 with (fail)
  obtain ⟨w10, e10⟩ : ∃ w_, W = w_ := ⟨_, rfl⟩
  have b10 : Hid (Below W.heap.size W w10) := hid (e10 ▸ Below.refl _ _)
  have fL : hget w10 L = some (.cells (ldr s u) 107 (0, 0)) := e10 ▸ gM
  have fB : hget w10 B = some (.cells (row4 L) 136 (0, 0)) := e10 ▸ gB
  have lLW := hget_lt gM
  have lBW := hget_lt gB
  rw [e10]
  clear e10 gM gB
  obtain ⟨gM, lM, nM, mM⟩ := kept (show hget w10 (L) = some (.cells (ldr s u) 107 (0, 0)) by first | assumption | go_simp)
  obtain ⟨gB, lB, nB, mB⟩ := kept (show hget w10 (B) = some (.cells (row4 L) 136 (0, 0)) by first | assumption | go_simp)
  clear fL fB
  go_upto_region 3 with (fail)
  obtain ⟨P, hP⟩ : ∃ b, w10.heap.size = b := ⟨_, rfl⟩
  have wP : W.heap.size ≤ P := by rw [← hP]; exact b10.out.size
  have eMP : (L = P) = False := by rw [← hP]; exact nM
  have ePM : (P = L) = False := by rw [← hP]; exact mM
  have eBP : (B = P) = False := by rw [← hP]; exact nB
  have ePB : (P = B) = False := by rw [← hP]; exact mB
  obtain ⟨w11, hw11⟩ : ∃ w11, w10.alloc (.cells (prR L 0 8) 136) = w11 := ⟨_, rfl⟩
  have kM := kept (show hget w11 (L) = some (.cells (ldr s u) 107 (0, 0)) by rw [← hw11]; clear hw11; go_simp)
  have kB := kept (show hget w11 (B) = some (.cells (row4 L) 136 (0, 0)) by rw [← hw11]; clear hw11; go_simp)
  have kP := kept (show hget w11 (w10.heap.size) = some (.cells (prR L 0 8) 136) by rw [← hw11]; clear hw11; go_simp)
  have b11 : Hid (Below W.heap.size W w11) := by rw [← hw11]; repeat (first | exact Below.refl _ _ | exact below_new _ | exact b10.out | assumption | refine Below.drew ?_ | refine Below.drewN ?_ _ | refine below_alloc ?_ _ | refine below_blk' ?_ (by omega) _)
  rw [hw11]
  clear hw11
  try clear gM lM nM mM
  try clear jM
  have jM := kM.later
  obtain ⟨gM, lM, nM, mM⟩ := kM
  try clear gB lB nB mB
  try clear jB
  have jB := kB.later
  obtain ⟨gB, lB, nB, mB⟩ := kB
  try clear gP lP nP mP
  try clear jP
  have jP := kP.later
  obtain ⟨gP, lP, nP, mP⟩ := kP
  clear b10
  rw [hP] at *
  clear hP
  have cP0 := cell_at (show w11.heap[P]? = _ from gP) 0
  have cP1 := cell_at (show w11.heap[P]? = _ from gP) 1
  have dP0 : ∀ x_ : LaterV w11, x_.w'.cell? ⟨P, 0, none⟩ = some (ptr L 0) := fun x_ => laterx_cell cP0 (by simp) x_
  have dP1 : ∀ x_ : LaterV w11, x_.w'.cell? ⟨P, 1, none⟩ = some (ptr L 8) := fun x_ => laterx_cell cP1 (by simp) x_
  clear cP0 cP1
  have vM : ∀ x_ : LaterV w11, hget x_.w' (L) = some (.cells (ldr s u) 107 (0, 0)) := laterx_get gM (by simp)
  have vB : ∀ x_ : LaterV w11, hget x_.w' (B) = some (.cells (row4 L) 136 (0, 0)) := laterx_get gB (by simp)
  have vP : ∀ x_ : LaterV w11, hget x_.w' (P) = some (.cells (prR L 0 8) 136 (0, 0)) := laterx_get gP (by simp)
  try clear jM jB jP
  refine wp_region_var [8, 9] (fun p => if p = 8 then ⟨10, quad 0, quad s.lx, 40⟩ else ⟨11, quad 0, quad s.hx, 40⟩) [] (fun _ => ⟨0, #[], #[], 0⟩) (by kernel_rfl) (by kernel_rfl) (by kernel_rfl) (vsep_new (by kernel_rfl)) (fun e he => absurd he (by simp)) (fun hsep => ?_) (fun e he => absurd he (by simp))
  have HSEP := hid hsep
  clear hsep
  repeat (first | (refine wpV_plain0 HSEP.out (by kernel_rfl) (by rfl) (by rfl) (by kernel_rfl) (by kernel_rfl) (fun K hK => ?_); go_simp; refine hK _ ?_; clear hK K; try go_ints) | (refine wpV_make0 HSEP.out (by kernel_rfl) (by rfl) rfl (by rfl) (by kernel_rfl) (by kernel_rfl) (fun K hK => ⟨fun x => (by first | (go_simp; done) | (go_simp; rfl)), hK _ ?_⟩); clear hK K; try go_ints) | (refine wpV_store0 8 (by rfl) (by rfl) HSEP.out (by rfl) rfl (by kernel_rfl) (fun K hK => ⟨fun g bk_ x cs hg hcs hx => (by clear hK HSEP; rcases hcs with hcs | hcs <;> (rw [hcs] at hx; clear hcs; simp only [over, dstOf, List.getElem?_toArray, List.getElem?_cons_succ, List.getElem?_cons_zero, Option.bind_some, hg]; go_simp; done)), hK _ ?_⟩); clear hK K; try go_ints) | (refine wpV_store0 9 (by rfl) (by rfl) HSEP.out (by rfl) rfl (by kernel_rfl) (fun K hK => ⟨fun g bk_ x cs hg hcs hx => (by clear hK HSEP; rcases hcs with hcs | hcs <;> (rw [hcs] at hx; clear hcs; simp only [over, dstOf, List.getElem?_toArray, List.getElem?_cons_succ, List.getElem?_cons_zero, Option.bind_some, hg]; go_simp; done)), hK _ ?_⟩); clear hK K; try go_ints))
  refine wpGho_nil ?_
  intro gL xL h0L hnL haL hlL
  clear h0L hlL HSEP
  obtain ⟨v8, e8, l8, h8⟩ := hnL 8 (by simp)
  try simp at h8
  obtain ⟨v9, e9, l9, h9⟩ := hnL 9 (by simp)
  try simp at h9
  simp only [over, dstOf, List.getElem?_toArray, List.getElem?_cons_succ, List.getElem?_cons_zero, Option.bind_some, e8, e9]
  have hxb := laterV_below xL
  have fM := laterx_get gM (by simp) xL
  have fB := laterx_get gB (by simp) xL
  have fP := laterx_get gP (by simp) xL
  have q8_9 := haL 8 (by simp) 9 (by simp) (by decide)
  rw [e8, e9] at q8_9
  have d8_9 : v8 ≠ v9 := fun e_ => q8_9 (by rw [e_])
  clear q8_9
  clear hnL haL e8 e9 vM vB vP
  generalize xL.w' = w12 at *
  have b12 := hid (below_to b11.out hxb)
  have s11 := b11.out.size
  clear hxb b11 xL gL
  obtain ⟨X, h_X⟩ : ∃ n_, n_ = v8 := ⟨_, rfl⟩
  subst h_X
  obtain ⟨Y, h_Y⟩ : ∃ n_, n_ = v9 := ⟨_, rfl⟩
  subst h_Y
  have wX : W.heap.size ≤ X := by omega
  have eMX : (L = X) = False := by simp; omega
  have eXM : (X = L) = False := by simp; omega
  have eBX : (B = X) = False := by simp; omega
  have eXB : (X = B) = False := by simp; omega
  have ePX : (P = X) = False := by simp; omega
  have eXP : (X = P) = False := by simp; omega
  have wY : W.heap.size ≤ Y := by omega
  have eMY : (L = Y) = False := by simp; omega
  have eYM : (Y = L) = False := by simp; omega
  have eBY : (B = Y) = False := by simp; omega
  have eYB : (Y = B) = False := by simp; omega
  have ePY : (P = Y) = False := by simp; omega
  have eYP : (Y = P) = False := by simp; omega
  have eXY : (X = Y) = False := by simp; exact fun e_ => d8_9 e_
  have eYX : (Y = X) = False := by simp; exact fun e_ => d8_9 e_.symm
  clear d8_9
  clear l8
  clear l9
  clear gM lM nM mM
  clear gB lB nB mB
  clear gP lP nP mP
  obtain ⟨gM, lM, nM, mM⟩ := kept fM
  clear fM
  obtain ⟨gB, lB, nB, mB⟩ := kept fB
  clear fB
  obtain ⟨gP, lP, nP, mP⟩ := kept fP
  clear fP
  obtain ⟨gX, lX, nX, mX⟩ := kept h8
  clear h8
  obtain ⟨gY, lY, nY, mY⟩ := kept h9
  clear h9
  try simp only [Act.put, List.setIfInBounds_toArray, List.set_cons_zero, List.set_cons_succ]
  clear dP0 dP1
  obtain ⟨v1, ev1⟩ : ∃ v, (if c = true then s.hx else s.lx) = v := ⟨_, rfl⟩
  obtain ⟨v2, ev2⟩ : ∃ v, (if c = true then s.lx else s.hx) = v := ⟨_, rfl⟩
  have S1 := hid (fun w => ev1 ▸ SE.out w s.lx s.hx hb.lx hb.hx)
  have S2 := hid (fun w => ev2 ▸ SE.out w s.hx s.lx hb.hx hb.lx)
  go_upto_region 4 with (fail)
  have dP0 : ∀ x_ : LaterX (fun b => b = L) w12, x_.w'.cell? ⟨P, 0, none⟩ = some (ptr L 0) := fun x_ => laterx_cell (cell_at (show w12.heap[P]? = _ from gP) 0) (by simp [ePM]) x_
  have dP1 : ∀ x_ : LaterX (fun b => b = L) w12, x_.w'.cell? ⟨P, 1, none⟩ = some (ptr L 8) := fun x_ => laterx_cell (cell_at (show w12.heap[P]? = _ from gP) 1) (by simp [ePM]) x_
  have vX : ∀ x_ : LaterX (fun b => b = L) w12, hget x_.w' X = some (.cells (quad s.lx) 40 (0, 0)) := laterx_get gX (by simp [eXM])
  have vY : ∀ x_ : LaterX (fun b => b = L) w12, hget x_.w' Y = some (.cells (quad s.hx) 40 (0, 0)) := laterx_get gY (by simp [eYM])
  refine wp_region_two' ⟨L, 13, 15, ldr (s) u, ldr ({ s with lx := v1 }) u, ldr ({ s with lx := v1, hx := v2 }) u, 107⟩ (by kernel_rfl) (by kernel_rfl) gM (by kernel_rfl) (show (15 : Nat) < 16 by decide) ?_
  repeat (first | (refine wpT_plain (by rfl) (by rfl) (by rfl) (fun K hK => ?_); go_simp; refine hK _ ?_; clear hK K; try go_ints) | (refine wpT_plain (by rfl) (by rfl) (by rfl) (fun K hK => ?_); go_simp; (with_reducible first | refine ⟨_, fun x => S1.out _, hK _ ?_⟩ | refine ⟨_, fun x => S2.out _, hK _ ?_⟩); clear hK K; try go_ints))
  refine wpT_first (by rfl) (show (13 : Nat) ≠ 15 by decide) (fun o2 h2 => by cases h2; show waitsB _ 13 = true; first | decide | kernel_rfl) (show (15 : Nat) < 16 by decide) rfl (fun K hK => ?_)
  refine ⟨fun x hx => ?_, fun x hx => ⟨blk x L (.cells (ldr ({ s with lx := v1 }) u) 107 (0, 0)), ?_⟩, fun x hx => ⟨blk x L (.cells (ldr ({ s with lx := v1, hx := v2 }) u) 107 (0, 0)), ?_⟩, hK _ ?_⟩
  · have hx' : hget x L = some (.cells (ldr (s) u) 107 (0, 0)) := hx
    clear hx hK K
    go_simp
  · have hx' : hget x L = some (.cells (ldr ({ s with lx := v1 }) u) 107 (0, 0)) := hx
    clear hx hK K
    go_simp
  · have hx' : hget x L = some (.cells (ldr ({ s with lx := v1, hx := v2 }) u) 107 (0, 0)) := hx
    clear hx hK K
    go_simp
  clear hK K
  simp only [Act.put]
  repeat (first | (refine wpT_plain (by rfl) (by rfl) (by rfl) (fun K hK => ?_); go_simp; refine hK _ ?_; clear hK K; try go_ints))
  refine wpT_second (by rfl) (by show waitsB _ 13 = true; first | decide | kernel_rfl) (by rfl) rfl (fun K hK => ?_)
  refine ⟨fun x hx => ?_, fun x hx => ⟨blk x L (.cells (ldr ({ s with hx := v2 }) u) 107 (0, 0)), ?_⟩, fun x hx => ⟨blk x L (.cells (ldr ({ s with lx := v1, hx := v2 }) u) 107 (0, 0)), ?_⟩, hK _ ?_⟩
  · have hx' : hget x L = some (.cells (ldr ({ s with lx := v1 }) u) 107 (0, 0)) := hx
    clear hx hK K
    go_simp
  · have hx' : hget x L = some (.cells (ldr (s) u) 107 (0, 0)) := hx
    clear hx hK K
    go_simp
  · have hx' : hget x L = some (.cells (ldr ({ s with lx := v1, hx := v2 }) u) 107 (0, 0)) := hx
    clear hx hK K
    go_simp
  clear hK K
  refine wpGho_nil ?_
  intro w20 hO20 hM20
  have hB20 : hget w20 B = some (.cells (row4 L) 136 (0, 0)) := hO20.get gB (by simp [hBL])
  have hO2 := hid ((hO.out.then (Out.of_below b12.out)).then hO20)
  clear hO b12 gB gM gP gX gY hO20 S1 S2 dP0 dP1 vX vY lM nM mM lB nB mB lP nP mP lX nX mX lY nY mY lLW lBW wP eMP ePM eBP ePB s11 wX eMX eXM eBX eXB ePX eXP wY eMY eYM eBY eYB ePY eYP
  obtain ⟨s2, e2⟩ : ∃ s2 : Ld, ({ s with lx := v1, hx := v2 } : Ld) = s2 := ⟨_, rfl⟩
  have l1 : s2.lz < p2 := e2 ▸ hb.lz
  have l2 : s2.hz < p2 := e2 ▸ hb.hz
  rw [e2] at hM20
  have E2 := hid e2
  have EV1 := hid ev1
  have EV2 := hid ev2
  clear e2 ev1 ev2
  generalize w20 = W at *
  have gM := hM20
  have gB := hB20
  have hO := hO2
  clear hM20 hB20 hO2
  clear eXY eYX
  go_wp2_with fail
  rw [rounds_succ]
  go_upto_region 2 with (fail)
  obtain ⟨w30, e30⟩ : ∃ w_, W = w_ := ⟨_, rfl⟩
  have b30 : Hid (Below W.heap.size W w30) := hid (e30 ▸ Below.refl _ _)
  have fL : hget w30 L = some (.cells (ldr s2 u) 107 (0, 0)) := e30 ▸ gM
  have fB : hget w30 B = some (.cells (row4 L) 136 (0, 0)) := e30 ▸ gB
  have lLW := hget_lt gM
  have lBW := hget_lt gB
  rw [e30]
  clear e30 gM gB
  obtain ⟨gM, lM, nM, mM⟩ := kept (show hget w30 (L) = some (.cells (ldr s2 u) 107 (0, 0)) by first | assumption | go_simp)
  obtain ⟨gB, lB, nB, mB⟩ := kept (show hget w30 (B) = some (.cells (row4 L) 136 (0, 0)) by first | assumption | go_simp)
  clear fL fB
  go_upto_region 3 with (fail)
  obtain ⟨P, hP⟩ : ∃ b, w30.heap.size = b := ⟨_, rfl⟩
  have wP : W.heap.size ≤ P := by rw [← hP]; exact b30.out.size
  have eMP : (L = P) = False := by rw [← hP]; exact nM
  have ePM : (P = L) = False := by rw [← hP]; exact mM
  have eBP : (B = P) = False := by rw [← hP]; exact nB
  have ePB : (P = B) = False := by rw [← hP]; exact mB
  obtain ⟨w31, hw31⟩ : ∃ w31, w30.alloc (.cells (prR L 4 12) 136) = w31 := ⟨_, rfl⟩
  have kM := kept (show hget w31 (L) = some (.cells (ldr s2 u) 107 (0, 0)) by rw [← hw31]; clear hw31; go_simp)
  have kB := kept (show hget w31 (B) = some (.cells (row4 L) 136 (0, 0)) by rw [← hw31]; clear hw31; go_simp)
  have kP := kept (show hget w31 (w30.heap.size) = some (.cells (prR L 4 12) 136) by rw [← hw31]; clear hw31; go_simp)
  have b31 : Hid (Below W.heap.size W w31) := by rw [← hw31]; repeat (first | exact Below.refl _ _ | exact below_new _ | exact b30.out | assumption | refine Below.drew ?_ | refine Below.drewN ?_ _ | refine below_alloc ?_ _ | refine below_blk' ?_ (by omega) _)
  rw [hw31]
  clear hw31
  try clear gM lM nM mM
  try clear jM
  have jM := kM.later
  obtain ⟨gM, lM, nM, mM⟩ := kM
  try clear gB lB nB mB
  try clear jB
  have jB := kB.later
  obtain ⟨gB, lB, nB, mB⟩ := kB
  try clear gP lP nP mP
  try clear jP
  have jP := kP.later
  obtain ⟨gP, lP, nP, mP⟩ := kP
  clear b30
  rw [hP] at *
  clear hP
  have cP0 := cell_at (show w31.heap[P]? = _ from gP) 0
  have cP1 := cell_at (show w31.heap[P]? = _ from gP) 1
  have dP0 : ∀ x_ : LaterV w31, x_.w'.cell? ⟨P, 0, none⟩ = some (ptr L 4) := fun x_ => laterx_cell cP0 (by simp) x_
  have dP1 : ∀ x_ : LaterV w31, x_.w'.cell? ⟨P, 1, none⟩ = some (ptr L 12) := fun x_ => laterx_cell cP1 (by simp) x_
  clear cP0 cP1
  have vM : ∀ x_ : LaterV w31, hget x_.w' (L) = some (.cells (ldr s2 u) 107 (0, 0)) := laterx_get gM (by simp)
  have vB : ∀ x_ : LaterV w31, hget x_.w' (B) = some (.cells (row4 L) 136 (0, 0)) := laterx_get gB (by simp)
  have vP : ∀ x_ : LaterV w31, hget x_.w' (P) = some (.cells (prR L 4 12) 136 (0, 0)) := laterx_get gP (by simp)
  try clear jM jB jP
  refine wp_region_var [8, 9] (fun p => if p = 8 then ⟨10, quad 0, quad s2.lz, 40⟩ else ⟨11, quad 0, quad s2.hz, 40⟩) [] (fun _ => ⟨0, #[], #[], 0⟩) (by kernel_rfl) (by kernel_rfl) (by kernel_rfl) (vsep_new (by kernel_rfl)) (fun e he => absurd he (by simp)) (fun hsep => ?_) (fun e he => absurd he (by simp))
  have HSEP := hid hsep
  clear hsep
  repeat (first | (refine wpV_plain0 HSEP.out (by kernel_rfl) (by rfl) (by rfl) (by kernel_rfl) (by kernel_rfl) (fun K hK => ?_); go_simp; refine hK _ ?_; clear hK K; try go_ints) | (refine wpV_make0 HSEP.out (by kernel_rfl) (by rfl) rfl (by rfl) (by kernel_rfl) (by kernel_rfl) (fun K hK => ⟨fun x => (by first | (go_simp; done) | (go_simp; rfl)), hK _ ?_⟩); clear hK K; try go_ints) | (refine wpV_store0 8 (by rfl) (by rfl) HSEP.out (by rfl) rfl (by kernel_rfl) (fun K hK => ⟨fun g bk_ x cs hg hcs hx => (by clear hK HSEP; rcases hcs with hcs | hcs <;> (rw [hcs] at hx; clear hcs; simp only [over, dstOf, List.getElem?_toArray, List.getElem?_cons_succ, List.getElem?_cons_zero, Option.bind_some, hg]; go_simp; done)), hK _ ?_⟩); clear hK K; try go_ints) | (refine wpV_store0 9 (by rfl) (by rfl) HSEP.out (by rfl) rfl (by kernel_rfl) (fun K hK => ⟨fun g bk_ x cs hg hcs hx => (by clear hK HSEP; rcases hcs with hcs | hcs <;> (rw [hcs] at hx; clear hcs; simp only [over, dstOf, List.getElem?_toArray, List.getElem?_cons_succ, List.getElem?_cons_zero, Option.bind_some, hg]; go_simp; done)), hK _ ?_⟩); clear hK K; try go_ints))
  refine wpGho_nil ?_
  intro gL xL h0L hnL haL hlL
  clear h0L hlL HSEP
  obtain ⟨v8, e8, l8, h8⟩ := hnL 8 (by simp)
  try simp at h8
  obtain ⟨v9, e9, l9, h9⟩ := hnL 9 (by simp)
  try simp at h9
  simp only [over, dstOf, List.getElem?_toArray, List.getElem?_cons_succ, List.getElem?_cons_zero, Option.bind_some, e8, e9]
  have hxb := laterV_below xL
  have fM := laterx_get gM (by simp) xL
  have fB := laterx_get gB (by simp) xL
  have fP := laterx_get gP (by simp) xL
  have q8_9 := haL 8 (by simp) 9 (by simp) (by decide)
  rw [e8, e9] at q8_9
  have d8_9 : v8 ≠ v9 := fun e_ => q8_9 (by rw [e_])
  clear q8_9
  clear hnL haL e8 e9 vM vB vP
  generalize xL.w' = w32 at *
  have b32 := hid (below_to b31.out hxb)
  have s31 := b31.out.size
  clear hxb b31 xL gL
  obtain ⟨X, h_X⟩ : ∃ n_, n_ = v8 := ⟨_, rfl⟩
  subst h_X
  obtain ⟨Y, h_Y⟩ : ∃ n_, n_ = v9 := ⟨_, rfl⟩
  subst h_Y
  have wX : W.heap.size ≤ X := by omega
  have eMX : (L = X) = False := by simp; omega
  have eXM : (X = L) = False := by simp; omega
  have eBX : (B = X) = False := by simp; omega
  have eXB : (X = B) = False := by simp; omega
  have ePX : (P = X) = False := by simp; omega
  have eXP : (X = P) = False := by simp; omega
  have wY : W.heap.size ≤ Y := by omega
  have eMY : (L = Y) = False := by simp; omega
  have eYM : (Y = L) = False := by simp; omega
  have eBY : (B = Y) = False := by simp; omega
  have eYB : (Y = B) = False := by simp; omega
  have ePY : (P = Y) = False := by simp; omega
  have eYP : (Y = P) = False := by simp; omega
  have eXY : (X = Y) = False := by simp; exact fun e_ => d8_9 e_
  have eYX : (Y = X) = False := by simp; exact fun e_ => d8_9 e_.symm
  clear d8_9
  clear l8
  clear l9
  clear gM lM nM mM
  clear gB lB nB mB
  clear gP lP nP mP
  obtain ⟨gM, lM, nM, mM⟩ := kept fM
  clear fM
  obtain ⟨gB, lB, nB, mB⟩ := kept fB
  clear fB
  obtain ⟨gP, lP, nP, mP⟩ := kept fP
  clear fP
  obtain ⟨gX, lX, nX, mX⟩ := kept h8
  clear h8
  obtain ⟨gY, lY, nY, mY⟩ := kept h9
  clear h9
  try simp only [Act.put, List.setIfInBounds_toArray, List.set_cons_zero, List.set_cons_succ]
  clear dP0 dP1
  obtain ⟨v3, ev3⟩ : ∃ v, (if c = true then s2.hz else s2.lz) = v := ⟨_, rfl⟩
  obtain ⟨v4, ev4⟩ : ∃ v, (if c = true then s2.lz else s2.hz) = v := ⟨_, rfl⟩
  have S1 := hid (fun w => ev3 ▸ SE.out w s2.lz s2.hz l1 l2)
  have S2 := hid (fun w => ev4 ▸ SE.out w s2.hz s2.lz l2 l1)
  go_upto_region 4 with (fail)
  have dP0 : ∀ x_ : LaterX (fun b => b = L) w32, x_.w'.cell? ⟨P, 0, none⟩ = some (ptr L 4) := fun x_ => laterx_cell (cell_at (show w32.heap[P]? = _ from gP) 0) (by simp [ePM]) x_
  have dP1 : ∀ x_ : LaterX (fun b => b = L) w32, x_.w'.cell? ⟨P, 1, none⟩ = some (ptr L 12) := fun x_ => laterx_cell (cell_at (show w32.heap[P]? = _ from gP) 1) (by simp [ePM]) x_
  have vX : ∀ x_ : LaterX (fun b => b = L) w32, hget x_.w' X = some (.cells (quad s2.lz) 40 (0, 0)) := laterx_get gX (by simp [eXM])
  have vY : ∀ x_ : LaterX (fun b => b = L) w32, hget x_.w' Y = some (.cells (quad s2.hz) 40 (0, 0)) := laterx_get gY (by simp [eYM])
  refine wp_region_two' ⟨L, 13, 15, ldr (s2) u, ldr ({ s2 with lz := v3 }) u, ldr ({ s2 with lz := v3, hz := v4 }) u, 107⟩ (by kernel_rfl) (by kernel_rfl) gM (by kernel_rfl) (show (15 : Nat) < 16 by decide) ?_
  repeat (first | (refine wpT_plain (by rfl) (by rfl) (by rfl) (fun K hK => ?_); go_simp; refine hK _ ?_; clear hK K; try go_ints) | (refine wpT_plain (by rfl) (by rfl) (by rfl) (fun K hK => ?_); go_simp; (with_reducible first | refine ⟨_, fun x => S1.out _, hK _ ?_⟩ | refine ⟨_, fun x => S2.out _, hK _ ?_⟩); clear hK K; try go_ints))
  refine wpT_first (by rfl) (show (13 : Nat) ≠ 15 by decide) (fun o2 h2 => by cases h2; show waitsB _ 13 = true; first | decide | kernel_rfl) (show (15 : Nat) < 16 by decide) rfl (fun K hK => ?_)
  refine ⟨fun x hx => ?_, fun x hx => ⟨blk x L (.cells (ldr ({ s2 with lz := v3 }) u) 107 (0, 0)), ?_⟩, fun x hx => ⟨blk x L (.cells (ldr ({ s2 with lz := v3, hz := v4 }) u) 107 (0, 0)), ?_⟩, hK _ ?_⟩
  · have hx' : hget x L = some (.cells (ldr (s2) u) 107 (0, 0)) := hx
    clear hx hK K
    go_simp
  · have hx' : hget x L = some (.cells (ldr ({ s2 with lz := v3 }) u) 107 (0, 0)) := hx
    clear hx hK K
    go_simp
  · have hx' : hget x L = some (.cells (ldr ({ s2 with lz := v3, hz := v4 }) u) 107 (0, 0)) := hx
    clear hx hK K
    go_simp
  clear hK K
  simp only [Act.put]
  repeat (first | (refine wpT_plain (by rfl) (by rfl) (by rfl) (fun K hK => ?_); go_simp; refine hK _ ?_; clear hK K; try go_ints))
  refine wpT_second (by rfl) (by show waitsB _ 13 = true; first | decide | kernel_rfl) (by rfl) rfl (fun K hK => ?_)
  refine ⟨fun x hx => ?_, fun x hx => ⟨blk x L (.cells (ldr ({ s2 with hz := v4 }) u) 107 (0, 0)), ?_⟩, fun x hx => ⟨blk x L (.cells (ldr ({ s2 with lz := v3, hz := v4 }) u) 107 (0, 0)), ?_⟩, hK _ ?_⟩
  · have hx' : hget x L = some (.cells (ldr ({ s2 with lz := v3 }) u) 107 (0, 0)) := hx
    clear hx hK K
    go_simp
  · have hx' : hget x L = some (.cells (ldr (s2) u) 107 (0, 0)) := hx
    clear hx hK K
    go_simp
  · have hx' : hget x L = some (.cells (ldr ({ s2 with lz := v3, hz := v4 }) u) 107 (0, 0)) := hx
    clear hx hK K
    go_simp
  clear hK K
  refine wpGho_nil ?_
  intro w20 hO20 hM20
  have hO2 := hid ((hO.out.then (Out.of_below b32.out)).then hO20)
  clear hO b32 gB gM gP gX gY hO20 S1 S2 dP0 dP1 vX vY lM nM mM lB nB mB lP nP mP lX nX mX lY nY mY lLW lBW wP eMP ePM eBP ePB s31 wX eMX eXM eBX eXB ePX eXP wY eMY eYM eBY eYB ePY eYP
  clear eXY eYX
  have R : ldr { lx := s2.lx, lz := v3, hx := s2.hx, hz := v4 } u = ldr (Ld.swap c s) u := by
    have e2 := E2.out
    have e3 := EV1.out
    have e4 := EV2.out
    subst e2 ev3 ev4 e3 e4
    cases c <;> rfl
  rw [R] at hM20
  have hM := hid hM20
  clear hM20 R ev3 ev4 E2 EV1 EV2
  go_wp2_with fail
  rw [rounds_succ]
  go_wp2_with fail
  go_end0
  exact ⟨rfl, hO2.out, hM.out⟩

end Go.Proofs.Ytceljjnohjnepaa

namespace Go.Proofs.Ytceljjnohjnepaa
open Go Go.RowKit DG

set_option maxRecDepth 100000 in
theorem exb_Pnt {r : Operand → Value} {dst : Option Nat} {ps : Array (Nat × Operand)} {t : TypeId} {pos : String} {af : Array Edge} {g : Option (Nat × Bool)} : execOp r ⟨dst, .build 105 ps, t, pos, af, g⟩ = (do let v ← buildRowP 105 (ps.map fun (i, x) => (i, r x)); pure (Next.value v)) := rfl
set_option maxRecDepth 100000 in
theorem bld_poi (x z : Nat) (w : World) : (buildRowP 105 #[(0, .agg (quad x)), (1, .agg (quad z))]).run Try.prog w = .ok (.agg (poi x z)) w :=
  run_build w 105 _ _ (by kernel_rfl)
attribute [local go_sem ↓] exl_Elem exs_Elem exs_Pnt exb_Pnt
                                      attribute [local go_sem] ldm_Elem stm_Elem stm_Pnt to_quad0 bld_poi

set_option maxRecDepth 100000 in
set_option maxHeartbeats 4000000 in
theorem step_core (L u : Nat) (s : Ld) (pl mi q a r b c d h k m f g n e : Nat) (W : World) (hL : hget W L = some (.cells (ldr s u) 107 (0, 0))) (hb : s.bd) (hu : u < p2)
    (hpl : addN s.lx s.lz = pl) (hmi : subN s.lx s.lz = mi) (hq : addN s.hx s.hz = q) (ha : mulN q mi = a) (hr : subN s.hx s.hz = r) (hbb : mulN r pl = b)
    (hc : addN a b = c) (hd : subN a b = d) (hh : mulN c c = h) (hk : mulN d d = k) (hm : mulN k u = m)
    (hf : mulN pl pl = f) (hg : mulN mi mi = g) (he : subN f g = e) (hn : mulN 121665 e = n) :
    Calls Try.prog 76 #[ptr L 0] W fun r w' => r = .returned (.tuple #[]) ∧ Out (fun b => b = L) W w' ∧ hget w' L = some (.cells (ldr ⟨mulN f g, mulN (addN f n) e, h, m⟩ u) 107 (0, 0)) := by
  have bpl : pl < p2 := hpl ▸ add_lt hb.lx hb.lz
  have bmi : mi < p2 := hmi ▸ sub_lt hb.lx hb.lz
  have bq : q < p2 := hq ▸ add_lt hb.hx hb.hz
  have br : r < p2 := hr ▸ sub_lt hb.hx hb.hz
  have ba : a < p2 := ha ▸ mul_lt bq bmi
  have bb : b < p2 := hbb ▸ mul_lt br bpl
  have bc : c < p2 := hc ▸ add_lt ba bb
  have bd : d < p2 := hd ▸ sub_lt ba bb
  have bk : k < p2 := hk ▸ mul_lt bd bd
  have bf : f < p2 := hf ▸ mul_lt bpl bpl
  have bg : g < p2 := hg ▸ mul_lt bmi bmi
  have be : e < p2 := he ▸ sub_lt bf bg
  have bn : n < p2 := hn ▸ mul_lt Ld.c_lt be
  have A1 := hid (fun w => hpl ▸ add_any s.lx s.lz w hb.lx hb.lz)
  have S1 := hid (fun w => hmi ▸ sub_any s.lx s.lz w hb.lx hb.lz)
  have A2 := hid (fun w => hq ▸ add_any s.hx s.hz w hb.hx hb.hz)
  have S2 := hid (fun w => hr ▸ sub_any s.hx s.hz w hb.hx hb.hz)
  have M1 := hid (fun w => ha ▸ mul_any q mi w bq bmi)
  have M2 := hid (fun w => hbb ▸ mul_any r pl w br bpl)
  have A3 := hid (fun w => hc ▸ add_any a b w ba bb)
  have S3 := hid (fun w => hd ▸ sub_any a b w ba bb)
  have M3 := hid (fun w => hh ▸ mul_any c c w bc bc)
  have M4 := hid (fun w => hk ▸ mul_any d d w bd bd)
  have M5 := hid (fun w => hm ▸ mul_any k u w bk hu)
  have M6 := hid (fun w => hf ▸ mul_any pl pl w bpl bpl)
  have M7 := hid (fun w => hg ▸ mul_any mi mi w bmi bmi)
  have S4 := hid (fun w => he ▸ sub_any f g w bf bg)
  have C1 := hid (fun w => small_any 121665 w (by decide))
  have M8 := hid (fun w => hn ▸ mul_any 121665 e w Ld.c_lt be)
  have A4 := hid (fun w => add_any f n w bf bn)
  have M9 := hid (fun w => mul_any (addN f n) e w (add_lt bf bn) be)
  have MA := hid (fun w => mul_any f g w bf bg)
  clear hpl hmi hq hr ha hbb hc hd hh hk hm hf hg he hn bpl bmi bq br ba bb bc bd bk bf bg be bn
  go_enter Try.func76, Try.ntmps76
  go_upto_region 0 with (fail)
  obtain ⟨W0, hW0⟩ : ∃ W0, W0 = W := ⟨_, rfl⟩
  have hO := hid (show Out (fun b => b = L) W0 W from hW0 ▸ Out.refl _ _)
  obtain ⟨w1, e1⟩ : ∃ w_, W = w_ := ⟨_, rfl⟩
  have b1 : Hid (Below W.heap.size W w1) := hid (e1 ▸ Below.refl _ _)
  have fM : hget w1 L = some (.cells (ldr s u) 107 (0, 0)) := e1 ▸ hL
  have lLW := hget_lt hL
  rw [e1]
  clear e1 hL
  obtain ⟨gM, lM, nM, mM⟩ := kept (show hget w1 (L) = some (.cells (ldr s u) 107 (0, 0)) by first | assumption | go_simp)
  clear fM
  have vM : ∀ x_ : LaterV w1, hget x_.w' (L) = some (.cells (ldr s u) 107 (0, 0)) := laterx_get gM (by simp)
  try clear jM
  refine wp_region_var [22, 23] (fun p => if p = 22 then ⟨24, quad 0, quad pl, 40⟩ else ⟨25, quad 0, quad mi, 40⟩) [] (fun _ => ⟨0, #[], #[], 0⟩) (by kernel_rfl) (by kernel_rfl) (by kernel_rfl) (vsep_new (by kernel_rfl)) (fun e he => absurd he (by simp)) (fun hsep => ?_) (fun e he => absurd he (by simp))
  have HSEP := hid hsep
  clear hsep
  repeat (first | (refine wpV_plain0 HSEP.out (by kernel_rfl) (by rfl) (by rfl) (by kernel_rfl) (by kernel_rfl) (fun K hK => ?_); go_simp; refine hK _ ?_; clear hK K; try go_ints) | (refine wpV_plain0 HSEP.out (by kernel_rfl) (by rfl) (by rfl) (by kernel_rfl) (by kernel_rfl) (fun K hK => ?_); go_simp; (with_reducible refine ⟨_, fun x => A1.out _, hK _ ?_⟩); clear hK K; try go_ints) | (refine wpV_plain0 HSEP.out (by kernel_rfl) (by rfl) (by rfl) (by kernel_rfl) (by kernel_rfl) (fun K hK => ?_); go_simp; (with_reducible refine ⟨_, fun x => S1.out _, hK _ ?_⟩); clear hK K; try go_ints) | (refine wpV_make0 HSEP.out (by kernel_rfl) (by rfl) rfl (by rfl) (by kernel_rfl) (by kernel_rfl) (fun K hK => ⟨fun x => (by first | (go_simp; done) | (go_simp; rfl)), hK _ ?_⟩); clear hK K; try go_ints) | (refine wpV_store0 22 (by rfl) (by rfl) HSEP.out (by rfl) rfl (by kernel_rfl) (fun K hK => ⟨fun g bk_ x cs hg hcs hx => (by clear hK HSEP; rcases hcs with hcs | hcs <;> (rw [hcs] at hx; clear hcs; simp only [over, dstOf, List.getElem?_toArray, List.getElem?_cons_succ, List.getElem?_cons_zero, Option.bind_some, hg]; go_simp; done)), hK _ ?_⟩); clear hK K; try go_ints) | (refine wpV_store0 23 (by rfl) (by rfl) HSEP.out (by rfl) rfl (by kernel_rfl) (fun K hK => ⟨fun g bk_ x cs hg hcs hx => (by clear hK HSEP; rcases hcs with hcs | hcs <;> (rw [hcs] at hx; clear hcs; simp only [over, dstOf, List.getElem?_toArray, List.getElem?_cons_succ, List.getElem?_cons_zero, Option.bind_some, hg]; go_simp; done)), hK _ ?_⟩); clear hK K; try go_ints))
  refine wpGho_nil ?_
  intro gL xL h0L hnL haL hlL
  clear h0L hlL HSEP
  obtain ⟨v22, e22, l22, h22⟩ := hnL 22 (by simp)
  try simp at h22
  obtain ⟨v23, e23, l23, h23⟩ := hnL 23 (by simp)
  try simp at h23
  simp only [over, dstOf, List.getElem?_toArray, List.getElem?_cons_succ, List.getElem?_cons_zero, Option.bind_some, e22, e23]
  have hxb := laterV_below xL
  have fM := laterx_get gM (by simp) xL
  have q22_23 := haL 22 (by simp) 23 (by simp) (by decide)
  rw [e22, e23] at q22_23
  have d22_23 : v22 ≠ v23 := fun e_ => q22_23 (by rw [e_])
  clear q22_23
  clear hnL haL e22 e23 vM
  generalize xL.w' = w2 at *
  have b2 := hid (below_to b1.out hxb)
  have s1 := b1.out.size
  clear hxb b1 xL gL
  obtain ⟨X, h_X⟩ : ∃ n_, n_ = v22 := ⟨_, rfl⟩
  subst h_X
  obtain ⟨Y, h_Y⟩ : ∃ n_, n_ = v23 := ⟨_, rfl⟩
  subst h_Y
  have wX : W.heap.size ≤ X := by omega
  have eMX : (L = X) = False := by simp; omega
  have eXM : (X = L) = False := by simp; omega
  have wY : W.heap.size ≤ Y := by omega
  have eMY : (L = Y) = False := by simp; omega
  have eYM : (Y = L) = False := by simp; omega
  have eXY : (X = Y) = False := by simp; exact fun e_ => d22_23 e_
  have eYX : (Y = X) = False := by simp; exact fun e_ => d22_23 e_.symm
  clear d22_23
  clear l22
  clear l23
  clear gM lM nM mM
  obtain ⟨gM, lM, nM, mM⟩ := kept fM
  clear fM
  obtain ⟨gX, lX, nX, mX⟩ := kept h22
  clear h22
  obtain ⟨gY, lY, nY, mY⟩ := kept h23
  clear h23
  try simp only [Act.put, List.setIfInBounds_toArray, List.set_cons_zero, List.set_cons_succ]
  have hX0 : W0.heap.size ≤ X := by rw [hW0]; exact wX
  have hY0 : W0.heap.size ≤ Y := by rw [hW0]; exact wY
  go_upto_region 1 with (fail)
  have vM : ∀ x_ : LaterV w2, hget x_.w' (L) = some (.cells (ldr s u) 107 (0, 0)) := laterx_get gM (by simp)
  have vX : ∀ x_ : LaterV w2, hget x_.w' (X) = some (.cells (quad pl) 40 (0, 0)) := laterx_get gX (by simp)
  have vY : ∀ x_ : LaterV w2, hget x_.w' (Y) = some (.cells (quad mi) 40 (0, 0)) := laterx_get gY (by simp)
  try clear jM jX jY
  refine wp_region_var [26, 27] (fun p => if p = 26 then ⟨28, quad 0, quad a, 40⟩ else ⟨29, quad 0, quad b, 40⟩) [] (fun _ => ⟨0, #[], #[], 0⟩) (by kernel_rfl) (by kernel_rfl) (by kernel_rfl) (vsep_new (by kernel_rfl)) (fun e he => absurd he (by simp)) (fun hsep => ?_) (fun e he => absurd he (by simp))
  have HSEP := hid hsep
  clear hsep
  repeat (first | (refine wpV_plain0 HSEP.out (by kernel_rfl) (by rfl) (by rfl) (by kernel_rfl) (by kernel_rfl) (fun K hK => ?_); go_simp; refine hK _ ?_; clear hK K; try go_ints) | (refine wpV_plain0 HSEP.out (by kernel_rfl) (by rfl) (by rfl) (by kernel_rfl) (by kernel_rfl) (fun K hK => ?_); go_simp; (with_reducible refine ⟨_, fun x => A2.out _, hK _ ?_⟩); clear hK K; try go_ints) | (refine wpV_plain0 HSEP.out (by kernel_rfl) (by rfl) (by rfl) (by kernel_rfl) (by kernel_rfl) (fun K hK => ?_); go_simp; (with_reducible refine ⟨_, fun x => S2.out _, hK _ ?_⟩); clear hK K; try go_ints) | (refine wpV_plain0 HSEP.out (by kernel_rfl) (by rfl) (by rfl) (by kernel_rfl) (by kernel_rfl) (fun K hK => ?_); go_simp; (with_reducible refine ⟨_, fun x => M1.out _, hK _ ?_⟩); clear hK K; try go_ints) | (refine wpV_plain0 HSEP.out (by kernel_rfl) (by rfl) (by rfl) (by kernel_rfl) (by kernel_rfl) (fun K hK => ?_); go_simp; (with_reducible refine ⟨_, fun x => M2.out _, hK _ ?_⟩); clear hK K; try go_ints) | (refine wpV_make0 HSEP.out (by kernel_rfl) (by rfl) rfl (by rfl) (by kernel_rfl) (by kernel_rfl) (fun K hK => ⟨fun x => (by first | (go_simp; done) | (go_simp; rfl)), hK _ ?_⟩); clear hK K; try go_ints) | (refine wpV_store0 26 (by rfl) (by rfl) HSEP.out (by rfl) rfl (by kernel_rfl) (fun K hK => ⟨fun g bk_ x cs hg hcs hx => (by clear hK HSEP; rcases hcs with hcs | hcs <;> (rw [hcs] at hx; clear hcs; simp only [over, dstOf, List.getElem?_toArray, List.getElem?_cons_succ, List.getElem?_cons_zero, Option.bind_some, hg]; go_simp; done)), hK _ ?_⟩); clear hK K; try go_ints) | (refine wpV_store0 27 (by rfl) (by rfl) HSEP.out (by rfl) rfl (by kernel_rfl) (fun K hK => ⟨fun g bk_ x cs hg hcs hx => (by clear hK HSEP; rcases hcs with hcs | hcs <;> (rw [hcs] at hx; clear hcs; simp only [over, dstOf, List.getElem?_toArray, List.getElem?_cons_succ, List.getElem?_cons_zero, Option.bind_some, hg]; go_simp; done)), hK _ ?_⟩); clear hK K; try go_ints))
  refine wpGho_nil ?_
  intro gL xL h0L hnL haL hlL
  clear h0L hlL HSEP
  obtain ⟨v26, e26, l26, h26⟩ := hnL 26 (by simp)
  try simp at h26
  obtain ⟨v27, e27, l27, h27⟩ := hnL 27 (by simp)
  try simp at h27
  simp only [over, dstOf, List.getElem?_toArray, List.getElem?_cons_succ, List.getElem?_cons_zero, Option.bind_some, e26, e27]
  have hxb := laterV_below xL
  have fM := laterx_get gM (by simp) xL
  have fX := laterx_get gX (by simp) xL
  have fY := laterx_get gY (by simp) xL
  have q26_27 := haL 26 (by simp) 27 (by simp) (by decide)
  rw [e26, e27] at q26_27
  have d26_27 : v26 ≠ v27 := fun e_ => q26_27 (by rw [e_])
  clear q26_27
  clear hnL haL e26 e27 vM vX vY
  generalize xL.w' = w3 at *
  have b3 := hid (below_to b2.out hxb)
  have s2 := b2.out.size
  clear hxb b2 xL gL
  obtain ⟨A, h_A⟩ : ∃ n_, n_ = v26 := ⟨_, rfl⟩
  subst h_A
  obtain ⟨B, h_B⟩ : ∃ n_, n_ = v27 := ⟨_, rfl⟩
  subst h_B
  have wA : W.heap.size ≤ A := by omega
  have eMA : (L = A) = False := by simp; omega
  have eAM : (A = L) = False := by simp; omega
  have eXA : (X = A) = False := by simp; omega
  have eAX : (A = X) = False := by simp; omega
  have eYA : (Y = A) = False := by simp; omega
  have eAY : (A = Y) = False := by simp; omega
  have wB : W.heap.size ≤ B := by omega
  have eMB : (L = B) = False := by simp; omega
  have eBM : (B = L) = False := by simp; omega
  have eXB : (X = B) = False := by simp; omega
  have eBX : (B = X) = False := by simp; omega
  have eYB : (Y = B) = False := by simp; omega
  have eBY : (B = Y) = False := by simp; omega
  have eAB : (A = B) = False := by simp; exact fun e_ => d26_27 e_
  have eBA : (B = A) = False := by simp; exact fun e_ => d26_27 e_.symm
  clear d26_27
  clear l26
  clear l27
  clear gM lM nM mM
  clear gX lX nX mX
  clear gY lY nY mY
  obtain ⟨gM, lM, nM, mM⟩ := kept fM
  clear fM
  obtain ⟨gX, lX, nX, mX⟩ := kept fX
  clear fX
  obtain ⟨gY, lY, nY, mY⟩ := kept fY
  clear fY
  obtain ⟨gA, lA, nA, mA⟩ := kept h26
  clear h26
  obtain ⟨gB, lB, nB, mB⟩ := kept h27
  clear h27
  try simp only [Act.put, List.setIfInBounds_toArray, List.set_cons_zero, List.set_cons_succ]
  clear A1 S1 A2 S2 M1 M2
  go_upto_region 2 with (fail)
  have jM := Kept.later (kept gM)
  have jX := Kept.later (kept gX)
  have jY := Kept.later (kept gY)
  have jA := Kept.later (kept gA)
  have jB := Kept.later (kept gB)
  refine wp_region_later_tail 10 (by kernel_rfl) (by kernel_rfl) ?_
  simp only [List.take_succ_cons, List.take_zero, List.drop_succ_cons, List.drop_zero]
  repeat ((go_big_quiet_step ((first | (go_at_call 48; with_reducible exact calls_later (S3.out _)) | (go_at_call 50; with_reducible exact calls_later (A3.out _))))))
  refine wpQuiet_nil ?_
  intro wL hwL
  obtain ⟨⟨w8, hL⟩, e8⟩ := hwL
  change wL = w8 at e8
  subst e8
  obtain ⟨gM, lM, nM, mM⟩ := kept (jM ⟨_, hL⟩)
  obtain ⟨gX, lX, nX, mX⟩ := kept (jX ⟨_, hL⟩)
  obtain ⟨gY, lY, nY, mY⟩ := kept (jY ⟨_, hL⟩)
  go_upto_region 3 with (fail)
  have wX0 := wX
  have wY0 := wY
  clear wX wY eMX eXM eMY eYM eXA eAX eXB eBX eYA eAY eYB eBY eAB eBA eMA eAM eMB eBM gA lA nA mA gB lB nB mB wA wB
  have eLX : (L = X) = False := by simp; omega
  have eXL : (X = L) = False := by simp; omega
  have eLY : (L = Y) = False := by simp; omega
  have eYL : (Y = L) = False := by simp; omega
  clear lLW wX0 wY0
  have f1M : hget (blk wL L (.cells (ldr ({ s with hx := c, hz := d }) u) 107 (0, 0))) L = some (.cells (ldr ({ s with hx := c, hz := d }) u) 107 (0, 0)) := by go_simp
  have f1X : hget (blk wL L (.cells (ldr ({ s with hx := c, hz := d }) u) 107 (0, 0))) X = some (.cells (quad pl) 40 (0, 0)) := by go_simp
  have f1Y : hget (blk wL L (.cells (ldr ({ s with hx := c, hz := d }) u) 107 (0, 0))) Y = some (.cells (quad mi) 40 (0, 0)) := by go_simp
  have hO' := hid ((hO.out.then (Out.of_below (below_to b3.out hL))).blk (b := L) (.inl rfl) (.cells (ldr ({ s with hx := c, hz := d }) u) 107 (0, 0)))
  clear hO b3 hL gM lM nM mM gX lX nX mX gY lY nY mY
  generalize blk wL L (.cells (ldr ({ s with hx := c, hz := d }) u) 107 (0, 0)) = W at *
  have hO := hO'
  have fM := f1M
  have fX := f1X
  have fY := f1Y
  clear hO' f1M f1X f1Y
  obtain ⟨w11, e11⟩ : ∃ w_, W = w_ := ⟨_, rfl⟩
  have b11 : Hid (Below W.heap.size W w11) := hid (e11 ▸ Below.refl _ _)
  rw [e11] at fM fX fY
  rw [e11]
  clear e11
  obtain ⟨gM, lM, nM, mM⟩ := kept (show hget w11 (L) = some (.cells (ldr ({ s with hx := c, hz := d }) u) 107 (0, 0)) by first | assumption | go_simp)
  obtain ⟨gX, lX, nX, mX⟩ := kept (show hget w11 (X) = some (.cells (quad pl) 40 (0, 0)) by first | assumption | go_simp)
  obtain ⟨gY, lY, nY, mY⟩ := kept (show hget w11 (Y) = some (.cells (quad mi) 40 (0, 0)) by first | assumption | go_simp)
  clear fM fX fY
  have jM := Kept.later (kept gM)
  have jX := Kept.later (kept gX)
  have jY := Kept.later (kept gY)
  refine wp_region_later_tail 15 (by kernel_rfl) (by kernel_rfl) ?_
  simp only [List.take_succ_cons, List.take_zero, List.drop_succ_cons, List.drop_zero]
  repeat ((go_big_quiet_step ((go_at_call 47; with_reducible exact calls_later (M3.out _)))))
  refine wpQuiet_nil ?_
  intro wL hwL
  obtain ⟨⟨w8, hL⟩, e8⟩ := hwL
  change wL = w8 at e8
  subst e8
  obtain ⟨gM, lM, nM, mM⟩ := kept (jM ⟨_, hL⟩)
  obtain ⟨gX, lX, nX, mX⟩ := kept (jX ⟨_, hL⟩)
  obtain ⟨gY, lY, nY, mY⟩ := kept (jY ⟨_, hL⟩)
  go_upto_region 4 with (fail)
  have f1M : hget (blk wL L (.cells (ldr ({ s with hx := h, hz := d }) u) 107 (0, 0))) L = some (.cells (ldr ({ s with hx := h, hz := d }) u) 107 (0, 0)) := by go_simp
  have f1X : hget (blk wL L (.cells (ldr ({ s with hx := h, hz := d }) u) 107 (0, 0))) X = some (.cells (quad pl) 40 (0, 0)) := by go_simp
  have f1Y : hget (blk wL L (.cells (ldr ({ s with hx := h, hz := d }) u) 107 (0, 0))) Y = some (.cells (quad mi) 40 (0, 0)) := by go_simp
  have hO' := hid ((hO.out.then (Out.of_below (below_to b11.out hL))).blk (b := L) (.inl rfl) (.cells (ldr ({ s with hx := h, hz := d }) u) 107 (0, 0)))
  clear hO b11 hL gM lM nM mM gX lX nX mX gY lY nY mY
  generalize blk wL L (.cells (ldr ({ s with hx := h, hz := d }) u) 107 (0, 0)) = W at *
  have hO := hO'
  have fM := f1M
  have fX := f1X
  have fY := f1Y
  clear hO' f1M f1X f1Y
  obtain ⟨w12, e12⟩ : ∃ w_, W = w_ := ⟨_, rfl⟩
  have b12 : Hid (Below W.heap.size W w12) := hid (e12 ▸ Below.refl _ _)
  rw [e12] at fM fX fY
  rw [e12]
  clear e12
  obtain ⟨gM, lM, nM, mM⟩ := kept (show hget w12 (L) = some (.cells (ldr ({ s with hx := h, hz := d }) u) 107 (0, 0)) by first | assumption | go_simp)
  obtain ⟨gX, lX, nX, mX⟩ := kept (show hget w12 (X) = some (.cells (quad pl) 40 (0, 0)) by first | assumption | go_simp)
  obtain ⟨gY, lY, nY, mY⟩ := kept (show hget w12 (Y) = some (.cells (quad mi) 40 (0, 0)) by first | assumption | go_simp)
  clear fM fX fY
  have jM := Kept.later (kept gM)
  have jX := Kept.later (kept gX)
  have jY := Kept.later (kept gY)
  refine wp_region_later_tail 20 (by kernel_rfl) (by kernel_rfl) ?_
  simp only [List.take_succ_cons, List.take_zero, List.drop_succ_cons, List.drop_zero]
  repeat ((go_big_quiet_step ((go_at_call 47; first | with_reducible exact calls_later (M4.out _) | with_reducible exact calls_later (M5.out _)))))
  refine wpQuiet_nil ?_
  intro wL hwL
  obtain ⟨⟨w8, hL⟩, e8⟩ := hwL
  change wL = w8 at e8
  subst e8
  obtain ⟨gM, lM, nM, mM⟩ := kept (jM ⟨_, hL⟩)
  obtain ⟨gX, lX, nX, mX⟩ := kept (jX ⟨_, hL⟩)
  obtain ⟨gY, lY, nY, mY⟩ := kept (jY ⟨_, hL⟩)
  go_upto_region 5 with (fail)
  have f1M : hget (blk wL L (.cells (ldr ({ s with hx := h, hz := m }) u) 107 (0, 0))) L = some (.cells (ldr ({ s with hx := h, hz := m }) u) 107 (0, 0)) := by go_simp
  have f1X : hget (blk wL L (.cells (ldr ({ s with hx := h, hz := m }) u) 107 (0, 0))) X = some (.cells (quad pl) 40 (0, 0)) := by go_simp
  have f1Y : hget (blk wL L (.cells (ldr ({ s with hx := h, hz := m }) u) 107 (0, 0))) Y = some (.cells (quad mi) 40 (0, 0)) := by go_simp
  have hO' := hid ((hO.out.then (Out.of_below (below_to b12.out hL))).blk (b := L) (.inl rfl) (.cells (ldr ({ s with hx := h, hz := m }) u) 107 (0, 0)))
  clear hO b12 hL gM lM nM mM gX lX nX mX gY lY nY mY
  generalize blk wL L (.cells (ldr ({ s with hx := h, hz := m }) u) 107 (0, 0)) = W at *
  have hO := hO'
  have fM := f1M
  have fX := f1X
  have fY := f1Y
  clear hO' f1M f1X f1Y
  obtain ⟨w13, e13⟩ : ∃ w_, W = w_ := ⟨_, rfl⟩
  have b13 : Hid (Below W.heap.size W w13) := hid (e13 ▸ Below.refl _ _)
  rw [e13] at fM fX fY
  rw [e13]
  clear e13
  obtain ⟨gM, lM, nM, mM⟩ := kept (show hget w13 (L) = some (.cells (ldr ({ s with hx := h, hz := m }) u) 107 (0, 0)) by first | assumption | go_simp)
  obtain ⟨gX, lX, nX, mX⟩ := kept (show hget w13 (X) = some (.cells (quad pl) 40 (0, 0)) by first | assumption | go_simp)
  obtain ⟨gY, lY, nY, mY⟩ := kept (show hget w13 (Y) = some (.cells (quad mi) 40 (0, 0)) by first | assumption | go_simp)
  clear fM fX fY
  have jM := Kept.later (kept gM)
  have jX := Kept.later (kept gX)
  have jY := Kept.later (kept gY)
  clear A3 S3 M3 M4 M5
  refine wp_region_later_tail 6 (by kernel_rfl) (by kernel_rfl) ?_
  simp only [List.take_succ_cons, List.take_zero, List.drop_succ_cons, List.drop_zero]
  repeat ((go_big_quiet_step ((go_at_call 47; first | with_reducible exact calls_later (M6.out _) | with_reducible exact calls_later (M7.out _)))))
  refine wpQuiet_nil ?_
  intro wL hwL
  obtain ⟨⟨w8, hL⟩, e8⟩ := hwL
  change wL = w8 at e8
  subst e8
  obtain ⟨gM, lM, nM, mM⟩ := kept (jM ⟨_, hL⟩)
  obtain ⟨gX, lX, nX, mX⟩ := kept (jX ⟨_, hL⟩)
  obtain ⟨gY, lY, nY, mY⟩ := kept (jY ⟨_, hL⟩)
  go_upto_region 6 with (fail)
  have hO' := hid (((hO.out.then (Out.of_below (below_to b13.out hL))).blk (b := X) (.inr hX0) (.cells (quad f) 40 (0, 0))).blk (b := Y) (.inr hY0) (.cells (quad g) 40 (0, 0)))
  have f1M : hget (blk (blk wL X (.cells (quad f) 40 (0, 0))) Y (.cells (quad g) 40 (0, 0))) L = some (.cells (ldr { s with hx := h, hz := m } u) 107 (0, 0)) := by go_simp
  have f1X : hget (blk (blk wL X (.cells (quad f) 40 (0, 0))) Y (.cells (quad g) 40 (0, 0))) X = some (.cells (quad f) 40 (0, 0)) := by go_simp
  have f1Y : hget (blk (blk wL X (.cells (quad f) 40 (0, 0))) Y (.cells (quad g) 40 (0, 0))) Y = some (.cells (quad g) 40 (0, 0)) := by go_simp
  clear hO b13 hL gM lM nM mM gX lX nX mX gY lY nY mY hX0 hY0 M6 M7
  generalize blk (blk wL X (.cells (quad f) 40 (0, 0))) Y (.cells (quad g) 40 (0, 0)) = W at *
  have hO := hO'
  obtain ⟨w14, e14⟩ : ∃ w_, W = w_ := ⟨_, rfl⟩
  have b14 : Hid (Below W.heap.size W w14) := hid (e14 ▸ Below.refl _ _)
  rw [e14] at f1M f1X f1Y
  rw [e14]
  clear e14 hO'
  obtain ⟨gM, lM, nM, mM⟩ := kept (show hget w14 (L) = some (.cells (ldr { s with hx := h, hz := m } u) 107 (0, 0)) by first | assumption | go_simp)
  obtain ⟨gX, lX, nX, mX⟩ := kept (show hget w14 (X) = some (.cells (quad f) 40 (0, 0)) by first | assumption | go_simp)
  obtain ⟨gY, lY, nY, mY⟩ := kept (show hget w14 (Y) = some (.cells (quad g) 40 (0, 0)) by first | assumption | go_simp)
  clear f1M f1X f1Y
  have jM := Kept.later (kept gM)
  have jX := Kept.later (kept gX)
  have jY := Kept.later (kept gY)
  go_wp2_with fail
  try clear jM jX jY
  refine (S4.out _).mono ?_
  rintro e w15 ⟨rfl, hb15⟩
  have kM := Kept.on (kept (b := L) (o := .cells (ldr { s with hx := h, hz := m } u) 107 (0, 0)) (by go_simp)) hb15
  have kX := Kept.on (kept (b := X) (o := .cells (quad f) 40 (0, 0)) (by go_simp)) hb15
  have kY := Kept.on (kept (b := Y) (o := .cells (quad g) 40 (0, 0)) (by go_simp)) hb15
  have b15 : Hid (Below W.heap.size W w15) := below_to (by repeat (first | exact Below.refl _ _ | exact below_new _ | exact b14.out | assumption | refine Below.drew ?_ | refine Below.drewN ?_ _ | refine below_alloc ?_ _ | refine below_blk' ?_ (by omega) _)) hb15
  clear hb15
  try clear gM lM nM mM
  obtain ⟨gM, lM, nM, mM⟩ := kM
  try clear gX lX nX mX
  obtain ⟨gX, lX, nX, mX⟩ := kX
  try clear gY lY nY mY
  obtain ⟨gY, lY, nY, mY⟩ := kY
  clear b14
  go_upto_region 7 with (fail)
  obtain ⟨E, hE⟩ : ∃ b, w15.heap.size = b := ⟨_, rfl⟩
  have wE : W.heap.size ≤ E := by rw [← hE]; exact b15.out.size
  have eME : (L = E) = False := by rw [← hE]; exact nM
  have eEM : (E = L) = False := by rw [← hE]; exact mM
  have eXE : (X = E) = False := by rw [← hE]; exact nX
  have eEX : (E = X) = False := by rw [← hE]; exact mX
  have eYE : (Y = E) = False := by rw [← hE]; exact nY
  have eEY : (E = Y) = False := by rw [← hE]; exact mY
  obtain ⟨w16, hw16⟩ : ∃ w16, w15.alloc (.cells (quad e) 40) = w16 := ⟨_, rfl⟩
  have kM := kept (show hget w16 (L) = some (.cells (ldr { s with hx := h, hz := m } u) 107 (0, 0)) by rw [← hw16]; clear hw16; go_simp)
  have kX := kept (show hget w16 (X) = some (.cells (quad f) 40 (0, 0)) by rw [← hw16]; clear hw16; go_simp)
  have kY := kept (show hget w16 (Y) = some (.cells (quad g) 40 (0, 0)) by rw [← hw16]; clear hw16; go_simp)
  have kE := kept (show hget w16 (w15.heap.size) = some (.cells (quad e) 40) by rw [← hw16]; clear hw16; go_simp)
  have b16 : Hid (Below W.heap.size W w16) := by rw [← hw16]; repeat (first | exact Below.refl _ _ | exact below_new _ | exact b15.out | assumption | refine Below.drew ?_ | refine Below.drewN ?_ _ | refine below_alloc ?_ _ | refine below_blk' ?_ (by omega) _)
  rw [hw16]
  clear hw16
  try clear gM lM nM mM
  try clear jM
  have jM := kM.later
  obtain ⟨gM, lM, nM, mM⟩ := kM
  try clear gX lX nX mX
  try clear jX
  have jX := kX.later
  obtain ⟨gX, lX, nX, mX⟩ := kX
  try clear gY lY nY mY
  try clear jY
  have jY := kY.later
  obtain ⟨gY, lY, nY, mY⟩ := kY
  try clear gE lE nE mE
  try clear jE
  have jE := kE.later
  obtain ⟨gE, lE, nE, mE⟩ := kE
  clear b15
  rw [hE] at *
  clear hE
  clear S4
  have jM := Kept.later (kept gM)
  have jX := Kept.later (kept gX)
  have jY := Kept.later (kept gY)
  have jE := Kept.later (kept gE)
  refine wp_region_later_tail 14 (by kernel_rfl) (by kernel_rfl) ?_
  simp only [List.take_succ_cons, List.take_zero, List.drop_succ_cons, List.drop_zero]
  repeat ((go_big_quiet_step ((first | (go_at_call 47; first | with_reducible exact calls_later (MA.out _) | with_reducible exact calls_later (M8.out _) | with_reducible exact calls_later (M9.out _)) | (go_at_call 42; with_reducible exact calls_later (C1.out _)) | (go_at_call 50; with_reducible exact calls_later (A4.out _))))))
  refine wpQuiet_nil ?_
  intro wL hwL
  obtain ⟨⟨w8, hL⟩, e8⟩ := hwL
  change wL = w8 at e8
  subst e8
  obtain ⟨gM, lM, nM, mM⟩ := kept (jM ⟨_, hL⟩)
  go_wp2_with fail
  go_end0
  subst hW0
  refine ⟨rfl, (hO.out.then (Out.of_below (below_to b16.out hL))).blk (.inl rfl) _, ?_⟩
  go_simp
set_option maxRecDepth 100000 in
theorem step_any (L u : Nat) (s : Ld) (W : World) (hL : hget W L = some (.cells (ldr s u) 107 (0, 0))) (hb : s.bd) (hu : u < p2) :
    Calls Try.prog 76 #[ptr L 0] W fun r w' => r = .returned (.tuple #[]) ∧ Out (fun b => b = L) W w' ∧ hget w' L = some (.cells (ldr (Ld.step u s) u) 107 (0, 0)) :=
  step_core L u s _ _ _ _ _ _ _ _ _ _ _ _ _ _ _ W hL hb hu rfl rfl rfl rfl rfl rfl rfl rfl rfl rfl rfl rfl rfl rfl rfl

end Go.Proofs.Ytceljjnohjnepaa

namespace Go.Proofs.Ytceljjnohjnepaa
namespace DG
variable {B : Nat}

set_option maxRecDepth 100000 in
theorem oless_at {a b : List Nat} (ha : All B a) (_hb : All B b) (hl : a.length = b.length) {k : Nat} (hk : k < a.length) (hd : a.drop (k + 1) = b.drop (k + 1)) (hlt : a.getD k 0 < b.getD k 0) : val B a < val B b := by
  rw [val_split a k hk, val_split b k (by omega), hd]
  have h1 := val_take_lt ha (k := k) (by omega)
  have h2 : B ^ k * (a.getD k 0 + B * val B (b.drop (k + 1)) + 1) ≤ B ^ k * (b.getD k 0 + B * val B (b.drop (k + 1))) := Nat.mul_le_mul_left _ (by omega)
  rw [Nat.mul_add, Nat.mul_one] at h2
  omega
set_option maxRecDepth 100000 in
theorem oless_iff {a b : List Nat} (ha : All B a) (hb : All B b) (hl : a.length = b.length) {k : Nat} (hk : k < a.length) (hd : a.drop (k + 1) = b.drop (k + 1)) (hne : a.getD k 0 ≠ b.getD k 0) :
    decide (a.getD k 0 < b.getD k 0) = decide (val B a < val B b) := by
  rcases Nat.lt_or_gt_of_ne hne with h | h
  · rw [decide_eq_true h, decide_eq_true (oless_at ha hb hl hk hd h)]
  · have := oless_at hb ha hl.symm (by omega) hd.symm h
    rw [decide_eq_false (by omega), decide_eq_false (by omega)]
set_option maxRecDepth 100000 in
theorem odrop_step {a b : List Nat} {k : Nat} (hk : k < a.length) (hl : a.length = b.length) (hd : a.drop (k + 1) = b.drop (k + 1)) (he : a.getD k 0 = b.getD k 0) : a.drop k = b.drop k := by
  rw [List.drop_eq_getElem_cons hk, List.drop_eq_getElem_cons (by omega : k < b.length), hd]
  rw [getD_at hk, getD_at (by omega)] at he
  rw [he]

end DG
end Go.Proofs.Ytceljjnohjnepaa
