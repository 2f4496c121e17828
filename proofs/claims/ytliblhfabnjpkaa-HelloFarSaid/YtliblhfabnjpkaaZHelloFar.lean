/- The law HelloFar: for every input it returns true and leaves its arguments as they were. -/
import Derived.Test.YtliblhfabnjpkaaM01
import Derived.ProofKit
import Derived.OpenShut
import Derived.ShutString
import Derived.ChangeOld
import Derived.Deep.Slices
import Derived.Deep.Fields
import Derived.ChangeSame
import Derived.Deep.OwnRows
import Derived.Test.YtliblhfabnjpkaaM08
import Derived.Test.YtliblhfabnjpkaaM09
namespace Go.Proofs.Ytliblhfabnjpkaa
open Go.RowKit Go.ChangeShapes Go.WideShapes Go.Deep

section
variable {H : Type} {enc : TypeId × Value → H} {P : Program} {w : World} {base : Nat} {spare : Nat → Bool} {held : Bool}
/-- The kit's own page on structs has this theorem for copying: a slice of structs, each field of one cell. -/
theorem open_slice_fields {t e : TypeId} {fs : Array Field} {fuel : Nat} {cs : List Value} {x : DataW H × List MemPlace} (ht : P.underlying t = some (.slice e)) (he : P.underlying e = some (.struct fs))
    (hone : oneCellFields P fs = true) (hC : P.cellsOf e = fs.size) (h : DataW.trod enc P w base spare held fuel t cs = some x) :
    (cs = [.slice none 0 0] ∧ x = (.nil, [])) ∨
    ∃ (a : Addr) (len cap m : Nat) (D : Nat → DataW H) (Pl : Nat → List MemPlace), cs = [.slice (some a) len cap] ∧ base ≤ a.block ∧ len ≤ cap ∧ cap ≤ maxLen ∧ m = (if spare a.block then cap else len) ∧
      x = (.slice ((List.range len).map D) ((List.range (m - len)).map fun j => D (len + j)), MemPlace.row a (m * fs.size) ++ (List.range m).flatMap Pl) ∧
      ∀ i, i < m → ∃ (ys : List (DataW H × List MemPlace)) (n : Nat), D i = .agg (ys.map (·.1)) ∧ Pl i = ys.flatMap (·.2) ∧ ys.length = fs.size ∧
        ∀ (j : Nat) (f : Field), fs[j]? = some f → ∃ (v : Value) (y : DataW H × List MemPlace), w.cell? (a.add (i * fs.size + j)) = some v ∧ ys[j]? = some y ∧ DataW.trod enc P w base spare held n f.type [v] = some y := by
  rcases open_slice ht h with h0 | ⟨a, len, cap, m, n, D, Pl, hcs, hb, hl, hm, hmm, hx, hi⟩
  · exact .inl h0
  · refine .inr ⟨a, len, cap, m, D, Pl, hcs, hb, hl, hm, hmm, by rw [hC] at hx; exact hx, fun i him => ?_⟩
    obtain ⟨cs', hc, ht'⟩ := hi i him
    rw [hC] at hc
    obtain ⟨ys, n', hn', hy, hlen, hyl, hf⟩ := DataW.trod_struct he ht'
    obtain ⟨_, hcl, hat⟩ := World.cells?_some hc
    simp only [Prod.mk.injEq] at hy
    refine ⟨ys, n', hy.1, hy.2, hyl, fun j f hj => ?_⟩
    obtain ⟨ho, hk⟩ := hone_of hone j f hj
    have hjl : j < fs.size := (Array.getElem?_eq_some_iff.1 hj).1
    have hcell := hat j hjl
    have hv : cs'[j]? = some (cs'[j]'(by omega)) := List.getElem?_eq_getElem (by omega)
    have h1 := hf j f hj
    rw [ho, hk] at h1
    have hone' : (cs'.drop j).take 1 = [cs'[j]'(by omega)] := by
      rw [List.drop_eq_getElem_cons (by omega)]
      rfl
    rw [hone'] at h1
    have hys : ys[j]? = some (ys[j]'(by omega)) := List.getElem?_eq_getElem (by omega)
    refine ⟨_, _, ?_, hys, h1.trans hys⟩
    rw [← Go.Deep.add_add, hcell, hv]

/-- A slice of structs that came in: its length, and the cells of its elements at a plain address. -/
theorem slice_fields_at {t e : TypeId} {fs : Array Field} {fuel : Nat} {a : Option Addr} {len cap : Nat} {x : DataW H × List MemPlace} (ht : P.underlying t = some (.slice e)) (he : P.underlying e = some (.struct fs))
    (hone : oneCellFields P fs = true) (hC : P.cellsOf e = fs.size) (hpos : 0 < fs.size) (h : DataW.trod enc P w base (fun _ => true) held fuel t [.slice a len cap] = some x) :
    len ≤ maxLen ∧ (len = 0 ∨ ∃ b off, a = some ⟨b, off, none⟩ ∧ b < w.heap.size ∧ ∀ i, i < len → ∃ n, ∀ (j : Nat) (f : Field), fs[j]? = some f →
      ∃ (v : Value) (y : DataW H × List MemPlace), w.cell? ⟨b, off + i * fs.size + j, none⟩ = some v ∧ DataW.trod enc P w base (fun _ => true) held n f.type [v] = some y) := by
  rcases open_slice_fields ht he hone hC h with ⟨hcs, _⟩ | ⟨a', l, c, m, D, Pl, hcs, _, hl, hm, hmm, _, hi⟩
  · simp only [List.cons.injEq, Value.slice.injEq, and_true] at hcs
    obtain ⟨rfl, rfl, rfl⟩ := hcs
    exact ⟨Nat.zero_le _, .inl rfl⟩
  · simp only [List.cons.injEq, Value.slice.injEq, and_true] at hcs
    obtain ⟨rfl, rfl, rfl⟩ := hcs
    refine ⟨by omega, ?_⟩
    by_cases h0 : len = 0
    · exact .inl h0
    · right
      have hmc : m = cap := by simpa using hmm
      obtain ⟨ys, n, _, _, _, hf⟩ := hi 0 (by omega)
      obtain ⟨v, y, hc, _, _⟩ := hf 0 fs[0] (by simp [hpos])
      obtain ⟨b, off, spot⟩ := a'
      have hspot : spot = none := by simpa [Addr.add] using World.cell?_spot hc
      subst hspot
      refine ⟨b, off, rfl, by simpa [add_plain] using World.block_lt_of_cell? w _ hc, fun i hil => ?_⟩
      obtain ⟨ys, n, _, _, _, hf⟩ := hi i (by omega)
      refine ⟨n, fun j f hj => ?_⟩
      obtain ⟨v, y, hc, _, ht'⟩ := hf j f hj
      rw [add_plain, ← Nat.add_assoc] at hc
      exact ⟨v, y, hc, ht'⟩
end

end Go.Proofs.Ytliblhfabnjpkaa

namespace Go.Proofs.Ytliblhfabnjpkaa
open Go Go.RowKit Go.Deep
def zs (n : Nat) : List UInt8 := List.replicate n 0
theorem zs_length (n : Nat) : (zs n).length = n := List.length_replicate
/-- What the operations that make memory leave. -/
def FarRel (B n : Nat) (d : List UInt8) (p : Nat) (u : Value) (w : World) : Prop :=
  (p = 0 → ∃ R, u = .pointer (some ⟨R, 0, none⟩) ∧ B ≤ R ∧ RdAt w R (.slice none 0 0) [] 0) ∧
  (p = 9 → ∃ b, u = .slice (some ⟨b, 0, none⟩) 3 3 ∧ OwnsQ w u d) ∧
  (p = 13 → ∃ b, u = .slice (some ⟨b, 0, none⟩) n n ∧ OwnsQ w u (zs n))
theorem FarRel.keep (B n : Nat) (d : List UInt8) (p : Nat) (u : Value) (w w' : World) (h : FarRel B n d p u w) (hb : Below w.heap.size w w') : FarRel B n d p u w' := by
  refine ⟨fun e => ?_, fun e => ?_, fun e => ?_⟩
  · obtain ⟨R, h1, h2, h3⟩ := h.1 e
    exact ⟨R, h1, h2, ⟨keepB hb h3.cells, .nil _, h3.apart⟩⟩
  · obtain ⟨b, h1, h2⟩ := h.2.1 e
    exact ⟨b, h1, h2.keep fun g o _ ho => keepB hb ho⟩
  · obtain ⟨b, h1, h2⟩ := h.2.2 e
    exact ⟨b, h1, h2.keep fun g o _ ho => keepB hb ho⟩
theorem u8V_made' (n : Nat) : madeCells #[.int .u8 0] n = (u8s (zs n)).toArray := u8V_made n
theorem owns_zs (w : World) (n : Nat) (hn : n ≤ 1000000) : OwnsQ (w.alloc (.cells (u8s (zs n)).toArray 5)) (.slice (some ⟨w.heap.size, 0, none⟩) n n) (zs n) := by
  refine .inr ⟨w.heap.size, n, _, by rw [zs_length], alloc_at _ _, by rw [zs_length]; exact Nat.le_refl _, by simp [u8s_length, zs_length], ?_, ?_⟩
  · simp [u8s_length, zs_length]; unfold maxLen; omega
  · rw [show (zs n).length = (u8s (zs n)).length by rw [u8s_length]]; exact List.take_length
/-- The bytes of a message of n noughts. -/
def farL (n : Nat) : List UInt8 := 1 :: (be 3 n ++ zs n)
theorem far_feed (n : Nat) (hn : n < 16777216) (h : n ≤ 16384) : HE.feedL (farL n) = ([(1, zs n)], [], false) := by
  have hm : HE.msgN (farL n) = n := by
    have h1 : HE.msgN (farL n) = (UInt8.ofNat (n / 256 ^ 2 % 256)).toNat * 65536 + (UInt8.ofNat (n / 256 ^ 1 % 256)).toNat * 256 + (UInt8.ofNat (n / 256 ^ 0 % 256)).toNat := rfl
    rw [h1]
    simp
    omega
  have hl : (farL n).length = 4 + n := by simp [farL, be_length, zs_length]; omega
  rw [HE.feedL_step (by omega) (by omega) (by omega), hm]
  have e1 : (farL n).drop (4 + n) = [] := List.drop_eq_nil_of_le (by omega)
  have e2 : ((farL n).drop 4).take n = zs n := by
    have : (farL n).drop 4 = zs n := rfl
    rw [this, List.take_of_length_le (by rw [zs_length]; exact Nat.le_refl _)]
  rw [e1, e2]
  rfl
theorem far_feed_bad (n : Nat) (hn : n < 16777216) (h : 16384 < n) : (HE.feedL (farL n)).1 = [] ∧ (HE.feedL (farL n)).2.2 = true := by
  have hm : HE.msgN (farL n) = n := by
    have h1 : HE.msgN (farL n) = (UInt8.ofNat (n / 256 ^ 2 % 256)).toNat * 65536 + (UInt8.ofNat (n / 256 ^ 1 % 256)).toNat * 256 + (UInt8.ofNat (n / 256 ^ 0 % 256)).toNat := rfl
    rw [h1]
    simp
    omega
  have hl : (farL n).length = 4 + n := by simp [farL, be_length, zs_length]; omega
  rw [HE.feedL_bad (by omega) (by omega)]
  exact ⟨rfl, rfl⟩
theorem below_ad {w : World} (o : Obj) : Below w.heap.size w (w.alloc o).drew := (below_new o).drew
theorem far_keep {w : World} {o : Obj} {p q : Addr} {u v : Value} (h : w.cell? p = some u) (k : w.cell? q = some v) : (w.alloc o).drew.cell? p = some u ∧ (w.alloc o).drew.cell? q = some v ∧ Below w.heap.size w (w.alloc o).drew :=
  have b : Below w.heap.size w (w.alloc o).drew := (below_new o).drew
  ⟨(b.cell (p := p) (World.block_lt_of_cell? _ _ h)).trans h, (b.cell (p := q) (World.block_lt_of_cell? _ _ k)).trans k, b⟩
theorem keep_cell {w w' : World} {p : Addr} {v : Value} (hb : Below w.heap.size w w') (h : w.cell? p = some v) : w'.cell? p = some v := (hb.cell (p := p) (World.block_lt_of_cell? _ _ h)).trans h
set_option maxRecDepth 100000 in
set_option maxHeartbeats 8000000 in
theorem lfar_any (o : Int) (ho : -128 ≤ o ∧ o ≤ 127) (W : World) : Calls Try.prog 3 #[.int .i8 o] W fun e w' => e = .returned (.bool true) ∧ Below W.heap.size W w' := by
  obtain ⟨n, hn⟩ : ∃ n : Nat, (n : Int) = 16384 + o := ⟨(16384 + o).toNat, by omega⟩
  have hmk : ∀ w : World, (Instr.makeSlice 30 (.int .i64 (n : Int)) (.int .i64 (n : Int))).run Try.prog w = .ok (.slice (some ⟨w.heap.size, 0, none⟩) n n) (w.alloc (.cells (u8s (zs n)).toArray 5)) := fun w => by
    have := run_make_row' (P := Try.prog) 30 5 (.int .u8 0) 1 Try.underlying30 info_u8 rfl .i64 .i64 n (by omega) (by omega) w
    rw [u8V_made'] at this
    exact this
  go_enter Try.func3, Try.ntmps3
  go_upto_region 2 with (fail)
  rw [← hn]
  obtain ⟨d2, e2⟩ : ∃ d, UInt8.ofNat (n / 256 ^ 2 % 256) = d := ⟨_, rfl⟩
  obtain ⟨d1, e1⟩ : ∃ d, UInt8.ofNat (n / 256 ^ 1 % 256) = d := ⟨_, rfl⟩
  obtain ⟨d0, e0⟩ : ∃ d, UInt8.ofNat (n / 256 ^ 0 % 256) = d := ⟨_, rfl⟩
  have hD : be 3 n = [d2, d1, d0] := by rw [← e2, ← e1, ← e0]; rfl
  have hn1 : 16256 ≤ n := by omega
  have hn2 : n ≤ 16511 := by omega
  have HNO := hid hn
  have HO := hid ho
  clear hn ho
  have f2 : (n : Int) / 65536 % 256 = ((d2.toNat : Nat) : Int) := by rw [← e2]; simp
  have f1 : (n : Int) / 256 % 256 = ((d1.toNat : Nat) : Int) := by rw [← e1]; simp
  have f0 : (n : Int) % 256 = ((d0.toNat : Nat) : Int) := by rw [← e0]; simp
  have hL : farL n = 1 :: ([d2, d1, d0] ++ zs n) := by unfold farL; rw [hD]
  have f2' : (n : Int) / 65536 = ((d2.toNat : Nat) : Int) := by rw [← f2]; omega
  have f1' : (n : Int) / 256 = ((d1.toNat : Nat) : Int) := by rw [← f1]; omega
  clear e2 e1 e0
  have hzl := zs_length n
  have HL := hid hL
  clear hL hD
  have hst : (⟨#[1]⟩ : ByteArray) ++ ⟨#[d2, d1, d0]⟩ ++ ⟨(zs n).toArray⟩ = ⟨(farL n).toArray⟩ := by
    rw [HL.out, show (1 :: ([d2, d1, d0] ++ zs n) : List UInt8) = ([1] ++ [d2, d1, d0]) ++ zs n from rfl, ← str_app, ← str_app]
  have hsD : (⟨#[d2, d1, d0]⟩ : ByteArray).size = 3 := rfl
  have hsZ : (⟨(zs n).toArray⟩ : ByteArray).size = n := by simp [ByteArray.size, hzl]
  obtain ⟨D, hD⟩ : ∃ D, (⟨#[d2, d1, d0]⟩ : ByteArray) = D := ⟨_, rfl⟩
  obtain ⟨Z, hZ⟩ : ∃ Z, (⟨(zs n).toArray⟩ : ByteArray) = Z := ⟨_, rfl⟩
  rw [hD, hZ] at hst
  rw [hD] at hsD
  rw [hZ] at hsZ
  have hs1 : (⟨#[1]⟩ : ByteArray).size = 1 := rfl
  have hbig : ¬ (9223372036854775807 < 4 + n) := by omega
  have hs4 : ((⟨#[1]⟩ : ByteArray) ++ D).size = 4 := by rw [ByteArray.size_append, hsD]; rfl
  have HST := hid hst
  have HD := hid hD
  have HZ := hid hZ
  clear hst hD hZ
  refine wp_region_gho_then 16 [0, 9, 13] (FarRel W.heap.size n [d2, d1, d0]) (by kernel_rfl) (by kernel_rfl) (by kernel_rfl) (by kernel_rfl) (by kernel_rfl) (by kernel_rfl) (by kernel_rfl) (of_decide_eq_true (by kernel_rfl)) (FarRel.keep W.heap.size n [d2, d1, d0]) ?_
  simp only [List.take_succ_cons, List.take_zero, List.drop_succ_cons, List.drop_zero]
  repeat (first | (refine wpGho_plain (by kernel_rfl) (by decide) (by rfl) (by rfl) (fun K hK => ?_); go_simp; refine hK _ ?_; clear hK K; try go_ints))
  refine wpGho_make (by kernel_rfl) (by decide) (by rfl) (by rfl) (by rfl) (fun K hK => ?_)
  go_simp
  refine ⟨fun x => ?_, hK _ ?_⟩
  · refine ⟨rfl, newr_any.mono ?_⟩
    rintro e w' ⟨hb, rfl, hrd⟩
    exact ⟨_, rfl, hb, ⟨fun _ => ⟨_, rfl, x.h.size, hrd⟩, (fun e => by cases e), fun e => by cases e⟩⟩
  clear hK K
  try simp only [Act.put, List.setIfInBounds_toArray, List.set_cons_zero, List.set_cons_succ]
  repeat (first | (refine wpGho_plain (by kernel_rfl) (by decide) (by rfl) (by rfl) (fun K hK => ?_); go_simp; refine hK _ ?_; clear hK K; try go_ints))
  refine wpGho_make (by kernel_rfl) (by decide) (by rfl) (by rfl) (by rfl) (fun K hK => ?_)
  go_simp
  refine ⟨fun x => ⟨below_new _, ⟨(fun e => by cases e), (fun _ => ⟨_, rfl, .inr ⟨_, _, _, rfl, alloc_at _ _, by simp, by simp, by simp [maxLen], rfl⟩⟩), (fun e => by cases e)⟩⟩, hK _ ?_⟩
  clear hK K
  try simp only [Act.put, List.setIfInBounds_toArray, List.set_cons_zero, List.set_cons_succ]
  refine wpGho_read (by decide) (by rfl) (fun K hK => ?_)
  refine ⟨.string D, fun g x hR => ?_, hK _ ?_⟩
  · have h8 : FarRel W.heap.size n [d2, d1, d0] 9 (g 9) x.w' := hR 9 (by decide) (by kernel_rfl)
    obtain ⟨b8, hb8, hc8⟩ := h8.2.1 rfl
    rw [hb8] at hc8
    have cv := conv_q hc8 (Nat.succ_pos _)
    rw [show (⟨[d2, d1, d0].toArray⟩ : ByteArray) = D from HD.out] at cv
    rw [show ∀ a, over _ [0, 9, 13] g a = Act.put (Act.put (Act.put a (some 10) (g 0)) (some 19) (g 9)) (some 23) (g 13) from fun _ => rfl, hb8]
    clear hR h8 hc8
    go_simp
    done
  clear hK K
  try simp only [Act.put, List.setIfInBounds_toArray, List.set_cons_zero, List.set_cons_succ]
  repeat (first | (refine wpGho_plain (by kernel_rfl) (by decide) (by rfl) (by rfl) (fun K hK => ?_); go_simp; refine hK _ ?_; clear hK K; try go_ints))
  refine wpGho_make (by kernel_rfl) (by decide) (by rfl) (by rfl) (by rfl) (fun K hK => ?_)
  go_simp
  refine ⟨fun x => ⟨below_new _, ⟨(fun e => by cases e), (fun e => by cases e), fun _ => ⟨_, rfl, owns_zs _ n (by omega)⟩⟩⟩, hK _ ?_⟩
  clear hK K
  try simp only [Act.put, List.setIfInBounds_toArray, List.set_cons_zero, List.set_cons_succ]
  refine wpGho_read (by decide) (by rfl) (fun K hK => ?_)
  refine ⟨.string Z, fun g x hR => ?_, hK _ ?_⟩
  · have h8 : FarRel W.heap.size n [d2, d1, d0] 13 (g 13) x.w' := hR 13 (by decide) (by kernel_rfl)
    obtain ⟨b8, hb8, hc8⟩ := h8.2.2 rfl
    rw [hb8] at hc8
    have cv := conv_q hc8 (by omega)
    rw [HZ.out] at cv
    rw [show ∀ a, over _ [0, 9, 13] g a = Act.put (Act.put (Act.put a (some 10) (g 0)) (some 19) (g 9)) (some 23) (g 13) from fun _ => rfl, hb8]
    clear hR h8 hc8
    go_simp
    done
  clear hK K
  try simp only [Act.put, List.setIfInBounds_toArray, List.set_cons_zero, List.set_cons_succ]
  repeat (first | (refine wpGho_plain (by kernel_rfl) (by decide) (by rfl) (by rfl) (fun K hK => ?_); go_simp; refine hK _ ?_; clear hK K; try go_ints))
  refine wpGho_nil ?_
  intro g wM hwM hR
  obtain ⟨⟨w8, hM⟩, e8⟩ := hwM
  change wM = w8 at e8
  subst e8
  have r0 : FarRel W.heap.size n [d2, d1, d0] 0 (g 0) wM := hR 0 (by decide)
  have r9 : FarRel W.heap.size n [d2, d1, d0] 9 (g 9) wM := hR 9 (by decide)
  have r13 : FarRel W.heap.size n [d2, d1, d0] 13 (g 13) wM := hR 13 (by decide)
  obtain ⟨R, e0, hRB, hrd⟩ := r0.1 rfl
  obtain ⟨b9, e9, -⟩ := r9.2.1 rfl
  obtain ⟨b13, e13, -⟩ := r13.2.2 rfl
  rw [show ∀ a, over _ [0, 9, 13] g a = Act.put (Act.put (Act.put a (some 10) (g 0)) (some 19) (g 9)) (some 23) (g 13) from fun _ => rfl, e0, e9, e13]
  simp only [Act.put, List.setIfInBounds_toArray, List.set_cons_zero, List.set_cons_succ]
  have hfd := feed_any (farL n) hrd (fun j e => by cases e) (by simp [farL, be_length, zs_length]; omega)
  rw [List.nil_append, ← HST.out] at hfd
  have HFD := hid hfd
  have HM := hid hM
  have HRB := hid hRB
  clear hR r0 r9 r13 e0 e9 e13 hrd hfd hM hRB
  go_wp2_with fail
  refine HFD.out.mono ?_
  rintro e w3 ⟨mv, b, rfl, hms, -, ho, -⟩
  have B3 := hid (HM.out.trans (ho.below (B := W.heap.size) (fun k e => by have := HRB.out; rcases e with e | e; omega; cases e) HM.out.size))
  have hon := HNO.out
  clear ho HFD HM HRB hs1 hs4 hbig hsD f2 f1 f0 f2' f1' HNO
  have hA := hid (fun w => alive_any (W := w))
  by_cases hov : 16384 < n
  · obtain ⟨e1, e2⟩ := far_feed_bad n (by omega) hov
    rw [e1] at hms
    rw [e2]
    simp only [if_true]
    have hmv : ∃ a c, mv = .slice a 0 c := by
      rcases hms with ⟨h, -⟩ | ⟨g, cap, h, -⟩
      · exact ⟨_, _, h⟩
      · exact ⟨_, _, h⟩
    obtain ⟨ma, mc, rfl⟩ := hmv
    have dov : decide ((0 : Int) < o) = true := decide_eq_true (by omega)
    clear e1 e2 hms hmk hon
    go_wp2_with fail
    change wpStill _ _ _ _ _ _
    repeat (refine wpStill_step (fun K hK => ?_); go_simp; refine hK _ ?_; clear hK K; try go_ints)
    refine wpStill_nil ?_
    go_wp2_with fail
    refine (hA.out _).mono ?_
    rintro e w9 ⟨rfl, hb⟩
    have HB := hid (below_to B3.out hb)
    clear hb
    go_wp2_with fail
    go_ret
    exact ⟨rfl, HB.out⟩
  · have e1 := far_feed n (by omega) (by omega)
    rw [e1] at hms
    rw [e1]
    simp only [Bool.false_eq_true, if_false]
    rcases hms with ⟨-, h⟩ | ⟨g, cap, rfl, -, hgl, hms⟩
    · cases h
    obtain ⟨c0, c1⟩ := hms 0 _ rfl
    change w3.cell? ⟨g, 0, none⟩ = some (.int .u8 1) at c0
    change w3.cell? ⟨g, 1, none⟩ = some (.string ⟨(zs n).toArray⟩) at c1
    rw [HZ.out] at c1
    have dov : decide ((0 : Int) < o) = false := decide_eq_false (by omega)
    have hcz : (convert 30 9 (.slice (some ⟨w3.heap.size, 0, none⟩) n n)).run Try.prog (w3.alloc (.cells (u8s (zs n)).toArray 5)).drew = .ok (.string Z) (w3.alloc (.cells (u8s (zs n)).toArray 5)).drew := by
      have h0 : OwnsQ (w3.alloc (.cells (u8s (zs n)).toArray 5)).drew (.slice (some ⟨w3.heap.size, 0, none⟩) n n) (zs n) := owns_zs w3 n (by omega)
      have := conv_q h0 (by omega)
      rwa [HZ.out] at this
    clear e1 hms hon
    go_wp2_with fail
    change wpStill _ _ _ _ _ _
    repeat (refine wpStill_step (fun K hK => ?_); go_simp; refine hK _ ?_; clear hK K; try go_ints)
    refine wpStill_nil ?_
    go_wp2_with fail
    go_region_with (first | (go_at_call 10; refine (hA.out _).mono ?_; rintro e w9 ⟨rfl, hb⟩))
    all_goals
      have HB := hid (below_to B3.out (below_to (far_keep c0 c1).2.2 hb))
      clear hb
      go_wp2_with fail
      go_ret
      exact ⟨rfl, HB.out⟩
namespace helloFar
                         open Go.ChangeShapes Go.WideShapes Go.ChangeAt Go.RowKit
                         open Go.ChangeMaps (open_string shut_string)
                         theorem own : ownKnob Try.prog.godebug = none := by kernel_rfl
                         theorem laidOut : laidOutB Try.prog = true := by kernel_rfl
                         set_option maxRecDepth 100000 in
                         theorem lifted (os : Os) (started : os.Started) (H : Type) (enc : TypeId × Value → H) :
                             ReturnsInHanded {} Try.checked os 3 .any (Rows.helloFarSpec.pre6 enc Try.prog Try.f3 Rows.helloFarRow.domain false) (Rows.helloFarSpec.post enc Try.prog Try.f3 false true false false) := by
                           refine returnsInHanded_of_change (C := Try.checked) own started (by kernel_rfl) Try.func3
                             (ChangeSpec.witness6 (enc := enc) (C := Try.checked) false ⟨#[], #[.int .i8 0], []⟩ 8 (by kernel_rfl) (by kernel_rfl) (by kernel_rfl) (by kernel_rfl)) ?_
                           intro W base args ds gs before hval0 hW hcnd _
                           have hval : ∀ (j : Nat) t v, Try.f3.params[j]? = some t → args[j]? = some v → Value.okWide Try.prog W .any base t v := hval0
                           have hW' := hW
                           obtain ⟨p, q, hA0, hV, rfl, hfz, hnd⟩ := hW
                           have hA : DataW.TrodAll enc Try.prog W 0 (fun _ => true) true Try.f3.params.toList args.toList ds p := hA0
                           rw [Try.params3] at hA hval
                           obtain ⟨v0, vs0, d0, ds0, p0, q0, hargs, rfl, rfl, h0, r0⟩ := trodAll_cons hA
                           obtain ⟨rfl, rfl, rfl⟩ := trodAll_nil r0
                           obtain rfl : args = #[v0] := by cases args; simp_all
                           obtain ⟨rfl, rfl⟩ := trodVars_none hV
                           have k0 := h0
                           have lt0 : ∀ x ∈ p0, x.block < W.heap.size := by obtain ⟨m, hm⟩ := k0; exact DataW.trod_lt m _ _ _ hm
                           obtain ⟨a0, rfl, rfl, rfl, w0⟩ := open_int Try.underlying22 (hval 0 22 v0 rfl rfl) h0
                           clear hA0 hval0
                           have b0 := bounds_i8 w0
                           refine Calls.mono (R := fun e w' => e = .returned (.bool true) ∧ Below W.heap.size W w') ?_ fun e W' ⟨he, bel⟩ => ?_
                           · exact lfar_any a0 ⟨by omega, by omega⟩ W
                           subst he
                           exact ⟨_, rfl, _, _, _, [], _, [], hW', trodAll_mk1 (shut_bool Try.underlying4 _), (trodAll_cons_mk (Below.trod laidOut (by kernel_rfl) (of_decide_eq_true (by kernel_rfl)) k0 bel lt0) trodAll_mk0), rfl, bel.frame _, fun h => by cases h⟩
                         
                         theorem over : Rows.helloFarRow.holds Try.pinned (OpenSpec.ofChange Rows.helloFarSpec) :=
                           OpenClaim.holds_of_wide 3 Try.f3 rfl rfl rfl rfl rfl rfl rfl ⟨rfl, rfl, rfl, rfl, rfl⟩ rfl rfl rfl rfl rfl (by kernel_rfl) Try.func3 (by kernel_rfl)
                             (of_decide_eq_true (by kernel_rfl)) (by unfold Func.isWrapper; first | (rw [if_pos (by decide +kernel)]; kernel_rfl) | (rw [if_neg (by decide +kernel)]; exact ⟨rfl, rfl⟩))
                             (fun os started H enc _ => lifted os started H enc)
                         end helloFar
                         /-- The given statement. -/
                         theorem helloFar_proved : Rows.HelloFarSaid := helloFar.over
                         #print axioms helloFar_proved
end Go.Proofs.Ytliblhfabnjpkaa
