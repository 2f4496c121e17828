/- The law HelloReads: for every input it returns true and leaves its arguments as they were. -/
import Derived.Test.YtliblhfabnjpkaaM01
import Derived.ProofKit
import Derived.OpenShut
import Derived.ShutString
import Derived.ChangeOld
import Derived.Deep.Slices
import Derived.Deep.Fields
import Derived.ChangeSame
import Derived.Test.YtliblhfabnjpkaaM06
import Derived.Test.YtliblhfabnjpkaaM07
import Derived.Test.YtliblhfabnjpkaaM08
import Derived.Lib.MinMax
import Derived.Deep.Strs
namespace Go.Proofs.Ytliblhfabnjpkaa
open Go.RowKit Go.ChangeShapes Go.WideShapes Go.Deep

section
variable {H : Type} {enc : TypeId × Value → H} {P : Program} {w : World} {base : Nat} {spare : Nat → Bool} {held : Bool}
/-- The kit's own page on structs has this theorem for copying: a slice of structs, each field of one cell. -/
theorem open_slice_fields {t e : TypeId} {fs : Array Field} {fuel : Nat} {cs : List Value} {x : DataW H × List MemPlace} (ht : P.underlying t = some (.slice e)) (he : P.underlying e = some (.struct fs))
    (hone : oneCellFields P fs = true) (hC : P.cellsOf e = fs.size) (h : DataW.trod enc P w base spare held fuel t cs = some x) :
    (cs = [.slice none 0 0] ∧ x = (.nil, [])) ∨
    ∃ (a : Addr) (len cap m : Nat) (D : Nat → DataW H) (Pl : Nat → List MemPlace), cs = [.slice (some a) len cap] ∧ base ≤ a.block ∧ len ≤ cap ∧ cap ≤ maxLen ∧ m = (if spare a.block then cap else len) ∧
      x = (.slice ((List.range len).map D) ((List.range (m - len)).map fun j => D (len + j)), MemPlace.row a (m * fs.size) ++ (List.range m).flatMap Pl) ∧
      ∀ i, i < m → ∃ (ys : List (DataW H × List MemPlace)) (n : Nat), D i = .agg (ys.map (·.1)) ∧ Pl i = ys.flatMap (·.2) ∧ ys.length = fs.size ∧
        ∀ (j : Nat) (f : Field), fs[j]? = some f → ∃ (v : Value) (y : DataW H × List MemPlace), w.cell? (a.add (i * fs.size + j)) = some v ∧ ys[j]? = some y ∧ DataW.trod enc P w base spare held n f.type [v] = some y := by
  rcases open_slice ht h with h0 | ⟨a, len, cap, m, n, D, Pl, hcs, hb, hl, hm, hmm, hx, hi⟩
  · exact .inl h0
  · refine .inr ⟨a, len, cap, m, D, Pl, hcs, hb, hl, hm, hmm, by rw [hC] at hx; exact hx, fun i him => ?_⟩
    obtain ⟨cs', hc, ht'⟩ := hi i him
    rw [hC] at hc
    obtain ⟨ys, n', hn', hy, hlen, hyl, hf⟩ := DataW.trod_struct he ht'
    obtain ⟨_, hcl, hat⟩ := World.cells?_some hc
    simp only [Prod.mk.injEq] at hy
    refine ⟨ys, n', hy.1, hy.2, hyl, fun j f hj => ?_⟩
    obtain ⟨ho, hk⟩ := hone_of hone j f hj
    have hjl : j < fs.size := (Array.getElem?_eq_some_iff.1 hj).1
    have hcell := hat j hjl
    have hv : cs'[j]? = some (cs'[j]'(by omega)) := List.getElem?_eq_getElem (by omega)
    have h1 := hf j f hj
    rw [ho, hk] at h1
    have hone' : (cs'.drop j).take 1 = [cs'[j]'(by omega)] := by
      rw [List.drop_eq_getElem_cons (by omega)]
      rfl
    rw [hone'] at h1
    have hys : ys[j]? = some (ys[j]'(by omega)) := List.getElem?_eq_getElem (by omega)
    refine ⟨_, _, ?_, hys, h1.trans hys⟩
    rw [← Go.Deep.add_add, hcell, hv]

/-- A slice of structs that came in: its length, and the cells of its elements at a plain address. -/
theorem slice_fields_at {t e : TypeId} {fs : Array Field} {fuel : Nat} {a : Option Addr} {len cap : Nat} {x : DataW H × List MemPlace} (ht : P.underlying t = some (.slice e)) (he : P.underlying e = some (.struct fs))
    (hone : oneCellFields P fs = true) (hC : P.cellsOf e = fs.size) (hpos : 0 < fs.size) (h : DataW.trod enc P w base (fun _ => true) held fuel t [.slice a len cap] = some x) :
    len ≤ maxLen ∧ (len = 0 ∨ ∃ b off, a = some ⟨b, off, none⟩ ∧ b < w.heap.size ∧ ∀ i, i < len → ∃ n, ∀ (j : Nat) (f : Field), fs[j]? = some f →
      ∃ (v : Value) (y : DataW H × List MemPlace), w.cell? ⟨b, off + i * fs.size + j, none⟩ = some v ∧ DataW.trod enc P w base (fun _ => true) held n f.type [v] = some y) := by
  rcases open_slice_fields ht he hone hC h with ⟨hcs, _⟩ | ⟨a', l, c, m, D, Pl, hcs, _, hl, hm, hmm, _, hi⟩
  · simp only [List.cons.injEq, Value.slice.injEq, and_true] at hcs
    obtain ⟨rfl, rfl, rfl⟩ := hcs
    exact ⟨Nat.zero_le _, .inl rfl⟩
  · simp only [List.cons.injEq, Value.slice.injEq, and_true] at hcs
    obtain ⟨rfl, rfl, rfl⟩ := hcs
    refine ⟨by omega, ?_⟩
    by_cases h0 : len = 0
    · exact .inl h0
    · right
      have hmc : m = cap := by simpa using hmm
      obtain ⟨ys, n, _, _, _, hf⟩ := hi 0 (by omega)
      obtain ⟨v, y, hc, _, _⟩ := hf 0 fs[0] (by simp [hpos])
      obtain ⟨b, off, spot⟩ := a'
      have hspot : spot = none := by simpa [Addr.add] using World.cell?_spot hc
      subst hspot
      refine ⟨b, off, rfl, by simpa [add_plain] using World.block_lt_of_cell? w _ hc, fun i hil => ?_⟩
      obtain ⟨ys, n, _, _, _, hf⟩ := hi i (by omega)
      refine ⟨n, fun j f hj => ?_⟩
      obtain ⟨v, y, hc, _, ht'⟩ := hf j f hj
      rw [add_plain, ← Nat.add_assoc] at hc
      exact ⟨v, y, hc, ht'⟩
end

end Go.Proofs.Ytliblhfabnjpkaa

namespace Go.Proofs.Ytliblhfabnjpkaa
open Go Go.RowKit
namespace HE
/-- The document's reader: byte by byte. -/
def byteL : BS → BS → List (UInt8 × BS) × BS × Bool
  | B, [] => ([], B, false)
  | B, c :: s =>
    if (B ++ [c]).length < 4 then byteL (B ++ [c]) s else
    if 16384 < msgN (B ++ [c]) then ([], B ++ [c], true) else
    if (B ++ [c]).length = 4 + msgN (B ++ [c]) then
      let r := byteL [] s
      (((B ++ [c]).getD 0 0, (B ++ [c]).drop 4) :: r.1, r.2)
    else byteL (B ++ [c]) s
/-- Bytes that are no whole message. -/
def Quiet (B : BS) : Prop := B.length < 4 ∨ (¬ 16384 < msgN B ∧ B.length < 4 + msgN B)
theorem Quiet.feed {B : BS} (h : Quiet B) : feedL B = ([], B, false) := by
  by_cases h4 : B.length < 4
  · exact feedL_short h4
  · rcases h with h | ⟨h1, h2⟩
    · exact absurd h h4
    · exact feedL_part h4 h1 h2
theorem quiet_nil : Quiet [] := .inl (by decide)
theorem getD_app (B s : BS) (k : Nat) (h : k < B.length) : (B ++ s).getD k 0 = B.getD k 0 := by
  rw [List.getD_eq_getElem?_getD, List.getD_eq_getElem?_getD, List.getElem?_append_left h]
theorem msgN_app (B s : BS) (h : ¬ B.length < 4) : msgN (B ++ s) = msgN B := by
  unfold msgN
  rw [getD_app B s 1 (by omega), getD_app B s 2 (by omega), getD_app B s 3 (by omega)]
theorem quiet_next {B : BS} {c : UInt8} (h : Quiet B) (h4 : ¬ (B ++ [c]).length < 4) (hN : ¬ 16384 < msgN (B ++ [c])) (hne : (B ++ [c]).length ≠ 4 + msgN (B ++ [c])) : Quiet (B ++ [c]) := by
  refine .inr ⟨hN, ?_⟩
  rw [List.length_append, List.length_singleton] at h4 hne ⊢
  by_cases hb : B.length < 4
  · omega
  · rcases h with h | ⟨_, h2⟩
    · exact absurd h hb
    · rw [msgN_app B [c] hb] at hne ⊢
      omega
/-- What both readers tell of the bytes B, then s. -/
def Alike (f r : List (UInt8 × BS) × BS × Bool) : Prop := f.1 = r.1 ∧ f.2.2 = r.2.2 ∧ (r.2.2 = false → f.2.1 = r.2.1 ∧ Quiet r.2.1)
theorem byte_feed : ∀ (s B : BS), Quiet B → Alike (feedL (B ++ s)) (byteL B s)
  | [], B, h => by
    rw [List.append_nil, h.feed]
    exact ⟨rfl, rfl, fun _ => ⟨rfl, h⟩⟩
  | c :: s, B, h => by
    rw [show B ++ c :: s = (B ++ [c]) ++ s by simp, byteL]
    by_cases h4 : (B ++ [c]).length < 4
    · rw [if_pos h4]
      exact byte_feed s _ (.inl h4)
    · rw [if_neg h4]
      by_cases hN : 16384 < msgN (B ++ [c])
      · rw [if_pos hN, feedL_bad (by rw [List.length_append]; omega) (by rw [msgN_app _ _ h4]; exact hN)]
        exact ⟨rfl, rfl, fun e => by cases e⟩
      · rw [if_neg hN]
        by_cases he : (B ++ [c]).length = 4 + msgN (B ++ [c])
        · rw [if_pos he, feedL_step (by rw [List.length_append]; omega) (by rw [msgN_app _ _ h4]; exact hN) (by rw [msgN_app _ _ h4, List.length_append]; omega), msgN_app _ _ h4]
          have hd : ((B ++ [c]) ++ s).drop (4 + msgN (B ++ [c])) = s := by rw [← he]; exact List.drop_left
          have ht : (((B ++ [c]) ++ s).drop 4).take (msgN (B ++ [c])) = (B ++ [c]).drop 4 := by
            rw [List.drop_append_of_le_length (by omega), List.take_append_of_le_length (by rw [List.length_drop]; omega)]
            exact List.take_of_length_le (by rw [List.length_drop]; omega)
          rw [hd, ht, getD_app _ _ 0 (by omega)]
          obtain ⟨i1, i2, i3⟩ := byte_feed s [] quiet_nil
          rw [List.nil_append] at i1 i2 i3
          exact ⟨by simp only [i1], i2, i3⟩
        · rw [if_neg he]
          exact byte_feed s _ (quiet_next h h4 hN he)
end HE
end Go.Proofs.Ytliblhfabnjpkaa

namespace Go.Proofs.Ytliblhfabnjpkaa
open Go Go.RowKit
def FrRel (k : UInt8) (_ : Nat) (u : Value) (w : World) : Prop := ∃ b, u = .slice (some ⟨b, 0, none⟩) 1 1 ∧ OwnsQ w u [k]
theorem FrRel.keep (k : UInt8) (p : Nat) (u : Value) (w w' : World) (h : FrRel k p u w) (hb : Below w.heap.size w w') : FrRel k p u w' := by
  obtain ⟨b, h1, h2⟩ := h
  exact ⟨b, h1, h2.keep fun g o _ ho => keepB hb ho⟩
section
variable {w : World}
theorem rframe_no (k : UInt8) (b : List UInt8) (hb : 16384 < b.length) : Calls Try.prog 17 #[.agg #[.int .u8 (k.toNat : Int), .string ⟨b.toArray⟩]] w fun e w' => Below w.heap.size w w' ∧ e = .returned (.tuple #[.string ⟨#[]⟩, .int .i64 4]) := by
  have hs : (⟨b.toArray⟩ : ByteArray).size = b.length := by simp [ByteArray.size]
  obtain ⟨T, hT⟩ : ∃ T, (⟨b.toArray⟩ : ByteArray) = T := ⟨_, rfl⟩
  rw [hT] at hs ⊢
  have d1 : decide ((16384 : Int) < (b.length : Int)) = true := decide_eq_true (by omega)
  have H := hid (below_new (w := w) (.cells #[.int .u8 (k.toNat : Int), .string T] 33))
  clear hT
  go_enter Try.func17, Try.ntmps17
  go_wp2_with fail
  go_ret2
  exact ⟨H.out, rfl⟩
set_option maxRecDepth 100000 in
set_option maxHeartbeats 2000000 in
theorem rframe_yes (k : UInt8) (b : List UInt8) (hb : b.length ≤ 16384) : Calls Try.prog 17 #[.agg #[.int .u8 (k.toNat : Int), .string ⟨b.toArray⟩]] w fun e w' => Below w.heap.size w w' ∧ e = .returned (.tuple #[.string ⟨(frameL k b).toArray⟩, .int .i64 0]) := by
  have hs : (⟨b.toArray⟩ : ByteArray).size = b.length := by simp [ByteArray.size]
  have hcl : ∀ w1 : World, Calls Try.prog 50 #[.string ⟨b.toArray⟩, .int .i64 3] w1 fun e w' => e = .returned (.string ⟨(be 3 b.length ++ b).toArray⟩) ∧ Below w1.heap.size w1 w' := fun w1 => (rlist_any (w := w1) b 3 (by omega) (by omega)).mono fun e w' h => ⟨h.2, h.1⟩
  have z1 : (⟨[k].toArray⟩ : ByteArray).size = 1 := rfl
  have z2 : (⟨(be 3 b.length ++ b).toArray⟩ : ByteArray).size = 3 + b.length := by simp [ByteArray.size, be_length]
  have e3 : (⟨[k].toArray⟩ : ByteArray) ++ ⟨(be 3 b.length ++ b).toArray⟩ = ⟨(frameL k b).toArray⟩ := by rw [str_app]; rfl
  have hk0 : ∀ (w1 : World) (v : Value), OwnsQ w1 v [k] → (convert 30 9 v).run Try.prog w1 = .ok (.string ⟨[k].toArray⟩) w1 := fun w1 v h => conv_q h (Nat.succ_pos 0)
  obtain ⟨T, hT⟩ : ∃ T, (⟨b.toArray⟩ : ByteArray) = T := ⟨_, rfl⟩
  rw [hT] at hs ⊢
  simp only [hT] at hcl
  obtain ⟨K1, hK1⟩ : ∃ T, (⟨[k].toArray⟩ : ByteArray) = T := ⟨_, rfl⟩
  rw [hK1] at z1 e3
  simp only [hK1] at hk0
  obtain ⟨X, hX⟩ : ∃ T, (⟨(be 3 b.length ++ b).toArray⟩ : ByteArray) = T := ⟨_, rfl⟩
  rw [hX] at z2 e3
  simp only [hX] at hcl
  have HC := hid hcl
  have HK := hid hk0
  have E3 := hid e3
  have d1 : decide ((16384 : Int) < (b.length : Int)) = false := decide_eq_false (by omega)
  have d7 : ¬ (9223372036854775807 < 1 + (3 + b.length)) := by omega
  have hb1 := hid (below_new (w := w) (.cells #[.int .u8 (k.toNat : Int), .string T] 33))
  have c0 : (w.alloc (.cells #[.int .u8 (k.toNat : Int), .string T] 33)).cell? ⟨w.heap.size, 0, none⟩ = some (.int .u8 (k.toNat : Int)) := cell_at (alloc_at _ _) 0
  have c1 : (w.alloc (.cells #[.int .u8 (k.toNat : Int), .string T] 33)).cell? ⟨w.heap.size, 1, none⟩ = some (.string T) := cell_at (alloc_at _ _) 1
  clear hcl hT hk0 hK1 hX e3
  go_enter Try.func17, Try.ntmps17
  go_wp2_with fail
  have lc0 := later_cell c0
  have lc1 := later_cell c1
  refine wp_region_gho [2] (FrRel k) (by kernel_rfl) (by kernel_rfl) (by kernel_rfl) (FrRel.keep k) ?_
  repeat (first | (refine wpGho_plain (by kernel_rfl) (by decide) (by rfl) (by rfl) (fun K hK => ?_); go_simp; refine hK _ ?_; clear hK K; try go_ints) | (refine wpGho_plain (by kernel_rfl) (by decide) (by rfl) (by rfl) (fun K hK => ?_); go_simp; refine ⟨_, fun x => (HC.out _), hK _ ?_⟩; clear hK K; try go_ints))
  refine wpGho_make (by kernel_rfl) (by decide) (by rfl) (by rfl) (by rfl) (fun K hK => ?_)
  go_simp
  refine ⟨fun x => ⟨below_new _, _, rfl, owns_one _ _⟩, hK _ ?_⟩
  clear hK K
  refine wpGho_read (by decide) (by rfl) (fun K hK => ?_)
  refine ⟨.string K1, fun g x hR => ?_, hK _ ?_⟩
  · have hq : FrRel k 2 (g 2) x.w' := hR 2 (by decide) (by kernel_rfl)
    obtain ⟨b, hb, hc⟩ := hq
    rw [show ∀ a, over _ [2] g a = Act.put a (some 10) (g 2) from fun _ => rfl, hb]
    rw [hb] at hc
    have cv := HK.out x.w' _ hc
    clear lc0 lc1 hR
    go_simp
    done
  clear hK K
  simp only [Act.put, List.setIfInBounds_toArray, List.set_cons_zero, List.set_cons_succ]
  refine wpGho_plain (by kernel_rfl) (by decide) (by rfl) (by rfl) (fun K hK => ?_); go_simp; refine hK _ ?_; clear hK K
  refine wpGho_plain (by kernel_rfl) (by decide) (by rfl) (by rfl) (fun K hK => ?_); go_simp; refine hK _ ?_; clear hK K
  refine wpGho_plain (by kernel_rfl) (by decide) (by rfl) (by rfl) (fun K hK => ?_)
  go_simp
  refine ⟨_, fun x => (HC.out _), hK _ ?_⟩
  clear hK K
  refine wpGho_plain (by kernel_rfl) (by decide) (by rfl) (by rfl) (fun K hK => ?_); go_simp; refine hK _ ?_; clear hK K
  repeat (first | (refine wpGho_plain (by kernel_rfl) (by decide) (by rfl) (by rfl) (fun K hK => ?_); go_simp; refine hK _ ?_; clear hK K; try go_ints))
  refine wpGho_nil ?_
  intro g wM hwM hR
  obtain ⟨⟨w8, hM⟩, e8⟩ := hwM
  change wM = w8 at e8
  subst e8
  obtain ⟨b8, hb8, hc8⟩ := hR 2 (by decide)
  rw [show ∀ a, over _ [2] g a = Act.put a (some 10) (g 2) from fun _ => rfl, hb8]
  simp only [Act.put, List.setIfInBounds_toArray, List.set_cons_zero, List.set_cons_succ]
  have BM := hid (below_to hb1.out hM)
  clear lc0 lc1 c0 c1 hM hb8 hc8 hR hb1
  go_wp2_with fail
  go_ret2
  exact ⟨BM.out, by rw [← E3.out]; rfl⟩
end
end Go.Proofs.Ytliblhfabnjpkaa

namespace Go.Proofs.Ytliblhfabnjpkaa
open Go Go.RowKit
theorem MsgsAt.shape {w : World} {B : Nat} {v : Value} {l : List (UInt8 × HE.BS)} (h : MsgsAt w B v l) : ∃ a cap, v = .slice a l.length cap ∧ ∀ k x, l[k]? = some x → ∃ g, a = some ⟨g, 0, none⟩ ∧ w.cell? ⟨g, k * 2, none⟩ = some (.int .u8 (x.1.toNat : Int)) ∧ w.cell? ⟨g, k * 2 + 1, none⟩ = some (.string ⟨x.2.toArray⟩) := by
  rcases h with ⟨rfl, rfl⟩ | ⟨g, cap, rfl, -, -, h⟩
  · exact ⟨none, 0, rfl, fun k x hx => by cases hx⟩
  · exact ⟨_, cap, rfl, fun k x hx => ⟨g, rfl, h k x hx⟩⟩
set_option maxRecDepth 100000 in
set_option maxHeartbeats 2000000 in
theorem messages_any {w : World} {B1 B2 : Nat} {v1 v2 : Value} {l : List (UInt8 × HE.BS)} (h1 : MsgsAt w B1 v1 l) (h2 : MsgsAt w B2 v2 l) (hl : l.length ≤ 1000000) : Calls Try.prog 19 #[v1, v2] w fun e w' => Dr w w' ∧ e = .returned (.bool true) := by
  obtain ⟨a1, p1, rfl, m1⟩ := h1.shape
  obtain ⟨a2, p2, rfl, m2⟩ := h2.shape
  clear h1 h2
  have M1 := hid m1
  have M2 := hid m2
  clear m1 m2
  go_enter Try.func19, Try.ntmps19
  go_wp2_with fail
  go_loopw [5] (fun i wr => ∃ k : Nat, k ≤ l.length ∧ i = .int .i64 (k : Int) ∧ Dr w wr) (fun i _ => (l.length - intOf i).toNat)
  case atStart => exact ⟨0, Nat.zero_le _, rfl, Dr.refl _⟩
  case round =>
    obtain ⟨k, hk, rfl, hd⟩ := hrel
    have hce : ∀ p : Addr, wr.cell? p = w.cell? p := fun p => by obtain ⟨n, rfl⟩ := hd; rfl
    have HD := hid hd
    clear hd
    by_cases hkn : k < l.length
    · have dk : decide ((k : Int) < (l.length : Int)) = true := decide_eq_true (by omega)
      obtain ⟨x, hx⟩ : ∃ x, l[k]? = some x := ⟨_, List.getElem?_eq_getElem hkn⟩
      obtain ⟨g1, rfl, c0, c1⟩ := M1.out k x hx
      obtain ⟨g2, rfl, c2, c3⟩ := M2.out k x hx
      rw [← hce] at c0 c1 c2 c3
      clear hx hce
      obtain ⟨X, hX⟩ : ∃ X, (⟨x.2.toArray⟩ : ByteArray) = X := ⟨_, rfl⟩
      rw [hX] at c1 c3
      obtain ⟨K, hK⟩ : ∃ K, (x.1.toNat : Int) = K := ⟨_, rfl⟩
      rw [hK] at c0 c2
      clear hX hK
      have q1 : (0 : Int) ≤ (k : Int) := by omega
      have q2 : (k : Int) < (l.length : Int) := by omega
      go_wp2_with fail
      go_quiet (fail)
      go_wp2_with fail
      exact ⟨⟨k + 1, by omega, by go_num, HD.out.drewN _⟩, by simp only [intOf]; omega⟩
    · have dk : decide ((k : Int) < (l.length : Int)) = false := decide_eq_false (by omega)
      go_wp2_with fail
      go_ret
      exact ⟨HD.out, rfl⟩
end Go.Proofs.Ytliblhfabnjpkaa

namespace Go.Proofs.Ytliblhfabnjpkaa
open Go Go.RowKit
/-- The document's reader at block X. -/
def RefAt (w : World) (X : Nat) (B : HE.BS) (bad : Bool) : Prop := hget w X = some (.cells #[.string ⟨B.toArray⟩, .int .i64 (if bad then 270 else 0)] 55 (0, 0))
theorem RefAt.keep {w w' : World} {X : Nat} {B : HE.BS} {bad : Bool} (h : RefAt w X B bad) (hb : Below w.heap.size w w') : RefAt w' X B bad := keepB hb h
/-- How memory stands while it runs. -/
structure RW (W w : World) (X : Nat) (v : Value) (B0 s : HE.BS) (k : Nat) (ms : List (UInt8 × HE.BS)) (B : HE.BS) (bad : Bool) : Prop where
  told : HE.byteL B0 s = if bad then (ms, B, true) else (ms ++ (HE.byteL B (s.drop k)).1, (HE.byteL B (s.drop k)).2)
  row : w.ownsRow W.heap.size 33 2 v ms.length (msgVs ms)
  rd : RefAt w X B bad
  out : Out (fun k => k = X) W w
  lt : X < W.heap.size
  room : ms.length + B.length ≤ B0.length + k
theorem RW.below {W w w' : World} {X : Nat} {v : Value} {B0 s : HE.BS} {k : Nat} {ms : List (UInt8 × HE.BS)} {B : HE.BS} {bad : Bool} (h : RW W w X v B0 s k ms B bad) (hb : Below w.heap.size w w') : RW W w' X v B0 s k ms B bad :=
  ⟨h.told, owns_keep h.row fun g _ hlt _ => hb.block g hlt, h.rd.keep hb, h.out.then (Out.of_below hb), h.lt, h.room⟩
/-- One byte more. -/
theorem RW.push {W w : World} {X : Nat} {v : Value} {B0 s B' : HE.BS} {k : Nat} {ms : List (UInt8 × HE.BS)} {B : HE.BS} (h : RW W w X v B0 s k ms B false) (Y : ByteArray) (hY : (⟨B'.toArray⟩ : ByteArray) = Y) :
    RefAt (w.setCell ⟨X, 0, none⟩ (.string Y)).drew X B' false ∧ (w.setCell ⟨X, 0, none⟩ (.string Y)).drew.ownsRow W.heap.size 33 2 v ms.length (msgVs ms) ∧ Out (fun k => k = X) W (w.setCell ⟨X, 0, none⟩ (.string Y)).drew := by
  subst hY
  have ho : Out (fun k => k = X) w (w.setCell ⟨X, 0, none⟩ (.string ⟨B'.toArray⟩)).drew := (Out.setCell (Out.refl (fun k => k = X) w) (.inl rfl) _).drew
  exact ⟨hget_setCell h.rd 0 _, owns_out h.row ho (fun k hk e => by have := h.lt; omega), h.out.trans ho (fun k _ e => e)⟩
def RFeedV (W : World) (X : Nat) (r : List (UInt8 × HE.BS) × HE.BS × Bool) (e : Ending) (w' : World) : Prop :=
  ∃ mv, e = .returned (.tuple #[mv, .int .i64 (if r.2.2 then 270 else 0)]) ∧ MsgsAt w' W.heap.size mv r.1 ∧ RefAt w' X r.2.1 r.2.2 ∧ Out (fun k => k = X) W w'
theorem row_msgs {w : World} {B : Nat} {v : Value} {ms : List (UInt8 × HE.BS)} (h : w.ownsRow B 33 2 v ms.length (msgVs ms)) : ∃ a c, v = .slice a ms.length c ∧ MsgsAt w B v ms := by
  obtain ⟨hl, ⟨rfl, hn⟩ | ⟨g, cap, cur, rfl, h2, h3, h4, h5, h6⟩⟩ := h
  · rw [hn]
    exact ⟨none, 0, rfl, .inl ⟨rfl, List.length_eq_zero_iff.1 hn⟩⟩
  · refine ⟨some ⟨g, 0, none⟩, cap, rfl, .inr ⟨g, cap, rfl, h2, hget_lt h3, fun k x hx => ?_⟩⟩
    have hk : k < ms.length := (List.getElem?_eq_some_iff.1 hx).1
    obtain ⟨e1, e2⟩ := msgVs_at ms k x hx
    have hrow : w.ownsRow B 33 2 (.slice (some ⟨g, 0, none⟩) ms.length cap) ms.length (msgVs ms) := ⟨hl, .inr ⟨g, cap, cur, rfl, h2, h3, h4, h5, h6⟩⟩
    exact ⟨(hrow.cellAt (k * 2) (by omega)).trans e1, (hrow.cellAt (k * 2 + 1) (by omega)).trans e2⟩
theorem idx_str (B : HE.BS) (j : Nat) (h : j < B.length) (w : World) :
    (Instr.index 9 (.string ⟨B.toArray⟩) (.int .i64 (j : Int))).run Try.prog w = .ok (.int .u8 ((B.getD j 0).toNat : Int)) w := by
  have hs := text_size B
  rw [run_index_string w 9 _ _ _ Try.underlying9, dif_pos ⟨Int.natCast_nonneg j, by rw [hs]; omega⟩]
  simp only [Int.toNat_natCast]
  rw [List.getD_eq_getElem?_getD, List.getElem?_eq_getElem h]
  rfl
attribute [-go_sem] run_index_string in
set_option maxRecDepth 100000 in
set_option maxHeartbeats 8000000 in
theorem rfeed_any {w : World} {X : Nat} {B0 : HE.BS} (s : HE.BS) (h : RefAt w X B0 false) (hl : B0.length + s.length ≤ 1000000) :
    Calls Try.prog 18 #[.pointer (some ⟨X, 0, none⟩), .string ⟨s.toArray⟩] w (RFeedV w X (HE.byteL B0 s)) := by
  have hlt := hget_lt h
  have hss := text_size s
  have h0 : RW w w X (.slice none 0 0) B0 s 0 [] B0 false := ⟨by simp, World.ownsRow_nil _ _ _ _, h, Out.refl _ _, hlt, by simp⟩
  have hex : ∀ k c, s[k]? = some c → ∀ B : HE.BS, (⟨B.toArray⟩ : ByteArray) ++ (⟨s.toArray⟩ : ByteArray).extract k (k + 1) = ⟨(B ++ [c]).toArray⟩ := fun k c hk B => by
    have e : (⟨s.toArray⟩ : ByteArray).extract k (k + 1) = ⟨[c].toArray⟩ := by
      apply ByteArray.ext; apply Array.ext'
      simp only [ByteArray.data_extract, Array.toList_extract, List.extract, Nat.add_sub_cancel_left]
      obtain ⟨hkl, hkc⟩ := List.getElem?_eq_some_iff.1 hk
      rw [List.drop_eq_getElem_cons (l := s) hkl, hkc]; rfl
    rw [e, str_app]
  have H0 := hid h0
  have HEX := hid hex
  obtain ⟨S, hS⟩ : ∃ S, (⟨s.toArray⟩ : ByteArray) = S := ⟨_, rfl⟩
  rw [hS] at hss HEX ⊢
  clear h0 hex h hS
  go_enter Try.func18, Try.ntmps18
  go_wp2_with fail
  go_loopw [6, 7] (fun v i wr => ∃ k ms B bad, k ≤ s.length ∧ i = .int .i64 (k : Int) ∧ RW w wr X v B0 s k ms B bad) (fun _ i _ => (s.length - intOf i).toNat)
  case atStart => exact ⟨0, [], B0, false, Nat.zero_le _, rfl, H0.out⟩
  case round =>
    obtain ⟨k, ms, B, bad, hk, rfl, hf⟩ := hrel
    have c0 : wr.cell? ⟨X, 0, none⟩ = some (.string ⟨B.toArray⟩) := cell_at hf.rd 0
    have c1 : wr.cell? ⟨X, 1, none⟩ = some (.int .i64 (if bad then 270 else 0)) := cell_at hf.rd 1
    have fX := free_at hf.rd
    obtain ⟨a, c, hv, hms⟩ := row_msgs hf.row
    subst hv
    have HF := hid hf
    have HMS := hid hms
    clear hf hms
    by_cases hkn : k < s.length
    · have dk : decide ((k : Int) < (s.length : Int)) = true := decide_eq_true (by omega)
      cases bad with
      | true =>
        simp only [if_true] at c1
        have lc1 := later_cell c1
        go_wp2_with fail
        refine wp_region_later (by kernel_rfl) (by kernel_rfl) ?_
        repeat ((go_big_quiet_step (fail)))
        refine wpQuiet_nil ?_
        intro wL hwL
        obtain ⟨⟨w8, hL⟩, e8⟩ := hwL
        change wL = w8 at e8
        subst e8
        go_wp2_with fail
        go_ret2
        have ht := HF.out.told
        simp only [if_true] at ht
        unfold RFeedV
        rw [ht]
        exact ⟨_, rfl, HMS.out.keep hL, HF.out.rd.keep hL, HF.out.out.then (Out.of_below hL)⟩
      | false =>
        simp only [Bool.false_eq_true, if_false] at c1
        obtain ⟨ch, hch⟩ : ∃ ch, s[k]? = some ch := ⟨_, List.getElem?_eq_getElem hkn⟩
        have hbx := HEX.out k ch hch B
        have hBl := text_size B
        obtain ⟨T, hT⟩ : ∃ T, (⟨B.toArray⟩ : ByteArray) = T := ⟨_, rfl⟩
        rw [hT] at c0 hbx hBl
        have hrm := HF.out.room
        obtain ⟨B', hB'⟩ : ∃ B', B ++ [ch] = B' := ⟨_, rfl⟩
        rw [hB'] at hbx
        obtain ⟨Y, hY⟩ : ∃ Y, (⟨B'.toArray⟩ : ByteArray) = Y := ⟨_, rfl⟩
        have hYs := text_size B'
        rw [hY] at hbx hYs
        have HP := hid (HF.out.push Y hY)
        have hB'l : B'.length = B.length + 1 := by rw [← hB']; simp
        have HBX := hid (And.intro hB' hY)
        have HCH := hid hch
        have HBL := hid hB'l
        clear hB' hY hch hT hB'l
        have d5 : ¬ (9223372036854775807 < B.length + 1) := by omega
        go_wp2_with fail
        have p1 : (0 : Int) ≤ (k : Int) + 1 := by omega
        have p2 : (k : Int) + 1 ≤ (s.length : Int) := by omega
        have p3 : (k : Int) ≤ (k : Int) + 1 := by omega
        have p4 : ((k : Int) + 1).toNat = k + 1 := by omega
        have hez : (S.extract k (k + 1)).size = 1 := by rw [ByteArray.size_extract, hss]; omega
        refine still_tail 13 (by kernel_rfl) (by kernel_rfl) ?_
        simp only [List.take_succ_cons, List.take_zero, List.drop_succ_cons, List.drop_zero]
        repeat (first | (refine wpStill_step (fun K hK => ?_); go_simp; refine hK _ ?_; clear hK K; try go_ints))
        refine wpStill_nil ?_
        have HEQ := hid (show HE.byteL B (s.drop k) = if B'.length < 4 then HE.byteL B' (s.drop (k + 1)) else if 16384 < HE.msgN B' then ([], B', true) else if B'.length = 4 + HE.msgN B' then ((B'.getD 0 0, B'.drop 4) :: (HE.byteL [] (s.drop (k + 1))).1, (HE.byteL [] (s.drop (k + 1))).2) else HE.byteL B' (s.drop (k + 1)) by
          obtain ⟨hkl, hkc⟩ := List.getElem?_eq_some_iff.1 HCH.out
          rw [List.drop_eq_getElem_cons hkl, hkc, HE.byteL, HBX.out.1])
        clear p1 p2 p3 p4 hez d5 HEX H0
        by_cases h4 : B'.length < 4
        · have d4 : decide ((B'.length : Int) < 4) = true := decide_eq_true (by omega)
          go_wp2_with fail
          have ht := HF.out.told
          rw [HEQ.out, if_pos h4] at ht
          exact ⟨⟨k + 1, ms, B', false, by omega, by go_num, ht, HP.out.2.1, HP.out.1, HP.out.2.2, hlt, by have := HBL.out; omega⟩, by simp only [intOf]; omega⟩
        · have d4 : decide ((B'.length : Int) < 4) = false := decide_eq_false (by omega)
          go_wp2_with fail
          have c0' : (wr.setCell ⟨X, 0, none⟩ (.string Y)).drew.cell? ⟨X, 0, none⟩ = some (.string Y) := by have := cell_at HP.out.1 0; rw [HBX.out.2] at this; exact this
          clear c0 c1 fX hbx
          generalize (wr.setCell ⟨X, 0, none⟩ (.string Y)).drew = w5 at *
          have lc0 := later_cell c0'
          have x1 : ∀ w, (Instr.index 9 (.string Y) (.int .i64 1)).run Try.prog w = .ok (.int .u8 ((B'.getD 1 0).toNat : Int)) w := fun w => by rw [← HBX.out.2]; exact idx_str B' 1 (by omega) w
          have x2 : ∀ w, (Instr.index 9 (.string Y) (.int .i64 2)).run Try.prog w = .ok (.int .u8 ((B'.getD 2 0).toNat : Int)) w := fun w => by rw [← HBX.out.2]; exact idx_str B' 2 (by omega) w
          have x3 : ∀ w, (Instr.index 9 (.string Y) (.int .i64 3)).run Try.prog w = .ok (.int .u8 ((B'.getD 3 0).toNat : Int)) w := fun w => by rw [← HBX.out.2]; exact idx_str B' 3 (by omega) w
          have lb1 := (B'.getD 1 0).toNat_lt
          have lb2 := (B'.getD 2 0).toNat_lt
          have lb3 := (B'.getD 3 0).toNat_lt
          have hmN : HE.msgN B' = (B'.getD 1 0).toNat * 65536 + (B'.getD 2 0).toNat * 256 + (B'.getD 3 0).toNat := rfl
          generalize (B'.getD 1 0).toNat = b1 at *
          generalize (B'.getD 2 0).toNat = b2 at *
          generalize (B'.getD 3 0).toNat = b3 at *
          refine wp_region_later (by kernel_rfl) (by kernel_rfl) ?_
          repeat ((go_big_quiet_step (fail)))
          refine wpQuiet_nil ?_
          intro wL hwL
          obtain ⟨⟨w8, hL⟩, e8⟩ := hwL
          change wL = w8 at e8
          subst e8
          have hor : bits .or .i64 (bits .or .i64 ((b1 : Int) * 65536) ((b2 : Int) * 256)) (b3 : Int) = ((HE.msgN B' : Nat) : Int) := by
            obtain ⟨x, hx⟩ : ∃ x, x = b1 * 65536 := ⟨_, rfl⟩
            obtain ⟨y, hy⟩ : ∃ y, y = b2 * 256 := ⟨_, rfl⟩
            rw [show (b1 : Int) * 65536 = (x : Int) by omega, show (b2 : Int) * 256 = (y : Int) by omega, or24a b1 b2 x y lb1 lb2 hx hy, or24b (x + y) b3 (by omega) lb3 (by omega), hmN]
            congr 1
            omega
          rw [hor]
          have hNlt : HE.msgN B' < 16777216 := by rw [hmN]; omega
          obtain ⟨N, hN⟩ : ∃ N, HE.msgN B' = N := ⟨_, rfl⟩
          rw [hN] at hNlt ⊢
          have HN := hid hN
          have HP2 := hid (And.intro (HP.out.1.keep hL) (And.intro (owns_keep HP.out.2.1 fun g _ hlt _ => hL.block g hlt) (HP.out.2.2.then (Out.of_below hL))))
          clear hN hor hmN lb1 lb2 lb3 x1 x2 x3 lc0 c0' HP hL HMS
          have c0 : wL.cell? ⟨X, 0, none⟩ = some (.string Y) := by have := cell_at HP2.out.1 0; rw [HBX.out.2] at this; exact this
          have c1 : wL.cell? ⟨X, 1, none⟩ = some (.int .i64 0) := cell_at HP2.out.1 1
          have fX := free_at HP2.out.1
          have ht := HF.out.told
          rw [HEQ.out, if_neg h4, HN.out] at ht
          by_cases hN1 : 16384 < N
          · have d1 : decide ((16384 : Int) < (N : Int)) = true := decide_eq_true (by omega)
            rw [if_pos hN1] at ht
            have HT := hid ht
            clear ht
            go_wp2_with fail
            have ho : Out (fun k => k = X) wL (wL.setCell ⟨X, 1, none⟩ (.int .i64 270)) := Out.setCell (Out.refl (fun k => k = X) wL) (.inl rfl) _
            exact ⟨⟨k + 1, ms, B', true, by omega, by go_num, by simpa using HT.out, owns_out HP2.out.2.1 ho (fun k hk e => by omega), hget_setCell HP2.out.1 1 _, HP2.out.2.2.trans ho (fun k _ e => e), hlt, by have := HBL.out; omega⟩, by simp only [intOf]; omega⟩
          · have d1 : decide ((16384 : Int) < (N : Int)) = false := decide_eq_false (by omega)
            rw [if_neg hN1] at ht
            by_cases hN2 : B'.length = 4 + N
            · have d2 : ((B'.length : Int) == 4 + (N : Int)) = true := beq_iff_eq.2 (by omega)
              rw [if_pos hN2] at ht
              have HT := hid ht
              clear ht
              have x0 : ∀ w, (Instr.index 9 (.string Y) (.int .i64 0)).run Try.prog w = .ok (.int .u8 ((B'.getD 0 0).toNat : Int)) w := fun w => by rw [← HBX.out.2]; exact idx_str B' 0 (by omega) w
              have hex4 : Y.extract 4 B'.length = ⟨(B'.drop 4).toArray⟩ := by rw [← HBX.out.2]; exact text_drop B' 4 (by omega)
              obtain ⟨b0, hb0⟩ : ∃ b, B'.getD 0 0 = b := ⟨_, rfl⟩
              obtain ⟨Z, hZ⟩ : ∃ Z, B'.drop 4 = Z := ⟨_, rfl⟩
              rw [hb0, hZ] at HT
              rw [hb0] at x0
              rw [hZ] at hex4
              obtain ⟨ZS, hZS⟩ : ∃ ZS, (⟨Z.toArray⟩ : ByteArray) = ZS := ⟨_, rfl⟩
              rw [hZS] at hex4
              have HZS := hid hZS
              have p1 : (4 : Int) ≤ (B'.length : Int) := by omega
              have p2 : 4 ≤ B'.length := by omega
              clear hZS hZ hb0 hN2
              go_wp2_with fail
              clear d2
              have lc0 := later_cell c0
              refine wp_region_gho_tail 13 [12] (fun _ u x => ∃ b, u = .slice (some ⟨b, 0, none⟩) 1 1 ∧ hget x b = some (.cells #[.int .u8 (b0.toNat : Int), .string ZS] 33 (0, 0))) (by kernel_rfl) (by kernel_rfl) (by kernel_rfl) (by kernel_rfl) (fun _ u w w' ⟨b, h1, h2⟩ hb => ⟨b, h1, keepB hb h2⟩) ?_
              simp only [List.take_succ_cons, List.take_zero, List.drop_succ_cons, List.drop_zero]
              repeat (first | (refine wpGho_plain (by kernel_rfl) (by decide) (by rfl) (by rfl) (fun K hK => ?_); go_simp; refine hK _ ?_; clear hK K; try go_ints))
              refine wpGho_make (by kernel_rfl) (by decide) (by rfl) (by rfl) (by rfl) (fun K hK => ?_)
              go_simp
              refine ⟨fun x => ⟨below_new _, _, rfl, alloc_at _ _⟩, hK _ ?_⟩
              clear hK K
              try simp only [Act.put, List.setIfInBounds_toArray, List.set_cons_zero, List.set_cons_succ]
              refine wpGho_nil ?_
              intro gg wM hwM hR
              obtain ⟨⟨w8, hM⟩, e8⟩ := hwM
              change wM = w8 at e8
              subst e8
              obtain ⟨bm, hbm, hgm⟩ := hR 12 (by decide)
              rw [show ∀ a, over _ [12] gg a = Act.put a (some 88) (gg 12) from fun _ => rfl, hbm]
              simp only [Act.put, List.setIfInBounds_toArray, List.set_cons_zero, List.set_cons_succ]
              obtain ⟨im, him, hii⟩ := Option.map_eq_some_iff.1 info_Message
              obtain ⟨hm0, hm1, hm2⟩ : im.zero = some (.agg #[.int .u8 0, .string ⟨#[]⟩]) ∧ im.size = 2 ∧ im.bytes = 24 := by simpa using hii
              have HFM := hid (And.intro (HP2.out.1.keep hM) (And.intro (owns_keep HP2.out.2.1 fun g _ hlt _ => hM.block g hlt) (HP2.out.2.2.then (Out.of_below hM))))
              have hbl := hget_lt hgm
              have HGM := hid hgm
              clear hii hR hbm lc0 c0 c1 fX x0 hex4 hM hgm HP2
              go_wp2_with (at_builtin; refine wpList_append_own_at _ rfl _ _ 23 rfl w.heap.size 33 im (.agg #[.int .u8 0, .string ⟨#[]⟩]) 2 24 Try.underlying23 him hm0 hm1 hm2 rfl (by decide) _ _ _ rfl HFM.out.2.1 ⟨bm, 0, none⟩ 1 1 [.int .u8 (b0.toNat : Int), .string ZS] rfl rfl ?c1 ?c2 ?c3 ?c4 ?c5 ?_)
              case c1 =>
                intro j u hu
                match j, hu with
                | 0, hu => injection hu with hu; subst hu; exact cell_at HGM.out 0
                | 1, hu => injection hu with hu; subst hu; exact cell_at HGM.out 1
              case c2 => intro u hu; simp only [List.mem_cons, List.not_mem_nil, or_false] at hu; rcases hu with rfl | rfl <;> rfl
              case c3 => unfold maxLen; omega
              case c4 => omega
              case c5 => exact HFM.out.2.2.size
              intro v3 w3 hown3 hgr3 _ _
              have hrlt : ∀ j, (Value.slice a ms.length c).ownBlock = some j → w.heap.size ≤ j := fun j e => (owns_lt HFM.out.2.1 e).1
              have hgR3 := hget_grown HFM.out.1 hgr3 (fun e => by have := hrlt X e.symm; omega)
              have c0 : w3.cell? ⟨X, 0, none⟩ = some (.string ⟨B'.toArray⟩) := cell_at hgR3 0
              have fX := free_at hgR3
              obtain ⟨va, vc, hvs⟩ := owns_sl hown3
              subst hvs
              have HO3 := hid hown3
              have HG3 := hid hgr3
              have HR3 := hid hgR3
              have HRL := hid hrlt
              clear hown3 hgr3 hgR3 hrlt
              go_wp2_with fail
              have ho3 : Out (fun j => w.heap.size ≤ j) wM w3 := Out.of_grown HG3.out (fun j e => HRL.out j e)
              have ho5 : Out (fun j => j = X) w3 (w3.setCell ⟨X, 0, none⟩ (.string ⟨#[]⟩)) := Out.setCell (Out.refl (fun j => j = X) w3) (.inl rfl) _
              refine ⟨⟨k + 1, ms ++ [(b0, Z)], [], false, by omega, by go_num, ⟨?_, ?_, hget_setCell HR3.out 0 _, ?_, hlt, ?_⟩⟩, by simp only [intOf]; omega⟩
              · have h1 := HT.out
                simpa using h1
              · have h1 := owns_out HO3.out ho5 (fun j hj e => by omega)
                rw [List.length_append, List.length_singleton, msgVs_append]
                rw [← HZS.out] at h1
                exact h1
              · exact (HFM.out.2.2.trans ho3 (fun j hj e => by omega)).trans ho5 (fun j _ e => e)
              · rw [List.length_append, List.length_singleton]; simp; have := HBL.out; omega
            · have d2 : decide ((B'.length : Int) = 4 + (N : Int)) = false := decide_eq_false (by omega)
              rw [if_neg hN2] at ht
              have HT := hid ht
              clear ht
              go_wp2_with fail
              exact ⟨⟨k + 1, ms, B', false, by omega, by go_num, HT.out, HP2.out.2.1, HP2.out.1, HP2.out.2.2, hlt, by have := HBL.out; omega⟩, by simp only [intOf]; omega⟩
    · have dk : decide ((k : Int) < (s.length : Int)) = false := decide_eq_false (by omega)
      obtain rfl : k = s.length := by omega
      have ht : HE.byteL B0 s = (ms, B, bad) := by
        have h1 := HF.out.told
        cases bad with
        | true => simpa using h1
        | false => rw [List.drop_length] at h1; simpa [HE.byteL] using h1
      have HT := hid ht
      clear ht
      cases bad with
      | true =>
        simp only [if_true] at c1
        have lc1 := later_cell c1
        go_wp2_with fail
        refine wp_region_later (by kernel_rfl) (by kernel_rfl) ?_
        repeat ((go_big_quiet_step (fail)))
        refine wpQuiet_nil ?_
        intro wL hwL
        obtain ⟨⟨w8, hL⟩, e8⟩ := hwL
        change wL = w8 at e8
        subst e8
        go_wp2_with fail
        go_ret2
        unfold RFeedV
        rw [HT.out]
        exact ⟨_, rfl, HMS.out.keep hL, HF.out.rd.keep hL, HF.out.out.then (Out.of_below hL)⟩
      | false =>
        simp only [Bool.false_eq_true, if_false] at c1
        have lc1 := later_cell c1
        go_wp2_with fail
        refine wp_region_later (by kernel_rfl) (by kernel_rfl) ?_
        repeat ((go_big_quiet_step (fail)))
        refine wpQuiet_nil ?_
        intro wL hwL
        obtain ⟨⟨w8, hL⟩, e8⟩ := hwL
        change wL = w8 at e8
        subst e8
        go_wp2_with fail
        go_ret2
        unfold RFeedV
        rw [HT.out]
        exact ⟨_, rfl, HMS.out.keep hL, HF.out.rd.keep hL, HF.out.out.then (Out.of_below hL)⟩
end Go.Proofs.Ytliblhfabnjpkaa

namespace Go.Proofs.Ytliblhfabnjpkaa
open Go Go.RowKit
def BadV (W : World) (e : Ending) (w' : World) : Prop := Below W.heap.size W w' ∧ e = .returned (.tuple #[.slice none 0 0, .int .i64 270])
set_option maxRecDepth 100000 in
set_option maxHeartbeats 2000000 in
theorem feed_bad {w : World} {R : Nat} {bv : Value} {l : HE.BS} (s : ByteArray) (h : RdAt w R bv l 270) : Calls Try.prog 9 #[.pointer (some ⟨R, 0, none⟩), .string s] w (BadV w) := by
  have hn := hid (none_yes h)
  have c0 : w.cell? ⟨R, 0, none⟩ = some bv := cell_at h.cells 0
  have c1 : w.cell? ⟨R, 1, none⟩ = some (.int .i64 270) := cell_at h.cells 1
  have hcl : ∀ w1, Calls Try.prog 30 #[.slice none 0 0] w1 fun e w' => e = .returned (.slice none 0 0) ∧ Below w1.heap.size w1 w' := fun w1 => (clip_any none 0 0 (Nat.le_refl _) (fun _ => rfl) (Nat.zero_le _)).mono fun _ _ h => ⟨h.2, by rw [← h.1]; exact Below.refl _ _⟩
  have HCL := hid hcl
  have lc1 := later_cell c1
  clear h hcl
  go_enter Try.func9, Try.ntmps9
  go_wp2_with fail
  refine hn.out.mono ?_
  rintro e w' ⟨rfl, rfl⟩
  go_wp2_with fail
  go_loopg [6] 1 (fun g v wr => 0 < g ∧ v = .slice none 0 0 ∧ wr = w)
  case atStart => exact ⟨by omega, rfl, rfl⟩
  case round =>
    obtain ⟨hm, rfl, rfl⟩ := hrel
    go_wp2_with fail
    refine wp_region_later (by kernel_rfl) (by kernel_rfl) ?_
    repeat ((go_big_quiet_step ((go_at_call 30; with_reducible exact calls_later (HCL.out _)))))
    refine wpQuiet_nil ?_
    intro wL hwL
    obtain ⟨⟨w8, hL⟩, e8⟩ := hwL
    change wL = w8 at e8
    subst e8
    go_wp2_with fail
    go_ret2
    exact ⟨hL, rfl⟩
set_option maxRecDepth 100000 in
set_option maxHeartbeats 2000000 in
theorem rfeed_bad {w : World} {X : Nat} {B : HE.BS} (s : ByteArray) (h : RefAt w X B true) : Calls Try.prog 18 #[.pointer (some ⟨X, 0, none⟩), .string s] w (BadV w) := by
  have c1 : w.cell? ⟨X, 1, none⟩ = some (.int .i64 270) := cell_at h 1
  have lc1 := later_cell c1
  obtain ⟨n, hn⟩ : ∃ n, s.size = n := ⟨_, rfl⟩
  clear h
  go_enter Try.func18, Try.ntmps18
  go_wp2_with fail
  go_loopg [6, 7] 1 (fun g v i wr => 0 < g ∧ v = .slice none 0 0 ∧ i = .int .i64 0 ∧ wr = w)
  case atStart => exact ⟨by omega, rfl, rfl, rfl⟩
  case round =>
    obtain ⟨hm, rfl, rfl, rfl⟩ := hrel
    by_cases h0 : 0 < n
    · have d : decide ((0 : Int) < (n : Int)) = true := decide_eq_true (by omega)
      go_wp2_with fail
      refine wp_region_later (by kernel_rfl) (by kernel_rfl) ?_
      repeat ((go_big_quiet_step (fail)))
      refine wpQuiet_nil ?_
      intro wL hwL
      obtain ⟨⟨w8, hL⟩, e8⟩ := hwL
      change wL = w8 at e8
      subst e8
      go_wp2_with fail
      go_ret2
      exact ⟨hL, rfl⟩
    · have d : decide ((0 : Int) < (n : Int)) = false := decide_eq_false (by omega)
      go_wp2_with fail
      refine wp_region_later (by kernel_rfl) (by kernel_rfl) ?_
      repeat ((go_big_quiet_step (fail)))
      refine wpQuiet_nil ?_
      intro wL hwL
      obtain ⟨⟨w8, hL⟩, e8⟩ := hwL
      change wL = w8 at e8
      subst e8
      go_wp2_with fail
      go_ret2
      exact ⟨hL, rfl⟩
end Go.Proofs.Ytliblhfabnjpkaa

namespace Go.Proofs.Ytliblhfabnjpkaa
open Go Go.RowKit
theorem HE.feedN_len : ∀ (n : Nat) (l : HE.BS), (HE.feedN n l).2.1.length ≤ l.length
  | 0, l => Nat.le_refl _
  | n + 1, l => by
    unfold HE.feedN
    split
    · exact Nat.le_refl _
    · split
      · exact Nat.le_refl _
      · split
        · exact Nat.le_refl _
        · refine Nat.le_trans (HE.feedN_len n _) ?_
          rw [List.length_drop]; omega
theorem HE.feedL_len (l : HE.BS) : (HE.feedL l).2.1.length ≤ l.length := HE.feedN_len _ _
/-- How memory stands while both readers are fed. -/
structure LW (W w : World) (R X : Nat) (a : Nat) (bv : Value) (l B : HE.BS) (bad : Bool) : Prop where
  below : Below W.heap.size W w
  rd : RdAt w R bv l (if bad then 270 else 0)
  rf : RefAt w X B bad
  hR : W.heap.size ≤ R
  hX : W.heap.size ≤ X
  ne : R ≠ X
  far : ∀ j, bv.ownBlock = some j → W.heap.size ≤ j ∧ j < w.heap.size ∧ j ≠ X
  like : bad = false → l = B ∧ HE.Quiet B
  len : bad = false → l.length ≤ a
theorem LW.next {W w w1 w2 : World} {R X a : Nat} {bv b mv : Value} {l B : HE.BS} (h : LW W w R X a bv l B false) (p : HE.BS)
    (h1m : MsgsAt w1 w.heap.size mv (HE.feedL (l ++ p)).1) (h1r : RdAt w1 R b (HE.feedL (l ++ p)).2.1 (if (HE.feedL (l ++ p)).2.2 then 270 else 0)) (h1o : Out (fun k => k = R ∨ bv.ownBlock = some k) w w1) (h1b : b.ownBlock = bv.ownBlock ∨ ∀ j, b.ownBlock = some j → w.heap.size ≤ j)
    (h2r : RefAt w2 X (HE.byteL B p).2.1 (HE.byteL B p).2.2) (h2o : Out (fun k => k = X) w1 w2) :
    LW W w2 R X (a + p.length) b (HE.feedL (l ++ p)).2.1 (HE.byteL B p).2.1 (HE.byteL B p).2.2 ∧ MsgsAt w2 w.heap.size mv (HE.byteL B p).1 := by
  obtain ⟨hlB, hq⟩ := h.like rfl
  obtain ⟨a1, a2, a3⟩ := HE.byte_feed p B hq
  rw [← hlB] at a1 a2 a3
  have hlen := h.len rfl
  have hXw := hget_lt h.rf
  have hbX : ∀ j, b.ownBlock = some j → j ≠ X := fun j e => by
    rcases h1b with h2 | h2
    · rw [h2] at e; exact (h.far j e).2.2
    · have := h2 j e; omega
  have ho1 : Out (fun k => W.heap.size ≤ k) w w1 := h1o.mono fun k _ e => by
    rcases e with rfl | e
    · exact h.hR
    · exact (h.far k e).1
  have ho2 : Out (fun k => W.heap.size ≤ k) w1 w2 := h2o.mono fun k _ e => by rw [e]; exact h.hX
  refine ⟨⟨?_, ?_, h2r, h.hR, h.hX, h.ne, ?_, ?_, ?_⟩, ?_⟩
  · exact h.below.trans ((ho1.below (fun k e => e) h.below.size).trans (ho2.below (fun k e => e) (Nat.le_trans h.below.size ho1.size)))
  · rw [← hlB, ← a2]
    exact ⟨h2o.get h1r.cells h.ne, h1r.own.keep fun g o hg ho => h2o.get ho (hbX g hg), h1r.apart⟩
  · intro j e
    have hlt := h1r.own.lt e
    refine ⟨?_, Nat.lt_of_lt_of_le hlt h2o.size, hbX j e⟩
    rcases h1b with h2 | h2
    · rw [h2] at e; exact (h.far j e).1
    · have h3 := h2 j e
      exact Nat.le_trans h.below.size h3
  · intro e
    rw [← hlB] at e ⊢
    exact a3 e
  · intro e
    have := HE.feedL_len (l ++ p)
    rw [List.length_append] at this
    omega
  · rw [← hlB, ← a1]
    rcases h1m with h5 | ⟨g, cap, h5, h6, h7, h8⟩
    · exact .inl h5
    · refine .inr ⟨g, cap, h5, h6, Nat.lt_of_lt_of_le h7 h2o.size, fun k x hx => ?_⟩
      have hg : g ≠ X := by omega
      exact ⟨(World.cell?_of_block (h2o.block g h7 hg)).trans (h8 k x hx).1, (World.cell?_of_block (h2o.block g h7 hg)).trans (h8 k x hx).2⟩
def frameV (k : UInt8) (b : List UInt8) : List UInt8 × Int := if b.length ≤ 16384 then (frameL k b, 0) else ([], 4)
theorem frame_any (k : UInt8) (b : List UInt8) (w : World) : Calls Try.prog 16 #[.agg #[.int .u8 (k.toNat : Int), .string ⟨b.toArray⟩]] w fun e w' => Below w.heap.size w w' ∧ e = .returned (.tuple #[.string ⟨(frameV k b).1.toArray⟩, .int .i64 (frameV k b).2]) := by
  unfold frameV
  by_cases h : b.length ≤ 16384
  · rw [if_pos h]; exact frame_yes k b h
  · rw [if_neg h]; exact frame_no k b (by omega)
theorem rframe_any (k : UInt8) (b : List UInt8) (w : World) : Calls Try.prog 17 #[.agg #[.int .u8 (k.toNat : Int), .string ⟨b.toArray⟩]] w fun e w' => Below w.heap.size w w' ∧ e = .returned (.tuple #[.string ⟨(frameV k b).1.toArray⟩, .int .i64 (frameV k b).2]) := by
  unfold frameV
  by_cases h : b.length ≤ 16384
  · rw [if_pos h]; exact rframe_yes k b h
  · rw [if_neg h]; exact rframe_no k b (by omega)
end Go.Proofs.Ytliblhfabnjpkaa

namespace Go.Proofs.Ytliblhfabnjpkaa
open Go Go.RowKit Go.Deep
theorem LW.later {W w w' : World} {R X a a' : Nat} {bv : Value} {l B : HE.BS} {bad : Bool} (h : LW W w R X a bv l B bad) (hb : Below w.heap.size w w') (ha : a ≤ a') : LW W w' R X a' bv l B bad :=
  ⟨h.below.trans (hb.mono h.below.size), ⟨keepB hb h.rd.cells, h.rd.own.keep fun _g _o _ ho => keepB hb ho, h.rd.apart⟩, h.rf.keep hb, h.hR, h.hX, h.ne, fun j e => ⟨(h.far j e).1, Nat.lt_of_lt_of_le (h.far j e).2.1 hb.size, (h.far j e).2.2⟩, h.like, fun e => Nat.le_trans (h.len e) ha⟩
theorem HE.feedN_cnt : ∀ (n : Nat) (l : HE.BS), (HE.feedN n l).1.length ≤ l.length
  | 0, l => Nat.zero_le _
  | n + 1, l => by
    unfold HE.feedN
    split
    · exact Nat.zero_le _
    · split
      · exact Nat.zero_le _
      · split
        · exact Nat.zero_le _
        · have h := HE.feedN_cnt n (l.drop (4 + HE.msgN l))
          rw [List.length_drop] at h
          simp only [List.length_cons]
          omega
set_option maxRecDepth 100000 in
set_option maxHeartbeats 8000000 in
theorem lreads_main (s b : List UInt8) (km : UInt8) (a : Option Addr) (len cap : Nat) (W : World) (hs : s.length ≤ 2048) (hlen : len ≤ 1000)
    (hp : ∀ i, i < len → ∃ (g off x : Nat), a = some ⟨g, off, none⟩ ∧ x < 65536 ∧ g < W.heap.size ∧ W.cell? ⟨g, off + i, none⟩ = some (.int .u16 (x : Int)))
    (hbl : (b.length ≤ 2048 ∨ 16375 ≤ b.length) ∧ b.length ≤ 16393) :
    Calls Try.prog 5 #[.string ⟨s.toArray⟩, .slice a len cap, .agg #[.int .u8 (km.toNat : Int), .string ⟨b.toArray⟩]] W fun e w' => e = .returned (.bool true) ∧ Below W.heap.size W w' := by
  have hA := hid fun w : World => alive_any (W := w)
  have hF := fun w => frame_any km b w
  have hG := fun w => rframe_any km b w
  have hN := hid fun w : World => newr_any (w := w)
  have hss := text_size s
  have hbs := text_size b
  obtain ⟨S, hS⟩ : ∃ S, (⟨s.toArray⟩ : ByteArray) = S := ⟨_, rfl⟩
  obtain ⟨T, hT⟩ : ∃ S, (⟨b.toArray⟩ : ByteArray) = S := ⟨_, rfl⟩
  obtain ⟨V, hV⟩ : ∃ S, (⟨(frameV km b).1.toArray⟩ : ByteArray) = S := ⟨_, rfl⟩
  rw [hS] at hss ⊢
  rw [hT] at hbs ⊢
  simp only [hT, hV] at hF hG
  generalize (frameV km b).2 = ev at *
  have HF := hid hF
  have HG := hid hG
  have HS := hid hS
  have HPC := hid hp
  obtain ⟨kk, hkk⟩ : ∃ x, (km.toNat : Int) = x := ⟨_, rfl⟩
  rw [hkk] at HF HG ⊢
  have hHM := below_new (w := W) (.cells #[.int .u8 kk, .string T] 33)
  have HM := hid hHM
  have ga := alloc_at W (.cells #[.int .u8 kk, .string T] 33)
  have c0 : (W.alloc (.cells #[.int .u8 kk, .string T] 33)).cell? ⟨W.heap.size, 0, none⟩ = some (.int .u8 kk) := cell_at ga 0
  have c1 : (W.alloc (.cells #[.int .u8 kk, .string T] 33)).cell? ⟨W.heap.size, 1, none⟩ = some (.string T) := cell_at ga 1
  have GA := hid ga
  clear hF hG hS hT hV hp hHM ga hkk
  have d1 : decide ((2048 : Int) < (s.length : Int)) = false := decide_eq_false (by omega)
  have d2 : decide ((1000 : Int) < (len : Int)) = false := decide_eq_false (by omega)
  have d5 : decide ((16393 : Int) < (b.length : Int)) = false := decide_eq_false (by omega)
  have hd : (decide ((2048 : Int) < (b.length : Int)) = false) ∨ (decide ((2048 : Int) < (b.length : Int)) = true ∧ decide ((b.length : Int) < 16375) = false) := by
    rcases hbl.1 with h | h
    · exact .inl (decide_eq_false (by omega))
    · exact .inr ⟨decide_eq_true (by omega), decide_eq_false (by omega)⟩
  rcases hd with d3 | ⟨d3, d4⟩
  · go_enter Try.func5, Try.ntmps5
    go_wp2_with fail
    refine (HF.out _).mono ?_
    rintro e w1 ⟨b1, rfl⟩
    have GA1 := hid (keepB b1 GA.out)
    have HM1 := hid (below_to HM.out b1)
    clear b1 c0 c1 GA HM HF
    have c0 := cell_at GA1.out 0
    have c1 := cell_at GA1.out 1
    simp only [List.getElem?_toArray, List.getElem?_cons_succ, List.getElem?_cons_zero] at c0 c1
    go_wp2_with fail
    refine (HG.out _).mono ?_
    rintro e w2 ⟨b1, rfl⟩
    have HM2 := hid (below_to HM1.out b1)
    clear b1 c0 c1 GA1 HM1 HG
    go_wp2_with fail
    refine (hN.out _).mono ?_
    rintro e w3 ⟨b1, rfl, hrd⟩
    have hX0 : W.heap.size ≤ w3.heap.size := Nat.le_trans HM2.out.size b1.size
    have hRX : w2.heap.size < w3.heap.size := hget_lt hrd.cells
    have HM3 := below_to HM2.out b1
    have h0 : LW W (w3.alloc (.cells #[.string ⟨#[]⟩, .int .i64 0] 55)) w2.heap.size w3.heap.size 0 (.slice none 0 0) [] [] false :=
      ⟨below_alloc HM3 _, ⟨keepB (below_new _) hrd.cells, .nil _, by simp [Value.ownBlock]⟩, alloc_at _ _, HM2.out.size, hX0, by omega, (fun j e => by cases e), fun _ => ⟨rfl, HE.quiet_nil⟩, fun _ => Nat.le_refl _⟩
    have H0 := hid h0
    generalize w2.heap.size = R at *
    obtain ⟨X, hX⟩ : ∃ X, w3.heap.size = X := ⟨_, rfl⟩
    have HX := hid hX
    rw [hX] at H0
    clear hX hX0 hRX HM3 h0 b1 hrd HM2
    go_wp2_with fail
    rw [HX.out]
    go_loopg [13, 14] (s.length + len + 2) (fun g at' i wr => ∃ (p q : Nat) (bv : Value) (l B : HE.BS) (bad : Bool), p ≤ s.length ∧ at' = .int .i64 (p : Int) ∧ i = .int .i64 (q : Int) ∧ (s.length - p) + (len - q) + (if q = 0 then 1 else 0) < g ∧ (q ≤ len ∨ (p = s.length ∧ q ≤ len + 1)) ∧ LW W wr R X p bv l B bad)
    case atStart => exact ⟨0, 0, _, [], [], false, Nat.zero_le _, rfl, rfl, by simp, .inl (Nat.zero_le _), H0.out⟩
    case round =>
      obtain ⟨p, q, bv, l, B, bad, hps, rfl, rfl, hm, hqb, hw⟩ := hrel
      have hq1 : q ≤ 1001 := by omega
      have HW := hid hw
      clear hw
      by_cases hq : p < s.length
      · have dq : decide ((p : Int) < (s.length : Int)) = true := decide_eq_true (by omega)
        by_cases hi : q < len
        · have di : decide ((q : Int) < (len : Int)) = true := decide_eq_true (by omega)
          obtain ⟨g, off, x, ha, hx, hgl, hc⟩ := HPC.out q hi
          have hc' : wr.cell? ⟨g, off + q, none⟩ = some (.int .u16 (x : Int)) := (HW.out.below.cell (p := ⟨g, off + q, none⟩) hgl).trans hc
          subst ha
          have hc2 : q = 0 → wr.cell? ⟨g, off, none⟩ = some (.int .u16 (x : Int)) := fun e => by rw [e] at hc'; exact hc'
          have i1 : (0 : Int) ≤ (q : Int) := by omega
          have i2 : (q : Int) < (len : Int) := by omega
          obtain ⟨n0, hn0⟩ : ∃ n0 : Nat, (s.length : Int) - (p : Int) = (n0 : Int) := ⟨s.length - p, by omega⟩
          obtain ⟨n, hmin, hnle⟩ : ∃ n : Nat, min (n0 : Int) ((x : Int) % 300) = (n : Int) ∧ p + n ≤ s.length := ⟨min n0 (x % 300), by omega, by omega⟩
          clear hc
          have hpl : ((s.drop p).take n).length = n := by rw [List.length_take, List.length_drop]; omega
          obtain ⟨pl, hple⟩ : ∃ pl, (s.drop p).take n = pl := ⟨_, rfl⟩
          rw [hple] at hpl
          have hext : S.extract p (p + n) = ⟨pl.toArray⟩ := by
            rw [← HS.out, ← hple]
            apply ByteArray.ext; apply Array.ext'
            simp only [ByteArray.data_extract, Array.toList_extract, List.extract, Nat.add_sub_cancel_left]
          have p1 : (0 : Int) ≤ (p : Int) + (n : Int) := by omega
          have p2 : (p : Int) + (n : Int) ≤ (s.length : Int) := by omega
          have p3 : (p : Int) ≤ (p : Int) + (n : Int) := by omega
          have p4 : ((p : Int) + (n : Int)).toNat = p + n := by omega
          clear hple HPC
          have HN1 := hid hn0
          cases bad with
          | true =>
            have hfd := hid fun t : ByteArray => feed_bad t HW.out.rd
            go_wp2_with fail
            refine (hfd.out _).mono ?_
            rintro e w5 ⟨b5, rfl⟩
            have B5 := hid b5
            clear b5 hfd
            have hrf := hid fun t : ByteArray => rfeed_bad t (HW.out.rf.keep B5.out)
            go_wp2_with fail
            refine (hrf.out _).mono ?_
            rintro e w6 ⟨b6, rfl⟩
            have HW6 := hid (HW.out.later (a' := p + n) (below_to B5.out b6) (by omega))
            have c6 : w6.cell? ⟨X, 0, none⟩ = some (.string ⟨B.toArray⟩) := cell_at HW6.out.rf 0
            have hBs := text_size B
            clear b6 hrf B5 HW
            have hms := hid (messages_any (w := w6) (B1 := 0) (B2 := 0) (v1 := .slice none 0 0) (v2 := .slice none 0 0) (l := []) (.inl ⟨rfl, rfl⟩) (.inl ⟨rfl, rfl⟩) (by simp))
            go_wp2_with fail
            refine hms.out.mono ?_
            rintro e w7 ⟨d7, rfl⟩
            have HW7 := hid (HW6.out.later (a' := p + n) d7.below (by omega))
            have hlf := hid ((left_any HW7.out.rd).mono (R := fun e w' => w7 = w' ∧ e = .returned (.int .i64 0)) fun e w' h => by simpa using h)
            clear d7 c6 HW6 hms
            go_wp2_with fail
            refine hlf.out.mono ?_
            rintro e w8 ⟨rfl, rfl⟩
            go_wp2_with fail
            go_roundg (gk - 1)
            case measure => omega
            case rel => exact ⟨p + n, q + 1, bv, l, B, true, by omega, by go_num, by go_num, by have hn1 := HN1.out; rw [if_neg (Nat.succ_ne_zero q)]; split at hm <;> omega, by have hn1 := HN1.out; omega, HW7.out⟩
          | false =>
            have hlk := HW.out.len rfl
            have hfd := hid (feed_any pl HW.out.rd (fun j e => (HW.out.far j e).2.1) (by omega))
            go_wp2_with fail
            refine hfd.out.mono ?_
            rintro e w5 ⟨mv, bv', rfl, hm5, hr5, ho5, hb5⟩
            have hrf5 : RefAt w5 X B false := ho5.get HW.out.rf fun e => by
              rcases e with e | e
              · exact HW.out.ne e.symm
              · exact (HW.out.far _ e).2.2 rfl
            have hlB := (HW.out.like rfl).1
            have hrf := hid (rfeed_any pl hrf5 (by rw [← hlB]; omega))
            obtain ⟨A1, A2, -⟩ := HE.byte_feed pl B (HW.out.like rfl).2
            rw [← hlB] at A1 A2
            have hcnt : (HE.feedL (l ++ pl)).1.length ≤ 1000000 := Nat.le_trans (HE.feedN_cnt _ _) (by rw [List.length_append]; omega)
            have H5 := hid (And.intro hm5 (And.intro hr5 (And.intro ho5 hb5)))
            rw [A2]
            rw [A1] at hcnt
            have hrfe : Hid (Calls Try.prog 18 #[.pointer (some ⟨X, 0, none⟩), .string ⟨pl.toArray⟩] w5 (RFeedV w5 X (HE.byteL l pl))) := by rw [hlB]; exact hrf
            clear hm5 hr5 ho5 hb5 hrf5 hfd hrf
            obtain ⟨r, hr⟩ : ∃ r, HE.byteL l pl = r := ⟨_, rfl⟩
            rw [hr] at hrfe hcnt ⊢
            have HR := hid hr
            clear hr A1 A2
            have HLB := hid hlB
            clear hlB
            obtain ⟨ms, B2, bad2⟩ := r
            dsimp only at hcnt ⊢
            cases bad2 with
            | true =>
              simp only [if_true]
              go_wp2_with fail
              refine hrfe.out.mono ?_
              rintro e w6 ⟨mv2, rfl, hm6, hr6, ho6⟩
              dsimp only at hm6 hr6 ⊢
              simp only [if_true]
              have hnx := HW.out.next pl H5.out.1 H5.out.2.1 H5.out.2.2.1 H5.out.2.2.2 (w2 := w6) (by rw [← HLB.out, HR.out]; exact hr6) ho6
              rw [← HLB.out, HR.out, hpl] at hnx
              dsimp only at hnx
              have HNX := hid hnx
              have hms := hid (messages_any hnx.2 hm6 hcnt)
              have c6 : w6.cell? ⟨X, 0, none⟩ = some (.string ⟨B2.toArray⟩) := cell_at hr6 0
              have hBs := text_size B2
              clear hnx hm6 hr6 ho6 HW hrfe H5
              go_wp2_with fail
              refine hms.out.mono ?_
              rintro e w7 ⟨d7, rfl⟩
              have HW7 := hid (HNX.out.1.later (a' := p + n) d7.below (by omega))
              have hlf := hid ((left_any HW7.out.rd).mono (R := fun e w' => w7 = w' ∧ e = .returned (.int .i64 0)) fun e w' h => by simpa using h)
              clear d7 c6 HNX hms
              go_wp2_with fail
              refine hlf.out.mono ?_
              rintro e w8 ⟨rfl, rfl⟩
              go_wp2_with fail
              go_roundg (gk - 1)
              case measure => omega
              case rel => exact ⟨p + n, q + 1, bv', _, B2, true, by omega, by go_num, by go_num, by have hn1 := HN1.out; rw [if_neg (Nat.succ_ne_zero q)]; split at hm <;> omega, by have hn1 := HN1.out; omega, HW7.out⟩
            | false =>
              simp only [Bool.false_eq_true, if_false]
              go_wp2_with fail
              refine hrfe.out.mono ?_
              rintro e w6 ⟨mv2, rfl, hm6, hr6, ho6⟩
              dsimp only at hm6 hr6 ⊢
              simp only [Bool.false_eq_true, if_false]
              have hnx := HW.out.next pl H5.out.1 H5.out.2.1 H5.out.2.2.1 H5.out.2.2.2 (w2 := w6) (by rw [← HLB.out, HR.out]; exact hr6) ho6
              rw [← HLB.out, HR.out, hpl] at hnx
              dsimp only at hnx
              have HNX := hid hnx
              have hms := hid (messages_any hnx.2 hm6 hcnt)
              have c6 : w6.cell? ⟨X, 0, none⟩ = some (.string ⟨B2.toArray⟩) := cell_at hr6 0
              have hBs := text_size B2
              clear hnx hm6 hr6 ho6 HW hrfe H5
              go_wp2_with fail
              refine hms.out.mono ?_
              rintro e w7 ⟨d7, rfl⟩
              have HW7 := hid (HNX.out.1.later (a' := p + n) d7.below (by omega))
              have hlf : Hid (Calls Try.prog 20 #[.pointer (some ⟨R, 0, none⟩)] w7 fun e w' => w7 = w' ∧ e = .returned (.int .i64 (B2.length : Int))) := (left_any HW7.out.rd).mono fun e w' h => by rw [← (HW7.out.like rfl).1]; simpa using h
              clear d7 c6 HNX hms
              go_wp2_with fail
              refine hlf.out.mono ?_
              rintro e w8 ⟨rfl, rfl⟩
              go_wp2_with fail
              go_roundg (gk - 1)
              case measure => omega
              case rel => exact ⟨p + n, q + 1, bv', _, B2, false, by omega, by go_num, by go_num, by have hn1 := HN1.out; rw [if_neg (Nat.succ_ne_zero q)]; split at hm <;> omega, by have hn1 := HN1.out; omega, HW7.out⟩
        · have di : decide ((q : Int) < (len : Int)) = false := decide_eq_false (by omega)
          obtain ⟨n, hn0, hnle⟩ : ∃ n : Nat, (s.length : Int) - (p : Int) = (n : Int) ∧ p + n ≤ s.length := ⟨s.length - p, by omega, by omega⟩
          have hpl : ((s.drop p).take n).length = n := by rw [List.length_take, List.length_drop]; omega
          obtain ⟨pl, hple⟩ : ∃ pl, (s.drop p).take n = pl := ⟨_, rfl⟩
          rw [hple] at hpl
          have hext : S.extract p (p + n) = ⟨pl.toArray⟩ := by
            rw [← HS.out, ← hple]
            apply ByteArray.ext; apply Array.ext'
            simp only [ByteArray.data_extract, Array.toList_extract, List.extract, Nat.add_sub_cancel_left]
          have p1 : (0 : Int) ≤ (p : Int) + (n : Int) := by omega
          have p2 : (p : Int) + (n : Int) ≤ (s.length : Int) := by omega
          have p3 : (p : Int) ≤ (p : Int) + (n : Int) := by omega
          have p4 : ((p : Int) + (n : Int)).toNat = p + n := by omega
          clear hple HPC
          have HN1 := hid hn0
          cases bad with
          | true =>
            have hfd := hid fun t : ByteArray => feed_bad t HW.out.rd
            go_wp2_with fail
            refine (hfd.out _).mono ?_
            rintro e w5 ⟨b5, rfl⟩
            have B5 := hid b5
            clear b5 hfd
            have hrf := hid fun t : ByteArray => rfeed_bad t (HW.out.rf.keep B5.out)
            go_wp2_with fail
            refine (hrf.out _).mono ?_
            rintro e w6 ⟨b6, rfl⟩
            have HW6 := hid (HW.out.later (a' := p + n) (below_to B5.out b6) (by omega))
            have c6 : w6.cell? ⟨X, 0, none⟩ = some (.string ⟨B.toArray⟩) := cell_at HW6.out.rf 0
            have hBs := text_size B
            clear b6 hrf B5 HW
            have hms := hid (messages_any (w := w6) (B1 := 0) (B2 := 0) (v1 := .slice none 0 0) (v2 := .slice none 0 0) (l := []) (.inl ⟨rfl, rfl⟩) (.inl ⟨rfl, rfl⟩) (by simp))
            go_wp2_with fail
            refine hms.out.mono ?_
            rintro e w7 ⟨d7, rfl⟩
            have HW7 := hid (HW6.out.later (a' := p + n) d7.below (by omega))
            have hlf := hid ((left_any HW7.out.rd).mono (R := fun e w' => w7 = w' ∧ e = .returned (.int .i64 0)) fun e w' h => by simpa using h)
            clear d7 c6 HW6 hms
            go_wp2_with fail
            refine hlf.out.mono ?_
            rintro e w8 ⟨rfl, rfl⟩
            go_wp2_with fail
            go_roundg (gk - 1)
            case measure => omega
            case rel => exact ⟨p + n, q + 1, bv, l, B, true, by omega, by go_num, by go_num, by have hn1 := HN1.out; rw [if_neg (Nat.succ_ne_zero q)]; split at hm <;> omega, by have hn1 := HN1.out; omega, HW7.out⟩
          | false =>
            have hlk := HW.out.len rfl
            have hfd := hid (feed_any pl HW.out.rd (fun j e => (HW.out.far j e).2.1) (by omega))
            go_wp2_with fail
            refine hfd.out.mono ?_
            rintro e w5 ⟨mv, bv', rfl, hm5, hr5, ho5, hb5⟩
            have hrf5 : RefAt w5 X B false := ho5.get HW.out.rf fun e => by
              rcases e with e | e
              · exact HW.out.ne e.symm
              · exact (HW.out.far _ e).2.2 rfl
            have hlB := (HW.out.like rfl).1
            have hrf := hid (rfeed_any pl hrf5 (by rw [← hlB]; omega))
            obtain ⟨A1, A2, -⟩ := HE.byte_feed pl B (HW.out.like rfl).2
            rw [← hlB] at A1 A2
            have hcnt : (HE.feedL (l ++ pl)).1.length ≤ 1000000 := Nat.le_trans (HE.feedN_cnt _ _) (by rw [List.length_append]; omega)
            have H5 := hid (And.intro hm5 (And.intro hr5 (And.intro ho5 hb5)))
            rw [A2]
            rw [A1] at hcnt
            have hrfe : Hid (Calls Try.prog 18 #[.pointer (some ⟨X, 0, none⟩), .string ⟨pl.toArray⟩] w5 (RFeedV w5 X (HE.byteL l pl))) := by rw [hlB]; exact hrf
            clear hm5 hr5 ho5 hb5 hrf5 hfd hrf
            obtain ⟨r, hr⟩ : ∃ r, HE.byteL l pl = r := ⟨_, rfl⟩
            rw [hr] at hrfe hcnt ⊢
            have HR := hid hr
            clear hr A1 A2
            have HLB := hid hlB
            clear hlB
            obtain ⟨ms, B2, bad2⟩ := r
            dsimp only at hcnt ⊢
            cases bad2 with
            | true =>
              simp only [if_true]
              go_wp2_with fail
              refine hrfe.out.mono ?_
              rintro e w6 ⟨mv2, rfl, hm6, hr6, ho6⟩
              dsimp only at hm6 hr6 ⊢
              simp only [if_true]
              have hnx := HW.out.next pl H5.out.1 H5.out.2.1 H5.out.2.2.1 H5.out.2.2.2 (w2 := w6) (by rw [← HLB.out, HR.out]; exact hr6) ho6
              rw [← HLB.out, HR.out, hpl] at hnx
              dsimp only at hnx
              have HNX := hid hnx
              have hms := hid (messages_any hnx.2 hm6 hcnt)
              have c6 : w6.cell? ⟨X, 0, none⟩ = some (.string ⟨B2.toArray⟩) := cell_at hr6 0
              have hBs := text_size B2
              clear hnx hm6 hr6 ho6 HW hrfe H5
              go_wp2_with fail
              refine hms.out.mono ?_
              rintro e w7 ⟨d7, rfl⟩
              have HW7 := hid (HNX.out.1.later (a' := p + n) d7.below (by omega))
              have hlf := hid ((left_any HW7.out.rd).mono (R := fun e w' => w7 = w' ∧ e = .returned (.int .i64 0)) fun e w' h => by simpa using h)
              clear d7 c6 HNX hms
              go_wp2_with fail
              refine hlf.out.mono ?_
              rintro e w8 ⟨rfl, rfl⟩
              go_wp2_with fail
              go_roundg (gk - 1)
              case measure => omega
              case rel => exact ⟨p + n, q + 1, bv', _, B2, true, by omega, by go_num, by go_num, by have hn1 := HN1.out; rw [if_neg (Nat.succ_ne_zero q)]; split at hm <;> omega, by have hn1 := HN1.out; omega, HW7.out⟩
            | false =>
              simp only [Bool.false_eq_true, if_false]
              go_wp2_with fail
              refine hrfe.out.mono ?_
              rintro e w6 ⟨mv2, rfl, hm6, hr6, ho6⟩
              dsimp only at hm6 hr6 ⊢
              simp only [Bool.false_eq_true, if_false]
              have hnx := HW.out.next pl H5.out.1 H5.out.2.1 H5.out.2.2.1 H5.out.2.2.2 (w2 := w6) (by rw [← HLB.out, HR.out]; exact hr6) ho6
              rw [← HLB.out, HR.out, hpl] at hnx
              dsimp only at hnx
              have HNX := hid hnx
              have hms := hid (messages_any hnx.2 hm6 hcnt)
              have c6 : w6.cell? ⟨X, 0, none⟩ = some (.string ⟨B2.toArray⟩) := cell_at hr6 0
              have hBs := text_size B2
              clear hnx hm6 hr6 ho6 HW hrfe H5
              go_wp2_with fail
              refine hms.out.mono ?_
              rintro e w7 ⟨d7, rfl⟩
              have HW7 := hid (HNX.out.1.later (a' := p + n) d7.below (by omega))
              have hlf : Hid (Calls Try.prog 20 #[.pointer (some ⟨R, 0, none⟩)] w7 fun e w' => w7 = w' ∧ e = .returned (.int .i64 (B2.length : Int))) := (left_any HW7.out.rd).mono fun e w' h => by rw [← (HW7.out.like rfl).1]; simpa using h
              clear d7 c6 HNX hms
              go_wp2_with fail
              refine hlf.out.mono ?_
              rintro e w8 ⟨rfl, rfl⟩
              go_wp2_with fail
              go_roundg (gk - 1)
              case measure => omega
              case rel => exact ⟨p + n, q + 1, bv', _, B2, false, by omega, by go_num, by go_num, by have hn1 := HN1.out; rw [if_neg (Nat.succ_ne_zero q)]; split at hm <;> omega, by have hn1 := HN1.out; omega, HW7.out⟩
      · have dq : decide ((p : Int) < (s.length : Int)) = false := decide_eq_false (by omega)
        by_cases hq0 : q = 0
        · have dz : ((q : Int) == 0) = true := beq_iff_eq.2 (by omega)
          by_cases hi : q < len
          · have di : decide ((q : Int) < (len : Int)) = true := decide_eq_true (by omega)
            obtain ⟨g, off, x, ha, hx, hgl, hc⟩ := HPC.out q hi
            have hc' : wr.cell? ⟨g, off + q, none⟩ = some (.int .u16 (x : Int)) := (HW.out.below.cell (p := ⟨g, off + q, none⟩) hgl).trans hc
            subst ha
            have hc2 : q = 0 → wr.cell? ⟨g, off, none⟩ = some (.int .u16 (x : Int)) := fun e => by rw [e] at hc'; exact hc'
            have i1 : (0 : Int) ≤ (q : Int) := by omega
            have i2 : (q : Int) < (len : Int) := by omega
            obtain ⟨n0, hn0⟩ : ∃ n0 : Nat, (s.length : Int) - (p : Int) = (n0 : Int) := ⟨s.length - p, by omega⟩
            obtain ⟨n, hmin, hnle⟩ : ∃ n : Nat, min (n0 : Int) ((x : Int) % 300) = (n : Int) ∧ p + n ≤ s.length := ⟨min n0 (x % 300), by omega, by omega⟩
            clear hc
            have hpl : ((s.drop p).take n).length = n := by rw [List.length_take, List.length_drop]; omega
            obtain ⟨pl, hple⟩ : ∃ pl, (s.drop p).take n = pl := ⟨_, rfl⟩
            rw [hple] at hpl
            have hext : S.extract p (p + n) = ⟨pl.toArray⟩ := by
              rw [← HS.out, ← hple]
              apply ByteArray.ext; apply Array.ext'
              simp only [ByteArray.data_extract, Array.toList_extract, List.extract, Nat.add_sub_cancel_left]
            have p1 : (0 : Int) ≤ (p : Int) + (n : Int) := by omega
            have p2 : (p : Int) + (n : Int) ≤ (s.length : Int) := by omega
            have p3 : (p : Int) ≤ (p : Int) + (n : Int) := by omega
            have p4 : ((p : Int) + (n : Int)).toNat = p + n := by omega
            clear hple HPC
            have HN1 := hid hn0
            cases bad with
            | true =>
              have hfd := hid fun t : ByteArray => feed_bad t HW.out.rd
              go_wp2_with fail
              refine (hfd.out _).mono ?_
              rintro e w5 ⟨b5, rfl⟩
              have B5 := hid b5
              clear b5 hfd
              have hrf := hid fun t : ByteArray => rfeed_bad t (HW.out.rf.keep B5.out)
              go_wp2_with fail
              refine (hrf.out _).mono ?_
              rintro e w6 ⟨b6, rfl⟩
              have HW6 := hid (HW.out.later (a' := p + n) (below_to B5.out b6) (by omega))
              have c6 : w6.cell? ⟨X, 0, none⟩ = some (.string ⟨B.toArray⟩) := cell_at HW6.out.rf 0
              have hBs := text_size B
              clear b6 hrf B5 HW
              have hms := hid (messages_any (w := w6) (B1 := 0) (B2 := 0) (v1 := .slice none 0 0) (v2 := .slice none 0 0) (l := []) (.inl ⟨rfl, rfl⟩) (.inl ⟨rfl, rfl⟩) (by simp))
              go_wp2_with fail
              refine hms.out.mono ?_
              rintro e w7 ⟨d7, rfl⟩
              have HW7 := hid (HW6.out.later (a' := p + n) d7.below (by omega))
              have hlf := hid ((left_any HW7.out.rd).mono (R := fun e w' => w7 = w' ∧ e = .returned (.int .i64 0)) fun e w' h => by simpa using h)
              clear d7 c6 HW6 hms
              go_wp2_with fail
              refine hlf.out.mono ?_
              rintro e w8 ⟨rfl, rfl⟩
              go_wp2_with fail
              go_roundg (gk - 1)
              case measure => omega
              case rel => exact ⟨p + n, q + 1, bv, l, B, true, by omega, by go_num, by go_num, by have hn1 := HN1.out; rw [if_neg (Nat.succ_ne_zero q)]; split at hm <;> omega, by have hn1 := HN1.out; omega, HW7.out⟩
            | false =>
              have hlk := HW.out.len rfl
              have hfd := hid (feed_any pl HW.out.rd (fun j e => (HW.out.far j e).2.1) (by omega))
              go_wp2_with fail
              refine hfd.out.mono ?_
              rintro e w5 ⟨mv, bv', rfl, hm5, hr5, ho5, hb5⟩
              have hrf5 : RefAt w5 X B false := ho5.get HW.out.rf fun e => by
                rcases e with e | e
                · exact HW.out.ne e.symm
                · exact (HW.out.far _ e).2.2 rfl
              have hlB := (HW.out.like rfl).1
              have hrf := hid (rfeed_any pl hrf5 (by rw [← hlB]; omega))
              obtain ⟨A1, A2, -⟩ := HE.byte_feed pl B (HW.out.like rfl).2
              rw [← hlB] at A1 A2
              have hcnt : (HE.feedL (l ++ pl)).1.length ≤ 1000000 := Nat.le_trans (HE.feedN_cnt _ _) (by rw [List.length_append]; omega)
              have H5 := hid (And.intro hm5 (And.intro hr5 (And.intro ho5 hb5)))
              rw [A2]
              rw [A1] at hcnt
              have hrfe : Hid (Calls Try.prog 18 #[.pointer (some ⟨X, 0, none⟩), .string ⟨pl.toArray⟩] w5 (RFeedV w5 X (HE.byteL l pl))) := by rw [hlB]; exact hrf
              clear hm5 hr5 ho5 hb5 hrf5 hfd hrf
              obtain ⟨r, hr⟩ : ∃ r, HE.byteL l pl = r := ⟨_, rfl⟩
              rw [hr] at hrfe hcnt ⊢
              have HR := hid hr
              clear hr A1 A2
              have HLB := hid hlB
              clear hlB
              obtain ⟨ms, B2, bad2⟩ := r
              dsimp only at hcnt ⊢
              cases bad2 with
              | true =>
                simp only [if_true]
                go_wp2_with fail
                refine hrfe.out.mono ?_
                rintro e w6 ⟨mv2, rfl, hm6, hr6, ho6⟩
                dsimp only at hm6 hr6 ⊢
                simp only [if_true]
                have hnx := HW.out.next pl H5.out.1 H5.out.2.1 H5.out.2.2.1 H5.out.2.2.2 (w2 := w6) (by rw [← HLB.out, HR.out]; exact hr6) ho6
                rw [← HLB.out, HR.out, hpl] at hnx
                dsimp only at hnx
                have HNX := hid hnx
                have hms := hid (messages_any hnx.2 hm6 hcnt)
                have c6 : w6.cell? ⟨X, 0, none⟩ = some (.string ⟨B2.toArray⟩) := cell_at hr6 0
                have hBs := text_size B2
                clear hnx hm6 hr6 ho6 HW hrfe H5
                go_wp2_with fail
                refine hms.out.mono ?_
                rintro e w7 ⟨d7, rfl⟩
                have HW7 := hid (HNX.out.1.later (a' := p + n) d7.below (by omega))
                have hlf := hid ((left_any HW7.out.rd).mono (R := fun e w' => w7 = w' ∧ e = .returned (.int .i64 0)) fun e w' h => by simpa using h)
                clear d7 c6 HNX hms
                go_wp2_with fail
                refine hlf.out.mono ?_
                rintro e w8 ⟨rfl, rfl⟩
                go_wp2_with fail
                go_roundg (gk - 1)
                case measure => omega
                case rel => exact ⟨p + n, q + 1, bv', _, B2, true, by omega, by go_num, by go_num, by have hn1 := HN1.out; rw [if_neg (Nat.succ_ne_zero q)]; split at hm <;> omega, by have hn1 := HN1.out; omega, HW7.out⟩
              | false =>
                simp only [Bool.false_eq_true, if_false]
                go_wp2_with fail
                refine hrfe.out.mono ?_
                rintro e w6 ⟨mv2, rfl, hm6, hr6, ho6⟩
                dsimp only at hm6 hr6 ⊢
                simp only [Bool.false_eq_true, if_false]
                have hnx := HW.out.next pl H5.out.1 H5.out.2.1 H5.out.2.2.1 H5.out.2.2.2 (w2 := w6) (by rw [← HLB.out, HR.out]; exact hr6) ho6
                rw [← HLB.out, HR.out, hpl] at hnx
                dsimp only at hnx
                have HNX := hid hnx
                have hms := hid (messages_any hnx.2 hm6 hcnt)
                have c6 : w6.cell? ⟨X, 0, none⟩ = some (.string ⟨B2.toArray⟩) := cell_at hr6 0
                have hBs := text_size B2
                clear hnx hm6 hr6 ho6 HW hrfe H5
                go_wp2_with fail
                refine hms.out.mono ?_
                rintro e w7 ⟨d7, rfl⟩
                have HW7 := hid (HNX.out.1.later (a' := p + n) d7.below (by omega))
                have hlf : Hid (Calls Try.prog 20 #[.pointer (some ⟨R, 0, none⟩)] w7 fun e w' => w7 = w' ∧ e = .returned (.int .i64 (B2.length : Int))) := (left_any HW7.out.rd).mono fun e w' h => by rw [← (HW7.out.like rfl).1]; simpa using h
                clear d7 c6 HNX hms
                go_wp2_with fail
                refine hlf.out.mono ?_
                rintro e w8 ⟨rfl, rfl⟩
                go_wp2_with fail
                go_roundg (gk - 1)
                case measure => omega
                case rel => exact ⟨p + n, q + 1, bv', _, B2, false, by omega, by go_num, by go_num, by have hn1 := HN1.out; rw [if_neg (Nat.succ_ne_zero q)]; split at hm <;> omega, by have hn1 := HN1.out; omega, HW7.out⟩
          · have di : decide ((q : Int) < (len : Int)) = false := decide_eq_false (by omega)
            obtain ⟨n, hn0, hnle⟩ : ∃ n : Nat, (s.length : Int) - (p : Int) = (n : Int) ∧ p + n ≤ s.length := ⟨s.length - p, by omega, by omega⟩
            have hpl : ((s.drop p).take n).length = n := by rw [List.length_take, List.length_drop]; omega
            obtain ⟨pl, hple⟩ : ∃ pl, (s.drop p).take n = pl := ⟨_, rfl⟩
            rw [hple] at hpl
            have hext : S.extract p (p + n) = ⟨pl.toArray⟩ := by
              rw [← HS.out, ← hple]
              apply ByteArray.ext; apply Array.ext'
              simp only [ByteArray.data_extract, Array.toList_extract, List.extract, Nat.add_sub_cancel_left]
            have p1 : (0 : Int) ≤ (p : Int) + (n : Int) := by omega
            have p2 : (p : Int) + (n : Int) ≤ (s.length : Int) := by omega
            have p3 : (p : Int) ≤ (p : Int) + (n : Int) := by omega
            have p4 : ((p : Int) + (n : Int)).toNat = p + n := by omega
            clear hple HPC
            have HN1 := hid hn0
            cases bad with
            | true =>
              have hfd := hid fun t : ByteArray => feed_bad t HW.out.rd
              go_wp2_with fail
              refine (hfd.out _).mono ?_
              rintro e w5 ⟨b5, rfl⟩
              have B5 := hid b5
              clear b5 hfd
              have hrf := hid fun t : ByteArray => rfeed_bad t (HW.out.rf.keep B5.out)
              go_wp2_with fail
              refine (hrf.out _).mono ?_
              rintro e w6 ⟨b6, rfl⟩
              have HW6 := hid (HW.out.later (a' := p + n) (below_to B5.out b6) (by omega))
              have c6 : w6.cell? ⟨X, 0, none⟩ = some (.string ⟨B.toArray⟩) := cell_at HW6.out.rf 0
              have hBs := text_size B
              clear b6 hrf B5 HW
              have hms := hid (messages_any (w := w6) (B1 := 0) (B2 := 0) (v1 := .slice none 0 0) (v2 := .slice none 0 0) (l := []) (.inl ⟨rfl, rfl⟩) (.inl ⟨rfl, rfl⟩) (by simp))
              go_wp2_with fail
              refine hms.out.mono ?_
              rintro e w7 ⟨d7, rfl⟩
              have HW7 := hid (HW6.out.later (a' := p + n) d7.below (by omega))
              have hlf := hid ((left_any HW7.out.rd).mono (R := fun e w' => w7 = w' ∧ e = .returned (.int .i64 0)) fun e w' h => by simpa using h)
              clear d7 c6 HW6 hms
              go_wp2_with fail
              refine hlf.out.mono ?_
              rintro e w8 ⟨rfl, rfl⟩
              go_wp2_with fail
              go_roundg (gk - 1)
              case measure => omega
              case rel => exact ⟨p + n, q + 1, bv, l, B, true, by omega, by go_num, by go_num, by have hn1 := HN1.out; rw [if_neg (Nat.succ_ne_zero q)]; split at hm <;> omega, by have hn1 := HN1.out; omega, HW7.out⟩
            | false =>
              have hlk := HW.out.len rfl
              have hfd := hid (feed_any pl HW.out.rd (fun j e => (HW.out.far j e).2.1) (by omega))
              go_wp2_with fail
              refine hfd.out.mono ?_
              rintro e w5 ⟨mv, bv', rfl, hm5, hr5, ho5, hb5⟩
              have hrf5 : RefAt w5 X B false := ho5.get HW.out.rf fun e => by
                rcases e with e | e
                · exact HW.out.ne e.symm
                · exact (HW.out.far _ e).2.2 rfl
              have hlB := (HW.out.like rfl).1
              have hrf := hid (rfeed_any pl hrf5 (by rw [← hlB]; omega))
              obtain ⟨A1, A2, -⟩ := HE.byte_feed pl B (HW.out.like rfl).2
              rw [← hlB] at A1 A2
              have hcnt : (HE.feedL (l ++ pl)).1.length ≤ 1000000 := Nat.le_trans (HE.feedN_cnt _ _) (by rw [List.length_append]; omega)
              have H5 := hid (And.intro hm5 (And.intro hr5 (And.intro ho5 hb5)))
              rw [A2]
              rw [A1] at hcnt
              have hrfe : Hid (Calls Try.prog 18 #[.pointer (some ⟨X, 0, none⟩), .string ⟨pl.toArray⟩] w5 (RFeedV w5 X (HE.byteL l pl))) := by rw [hlB]; exact hrf
              clear hm5 hr5 ho5 hb5 hrf5 hfd hrf
              obtain ⟨r, hr⟩ : ∃ r, HE.byteL l pl = r := ⟨_, rfl⟩
              rw [hr] at hrfe hcnt ⊢
              have HR := hid hr
              clear hr A1 A2
              have HLB := hid hlB
              clear hlB
              obtain ⟨ms, B2, bad2⟩ := r
              dsimp only at hcnt ⊢
              cases bad2 with
              | true =>
                simp only [if_true]
                go_wp2_with fail
                refine hrfe.out.mono ?_
                rintro e w6 ⟨mv2, rfl, hm6, hr6, ho6⟩
                dsimp only at hm6 hr6 ⊢
                simp only [if_true]
                have hnx := HW.out.next pl H5.out.1 H5.out.2.1 H5.out.2.2.1 H5.out.2.2.2 (w2 := w6) (by rw [← HLB.out, HR.out]; exact hr6) ho6
                rw [← HLB.out, HR.out, hpl] at hnx
                dsimp only at hnx
                have HNX := hid hnx
                have hms := hid (messages_any hnx.2 hm6 hcnt)
                have c6 : w6.cell? ⟨X, 0, none⟩ = some (.string ⟨B2.toArray⟩) := cell_at hr6 0
                have hBs := text_size B2
                clear hnx hm6 hr6 ho6 HW hrfe H5
                go_wp2_with fail
                refine hms.out.mono ?_
                rintro e w7 ⟨d7, rfl⟩
                have HW7 := hid (HNX.out.1.later (a' := p + n) d7.below (by omega))
                have hlf := hid ((left_any HW7.out.rd).mono (R := fun e w' => w7 = w' ∧ e = .returned (.int .i64 0)) fun e w' h => by simpa using h)
                clear d7 c6 HNX hms
                go_wp2_with fail
                refine hlf.out.mono ?_
                rintro e w8 ⟨rfl, rfl⟩
                go_wp2_with fail
                go_roundg (gk - 1)
                case measure => omega
                case rel => exact ⟨p + n, q + 1, bv', _, B2, true, by omega, by go_num, by go_num, by have hn1 := HN1.out; rw [if_neg (Nat.succ_ne_zero q)]; split at hm <;> omega, by have hn1 := HN1.out; omega, HW7.out⟩
              | false =>
                simp only [Bool.false_eq_true, if_false]
                go_wp2_with fail
                refine hrfe.out.mono ?_
                rintro e w6 ⟨mv2, rfl, hm6, hr6, ho6⟩
                dsimp only at hm6 hr6 ⊢
                simp only [Bool.false_eq_true, if_false]
                have hnx := HW.out.next pl H5.out.1 H5.out.2.1 H5.out.2.2.1 H5.out.2.2.2 (w2 := w6) (by rw [← HLB.out, HR.out]; exact hr6) ho6
                rw [← HLB.out, HR.out, hpl] at hnx
                dsimp only at hnx
                have HNX := hid hnx
                have hms := hid (messages_any hnx.2 hm6 hcnt)
                have c6 : w6.cell? ⟨X, 0, none⟩ = some (.string ⟨B2.toArray⟩) := cell_at hr6 0
                have hBs := text_size B2
                clear hnx hm6 hr6 ho6 HW hrfe H5
                go_wp2_with fail
                refine hms.out.mono ?_
                rintro e w7 ⟨d7, rfl⟩
                have HW7 := hid (HNX.out.1.later (a' := p + n) d7.below (by omega))
                have hlf : Hid (Calls Try.prog 20 #[.pointer (some ⟨R, 0, none⟩)] w7 fun e w' => w7 = w' ∧ e = .returned (.int .i64 (B2.length : Int))) := (left_any HW7.out.rd).mono fun e w' h => by rw [← (HW7.out.like rfl).1]; simpa using h
                clear d7 c6 HNX hms
                go_wp2_with fail
                refine hlf.out.mono ?_
                rintro e w8 ⟨rfl, rfl⟩
                go_wp2_with fail
                go_roundg (gk - 1)
                case measure => omega
                case rel => exact ⟨p + n, q + 1, bv', _, B2, false, by omega, by go_num, by go_num, by have hn1 := HN1.out; rw [if_neg (Nat.succ_ne_zero q)]; split at hm <;> omega, by have hn1 := HN1.out; omega, HW7.out⟩
        · have dz : ((q : Int) == 0) = false := beq_eq_false_iff_ne.2 (by omega)
          have HB0 := hid HW.out.below
          clear HW HPC
          go_wp2_with fail
          refine (hA.out _).mono ?_
          rintro e w9 ⟨rfl, hb⟩
          have HB := hid (below_to HB0.out hb)
          clear hb
          go_wp2_with fail
          go_ret
          exact ⟨rfl, HB.out⟩
  · go_enter Try.func5, Try.ntmps5
    go_wp2_with fail
    refine (HF.out _).mono ?_
    rintro e w1 ⟨b1, rfl⟩
    have GA1 := hid (keepB b1 GA.out)
    have HM1 := hid (below_to HM.out b1)
    clear b1 c0 c1 GA HM HF
    have c0 := cell_at GA1.out 0
    have c1 := cell_at GA1.out 1
    simp only [List.getElem?_toArray, List.getElem?_cons_succ, List.getElem?_cons_zero] at c0 c1
    go_wp2_with fail
    refine (HG.out _).mono ?_
    rintro e w2 ⟨b1, rfl⟩
    have HM2 := hid (below_to HM1.out b1)
    clear b1 c0 c1 GA1 HM1 HG
    go_wp2_with fail
    refine (hN.out _).mono ?_
    rintro e w3 ⟨b1, rfl, hrd⟩
    have hX0 : W.heap.size ≤ w3.heap.size := Nat.le_trans HM2.out.size b1.size
    have hRX : w2.heap.size < w3.heap.size := hget_lt hrd.cells
    have HM3 := below_to HM2.out b1
    have h0 : LW W (w3.alloc (.cells #[.string ⟨#[]⟩, .int .i64 0] 55)) w2.heap.size w3.heap.size 0 (.slice none 0 0) [] [] false :=
      ⟨below_alloc HM3 _, ⟨keepB (below_new _) hrd.cells, .nil _, by simp [Value.ownBlock]⟩, alloc_at _ _, HM2.out.size, hX0, by omega, (fun j e => by cases e), fun _ => ⟨rfl, HE.quiet_nil⟩, fun _ => Nat.le_refl _⟩
    have H0 := hid h0
    generalize w2.heap.size = R at *
    obtain ⟨X, hX⟩ : ∃ X, w3.heap.size = X := ⟨_, rfl⟩
    have HX := hid hX
    rw [hX] at H0
    clear hX hX0 hRX HM3 h0 b1 hrd HM2
    go_wp2_with fail
    rw [HX.out]
    go_loopg [13, 14] (s.length + len + 2) (fun g at' i wr => ∃ (p q : Nat) (bv : Value) (l B : HE.BS) (bad : Bool), p ≤ s.length ∧ at' = .int .i64 (p : Int) ∧ i = .int .i64 (q : Int) ∧ (s.length - p) + (len - q) + (if q = 0 then 1 else 0) < g ∧ (q ≤ len ∨ (p = s.length ∧ q ≤ len + 1)) ∧ LW W wr R X p bv l B bad)
    case atStart => exact ⟨0, 0, _, [], [], false, Nat.zero_le _, rfl, rfl, by simp, .inl (Nat.zero_le _), H0.out⟩
    case round =>
      obtain ⟨p, q, bv, l, B, bad, hps, rfl, rfl, hm, hqb, hw⟩ := hrel
      have hq1 : q ≤ 1001 := by omega
      have HW := hid hw
      clear hw
      by_cases hq : p < s.length
      · have dq : decide ((p : Int) < (s.length : Int)) = true := decide_eq_true (by omega)
        by_cases hi : q < len
        · have di : decide ((q : Int) < (len : Int)) = true := decide_eq_true (by omega)
          obtain ⟨g, off, x, ha, hx, hgl, hc⟩ := HPC.out q hi
          have hc' : wr.cell? ⟨g, off + q, none⟩ = some (.int .u16 (x : Int)) := (HW.out.below.cell (p := ⟨g, off + q, none⟩) hgl).trans hc
          subst ha
          have hc2 : q = 0 → wr.cell? ⟨g, off, none⟩ = some (.int .u16 (x : Int)) := fun e => by rw [e] at hc'; exact hc'
          have i1 : (0 : Int) ≤ (q : Int) := by omega
          have i2 : (q : Int) < (len : Int) := by omega
          obtain ⟨n0, hn0⟩ : ∃ n0 : Nat, (s.length : Int) - (p : Int) = (n0 : Int) := ⟨s.length - p, by omega⟩
          obtain ⟨n, hmin, hnle⟩ : ∃ n : Nat, min (n0 : Int) ((x : Int) % 300) = (n : Int) ∧ p + n ≤ s.length := ⟨min n0 (x % 300), by omega, by omega⟩
          clear hc
          have hpl : ((s.drop p).take n).length = n := by rw [List.length_take, List.length_drop]; omega
          obtain ⟨pl, hple⟩ : ∃ pl, (s.drop p).take n = pl := ⟨_, rfl⟩
          rw [hple] at hpl
          have hext : S.extract p (p + n) = ⟨pl.toArray⟩ := by
            rw [← HS.out, ← hple]
            apply ByteArray.ext; apply Array.ext'
            simp only [ByteArray.data_extract, Array.toList_extract, List.extract, Nat.add_sub_cancel_left]
          have p1 : (0 : Int) ≤ (p : Int) + (n : Int) := by omega
          have p2 : (p : Int) + (n : Int) ≤ (s.length : Int) := by omega
          have p3 : (p : Int) ≤ (p : Int) + (n : Int) := by omega
          have p4 : ((p : Int) + (n : Int)).toNat = p + n := by omega
          clear hple HPC
          have HN1 := hid hn0
          cases bad with
          | true =>
            have hfd := hid fun t : ByteArray => feed_bad t HW.out.rd
            go_wp2_with fail
            refine (hfd.out _).mono ?_
            rintro e w5 ⟨b5, rfl⟩
            have B5 := hid b5
            clear b5 hfd
            have hrf := hid fun t : ByteArray => rfeed_bad t (HW.out.rf.keep B5.out)
            go_wp2_with fail
            refine (hrf.out _).mono ?_
            rintro e w6 ⟨b6, rfl⟩
            have HW6 := hid (HW.out.later (a' := p + n) (below_to B5.out b6) (by omega))
            have c6 : w6.cell? ⟨X, 0, none⟩ = some (.string ⟨B.toArray⟩) := cell_at HW6.out.rf 0
            have hBs := text_size B
            clear b6 hrf B5 HW
            have hms := hid (messages_any (w := w6) (B1 := 0) (B2 := 0) (v1 := .slice none 0 0) (v2 := .slice none 0 0) (l := []) (.inl ⟨rfl, rfl⟩) (.inl ⟨rfl, rfl⟩) (by simp))
            go_wp2_with fail
            refine hms.out.mono ?_
            rintro e w7 ⟨d7, rfl⟩
            have HW7 := hid (HW6.out.later (a' := p + n) d7.below (by omega))
            have hlf := hid ((left_any HW7.out.rd).mono (R := fun e w' => w7 = w' ∧ e = .returned (.int .i64 0)) fun e w' h => by simpa using h)
            clear d7 c6 HW6 hms
            go_wp2_with fail
            refine hlf.out.mono ?_
            rintro e w8 ⟨rfl, rfl⟩
            go_wp2_with fail
            go_roundg (gk - 1)
            case measure => omega
            case rel => exact ⟨p + n, q + 1, bv, l, B, true, by omega, by go_num, by go_num, by have hn1 := HN1.out; rw [if_neg (Nat.succ_ne_zero q)]; split at hm <;> omega, by have hn1 := HN1.out; omega, HW7.out⟩
          | false =>
            have hlk := HW.out.len rfl
            have hfd := hid (feed_any pl HW.out.rd (fun j e => (HW.out.far j e).2.1) (by omega))
            go_wp2_with fail
            refine hfd.out.mono ?_
            rintro e w5 ⟨mv, bv', rfl, hm5, hr5, ho5, hb5⟩
            have hrf5 : RefAt w5 X B false := ho5.get HW.out.rf fun e => by
              rcases e with e | e
              · exact HW.out.ne e.symm
              · exact (HW.out.far _ e).2.2 rfl
            have hlB := (HW.out.like rfl).1
            have hrf := hid (rfeed_any pl hrf5 (by rw [← hlB]; omega))
            obtain ⟨A1, A2, -⟩ := HE.byte_feed pl B (HW.out.like rfl).2
            rw [← hlB] at A1 A2
            have hcnt : (HE.feedL (l ++ pl)).1.length ≤ 1000000 := Nat.le_trans (HE.feedN_cnt _ _) (by rw [List.length_append]; omega)
            have H5 := hid (And.intro hm5 (And.intro hr5 (And.intro ho5 hb5)))
            rw [A2]
            rw [A1] at hcnt
            have hrfe : Hid (Calls Try.prog 18 #[.pointer (some ⟨X, 0, none⟩), .string ⟨pl.toArray⟩] w5 (RFeedV w5 X (HE.byteL l pl))) := by rw [hlB]; exact hrf
            clear hm5 hr5 ho5 hb5 hrf5 hfd hrf
            obtain ⟨r, hr⟩ : ∃ r, HE.byteL l pl = r := ⟨_, rfl⟩
            rw [hr] at hrfe hcnt ⊢
            have HR := hid hr
            clear hr A1 A2
            have HLB := hid hlB
            clear hlB
            obtain ⟨ms, B2, bad2⟩ := r
            dsimp only at hcnt ⊢
            cases bad2 with
            | true =>
              simp only [if_true]
              go_wp2_with fail
              refine hrfe.out.mono ?_
              rintro e w6 ⟨mv2, rfl, hm6, hr6, ho6⟩
              dsimp only at hm6 hr6 ⊢
              simp only [if_true]
              have hnx := HW.out.next pl H5.out.1 H5.out.2.1 H5.out.2.2.1 H5.out.2.2.2 (w2 := w6) (by rw [← HLB.out, HR.out]; exact hr6) ho6
              rw [← HLB.out, HR.out, hpl] at hnx
              dsimp only at hnx
              have HNX := hid hnx
              have hms := hid (messages_any hnx.2 hm6 hcnt)
              have c6 : w6.cell? ⟨X, 0, none⟩ = some (.string ⟨B2.toArray⟩) := cell_at hr6 0
              have hBs := text_size B2
              clear hnx hm6 hr6 ho6 HW hrfe H5
              go_wp2_with fail
              refine hms.out.mono ?_
              rintro e w7 ⟨d7, rfl⟩
              have HW7 := hid (HNX.out.1.later (a' := p + n) d7.below (by omega))
              have hlf := hid ((left_any HW7.out.rd).mono (R := fun e w' => w7 = w' ∧ e = .returned (.int .i64 0)) fun e w' h => by simpa using h)
              clear d7 c6 HNX hms
              go_wp2_with fail
              refine hlf.out.mono ?_
              rintro e w8 ⟨rfl, rfl⟩
              go_wp2_with fail
              go_roundg (gk - 1)
              case measure => omega
              case rel => exact ⟨p + n, q + 1, bv', _, B2, true, by omega, by go_num, by go_num, by have hn1 := HN1.out; rw [if_neg (Nat.succ_ne_zero q)]; split at hm <;> omega, by have hn1 := HN1.out; omega, HW7.out⟩
            | false =>
              simp only [Bool.false_eq_true, if_false]
              go_wp2_with fail
              refine hrfe.out.mono ?_
              rintro e w6 ⟨mv2, rfl, hm6, hr6, ho6⟩
              dsimp only at hm6 hr6 ⊢
              simp only [Bool.false_eq_true, if_false]
              have hnx := HW.out.next pl H5.out.1 H5.out.2.1 H5.out.2.2.1 H5.out.2.2.2 (w2 := w6) (by rw [← HLB.out, HR.out]; exact hr6) ho6
              rw [← HLB.out, HR.out, hpl] at hnx
              dsimp only at hnx
              have HNX := hid hnx
              have hms := hid (messages_any hnx.2 hm6 hcnt)
              have c6 : w6.cell? ⟨X, 0, none⟩ = some (.string ⟨B2.toArray⟩) := cell_at hr6 0
              have hBs := text_size B2
              clear hnx hm6 hr6 ho6 HW hrfe H5
              go_wp2_with fail
              refine hms.out.mono ?_
              rintro e w7 ⟨d7, rfl⟩
              have HW7 := hid (HNX.out.1.later (a' := p + n) d7.below (by omega))
              have hlf : Hid (Calls Try.prog 20 #[.pointer (some ⟨R, 0, none⟩)] w7 fun e w' => w7 = w' ∧ e = .returned (.int .i64 (B2.length : Int))) := (left_any HW7.out.rd).mono fun e w' h => by rw [← (HW7.out.like rfl).1]; simpa using h
              clear d7 c6 HNX hms
              go_wp2_with fail
              refine hlf.out.mono ?_
              rintro e w8 ⟨rfl, rfl⟩
              go_wp2_with fail
              go_roundg (gk - 1)
              case measure => omega
              case rel => exact ⟨p + n, q + 1, bv', _, B2, false, by omega, by go_num, by go_num, by have hn1 := HN1.out; rw [if_neg (Nat.succ_ne_zero q)]; split at hm <;> omega, by have hn1 := HN1.out; omega, HW7.out⟩
        · have di : decide ((q : Int) < (len : Int)) = false := decide_eq_false (by omega)
          obtain ⟨n, hn0, hnle⟩ : ∃ n : Nat, (s.length : Int) - (p : Int) = (n : Int) ∧ p + n ≤ s.length := ⟨s.length - p, by omega, by omega⟩
          have hpl : ((s.drop p).take n).length = n := by rw [List.length_take, List.length_drop]; omega
          obtain ⟨pl, hple⟩ : ∃ pl, (s.drop p).take n = pl := ⟨_, rfl⟩
          rw [hple] at hpl
          have hext : S.extract p (p + n) = ⟨pl.toArray⟩ := by
            rw [← HS.out, ← hple]
            apply ByteArray.ext; apply Array.ext'
            simp only [ByteArray.data_extract, Array.toList_extract, List.extract, Nat.add_sub_cancel_left]
          have p1 : (0 : Int) ≤ (p : Int) + (n : Int) := by omega
          have p2 : (p : Int) + (n : Int) ≤ (s.length : Int) := by omega
          have p3 : (p : Int) ≤ (p : Int) + (n : Int) := by omega
          have p4 : ((p : Int) + (n : Int)).toNat = p + n := by omega
          clear hple HPC
          have HN1 := hid hn0
          cases bad with
          | true =>
            have hfd := hid fun t : ByteArray => feed_bad t HW.out.rd
            go_wp2_with fail
            refine (hfd.out _).mono ?_
            rintro e w5 ⟨b5, rfl⟩
            have B5 := hid b5
            clear b5 hfd
            have hrf := hid fun t : ByteArray => rfeed_bad t (HW.out.rf.keep B5.out)
            go_wp2_with fail
            refine (hrf.out _).mono ?_
            rintro e w6 ⟨b6, rfl⟩
            have HW6 := hid (HW.out.later (a' := p + n) (below_to B5.out b6) (by omega))
            have c6 : w6.cell? ⟨X, 0, none⟩ = some (.string ⟨B.toArray⟩) := cell_at HW6.out.rf 0
            have hBs := text_size B
            clear b6 hrf B5 HW
            have hms := hid (messages_any (w := w6) (B1 := 0) (B2 := 0) (v1 := .slice none 0 0) (v2 := .slice none 0 0) (l := []) (.inl ⟨rfl, rfl⟩) (.inl ⟨rfl, rfl⟩) (by simp))
            go_wp2_with fail
            refine hms.out.mono ?_
            rintro e w7 ⟨d7, rfl⟩
            have HW7 := hid (HW6.out.later (a' := p + n) d7.below (by omega))
            have hlf := hid ((left_any HW7.out.rd).mono (R := fun e w' => w7 = w' ∧ e = .returned (.int .i64 0)) fun e w' h => by simpa using h)
            clear d7 c6 HW6 hms
            go_wp2_with fail
            refine hlf.out.mono ?_
            rintro e w8 ⟨rfl, rfl⟩
            go_wp2_with fail
            go_roundg (gk - 1)
            case measure => omega
            case rel => exact ⟨p + n, q + 1, bv, l, B, true, by omega, by go_num, by go_num, by have hn1 := HN1.out; rw [if_neg (Nat.succ_ne_zero q)]; split at hm <;> omega, by have hn1 := HN1.out; omega, HW7.out⟩
          | false =>
            have hlk := HW.out.len rfl
            have hfd := hid (feed_any pl HW.out.rd (fun j e => (HW.out.far j e).2.1) (by omega))
            go_wp2_with fail
            refine hfd.out.mono ?_
            rintro e w5 ⟨mv, bv', rfl, hm5, hr5, ho5, hb5⟩
            have hrf5 : RefAt w5 X B false := ho5.get HW.out.rf fun e => by
              rcases e with e | e
              · exact HW.out.ne e.symm
              · exact (HW.out.far _ e).2.2 rfl
            have hlB := (HW.out.like rfl).1
            have hrf := hid (rfeed_any pl hrf5 (by rw [← hlB]; omega))
            obtain ⟨A1, A2, -⟩ := HE.byte_feed pl B (HW.out.like rfl).2
            rw [← hlB] at A1 A2
            have hcnt : (HE.feedL (l ++ pl)).1.length ≤ 1000000 := Nat.le_trans (HE.feedN_cnt _ _) (by rw [List.length_append]; omega)
            have H5 := hid (And.intro hm5 (And.intro hr5 (And.intro ho5 hb5)))
            rw [A2]
            rw [A1] at hcnt
            have hrfe : Hid (Calls Try.prog 18 #[.pointer (some ⟨X, 0, none⟩), .string ⟨pl.toArray⟩] w5 (RFeedV w5 X (HE.byteL l pl))) := by rw [hlB]; exact hrf
            clear hm5 hr5 ho5 hb5 hrf5 hfd hrf
            obtain ⟨r, hr⟩ : ∃ r, HE.byteL l pl = r := ⟨_, rfl⟩
            rw [hr] at hrfe hcnt ⊢
            have HR := hid hr
            clear hr A1 A2
            have HLB := hid hlB
            clear hlB
            obtain ⟨ms, B2, bad2⟩ := r
            dsimp only at hcnt ⊢
            cases bad2 with
            | true =>
              simp only [if_true]
              go_wp2_with fail
              refine hrfe.out.mono ?_
              rintro e w6 ⟨mv2, rfl, hm6, hr6, ho6⟩
              dsimp only at hm6 hr6 ⊢
              simp only [if_true]
              have hnx := HW.out.next pl H5.out.1 H5.out.2.1 H5.out.2.2.1 H5.out.2.2.2 (w2 := w6) (by rw [← HLB.out, HR.out]; exact hr6) ho6
              rw [← HLB.out, HR.out, hpl] at hnx
              dsimp only at hnx
              have HNX := hid hnx
              have hms := hid (messages_any hnx.2 hm6 hcnt)
              have c6 : w6.cell? ⟨X, 0, none⟩ = some (.string ⟨B2.toArray⟩) := cell_at hr6 0
              have hBs := text_size B2
              clear hnx hm6 hr6 ho6 HW hrfe H5
              go_wp2_with fail
              refine hms.out.mono ?_
              rintro e w7 ⟨d7, rfl⟩
              have HW7 := hid (HNX.out.1.later (a' := p + n) d7.below (by omega))
              have hlf := hid ((left_any HW7.out.rd).mono (R := fun e w' => w7 = w' ∧ e = .returned (.int .i64 0)) fun e w' h => by simpa using h)
              clear d7 c6 HNX hms
              go_wp2_with fail
              refine hlf.out.mono ?_
              rintro e w8 ⟨rfl, rfl⟩
              go_wp2_with fail
              go_roundg (gk - 1)
              case measure => omega
              case rel => exact ⟨p + n, q + 1, bv', _, B2, true, by omega, by go_num, by go_num, by have hn1 := HN1.out; rw [if_neg (Nat.succ_ne_zero q)]; split at hm <;> omega, by have hn1 := HN1.out; omega, HW7.out⟩
            | false =>
              simp only [Bool.false_eq_true, if_false]
              go_wp2_with fail
              refine hrfe.out.mono ?_
              rintro e w6 ⟨mv2, rfl, hm6, hr6, ho6⟩
              dsimp only at hm6 hr6 ⊢
              simp only [Bool.false_eq_true, if_false]
              have hnx := HW.out.next pl H5.out.1 H5.out.2.1 H5.out.2.2.1 H5.out.2.2.2 (w2 := w6) (by rw [← HLB.out, HR.out]; exact hr6) ho6
              rw [← HLB.out, HR.out, hpl] at hnx
              dsimp only at hnx
              have HNX := hid hnx
              have hms := hid (messages_any hnx.2 hm6 hcnt)
              have c6 : w6.cell? ⟨X, 0, none⟩ = some (.string ⟨B2.toArray⟩) := cell_at hr6 0
              have hBs := text_size B2
              clear hnx hm6 hr6 ho6 HW hrfe H5
              go_wp2_with fail
              refine hms.out.mono ?_
              rintro e w7 ⟨d7, rfl⟩
              have HW7 := hid (HNX.out.1.later (a' := p + n) d7.below (by omega))
              have hlf : Hid (Calls Try.prog 20 #[.pointer (some ⟨R, 0, none⟩)] w7 fun e w' => w7 = w' ∧ e = .returned (.int .i64 (B2.length : Int))) := (left_any HW7.out.rd).mono fun e w' h => by rw [← (HW7.out.like rfl).1]; simpa using h
              clear d7 c6 HNX hms
              go_wp2_with fail
              refine hlf.out.mono ?_
              rintro e w8 ⟨rfl, rfl⟩
              go_wp2_with fail
              go_roundg (gk - 1)
              case measure => omega
              case rel => exact ⟨p + n, q + 1, bv', _, B2, false, by omega, by go_num, by go_num, by have hn1 := HN1.out; rw [if_neg (Nat.succ_ne_zero q)]; split at hm <;> omega, by have hn1 := HN1.out; omega, HW7.out⟩
      · have dq : decide ((p : Int) < (s.length : Int)) = false := decide_eq_false (by omega)
        by_cases hq0 : q = 0
        · have dz : ((q : Int) == 0) = true := beq_iff_eq.2 (by omega)
          by_cases hi : q < len
          · have di : decide ((q : Int) < (len : Int)) = true := decide_eq_true (by omega)
            obtain ⟨g, off, x, ha, hx, hgl, hc⟩ := HPC.out q hi
            have hc' : wr.cell? ⟨g, off + q, none⟩ = some (.int .u16 (x : Int)) := (HW.out.below.cell (p := ⟨g, off + q, none⟩) hgl).trans hc
            subst ha
            have hc2 : q = 0 → wr.cell? ⟨g, off, none⟩ = some (.int .u16 (x : Int)) := fun e => by rw [e] at hc'; exact hc'
            have i1 : (0 : Int) ≤ (q : Int) := by omega
            have i2 : (q : Int) < (len : Int) := by omega
            obtain ⟨n0, hn0⟩ : ∃ n0 : Nat, (s.length : Int) - (p : Int) = (n0 : Int) := ⟨s.length - p, by omega⟩
            obtain ⟨n, hmin, hnle⟩ : ∃ n : Nat, min (n0 : Int) ((x : Int) % 300) = (n : Int) ∧ p + n ≤ s.length := ⟨min n0 (x % 300), by omega, by omega⟩
            clear hc
            have hpl : ((s.drop p).take n).length = n := by rw [List.length_take, List.length_drop]; omega
            obtain ⟨pl, hple⟩ : ∃ pl, (s.drop p).take n = pl := ⟨_, rfl⟩
            rw [hple] at hpl
            have hext : S.extract p (p + n) = ⟨pl.toArray⟩ := by
              rw [← HS.out, ← hple]
              apply ByteArray.ext; apply Array.ext'
              simp only [ByteArray.data_extract, Array.toList_extract, List.extract, Nat.add_sub_cancel_left]
            have p1 : (0 : Int) ≤ (p : Int) + (n : Int) := by omega
            have p2 : (p : Int) + (n : Int) ≤ (s.length : Int) := by omega
            have p3 : (p : Int) ≤ (p : Int) + (n : Int) := by omega
            have p4 : ((p : Int) + (n : Int)).toNat = p + n := by omega
            clear hple HPC
            have HN1 := hid hn0
            cases bad with
            | true =>
              have hfd := hid fun t : ByteArray => feed_bad t HW.out.rd
              go_wp2_with fail
              refine (hfd.out _).mono ?_
              rintro e w5 ⟨b5, rfl⟩
              have B5 := hid b5
              clear b5 hfd
              have hrf := hid fun t : ByteArray => rfeed_bad t (HW.out.rf.keep B5.out)
              go_wp2_with fail
              refine (hrf.out _).mono ?_
              rintro e w6 ⟨b6, rfl⟩
              have HW6 := hid (HW.out.later (a' := p + n) (below_to B5.out b6) (by omega))
              have c6 : w6.cell? ⟨X, 0, none⟩ = some (.string ⟨B.toArray⟩) := cell_at HW6.out.rf 0
              have hBs := text_size B
              clear b6 hrf B5 HW
              have hms := hid (messages_any (w := w6) (B1 := 0) (B2 := 0) (v1 := .slice none 0 0) (v2 := .slice none 0 0) (l := []) (.inl ⟨rfl, rfl⟩) (.inl ⟨rfl, rfl⟩) (by simp))
              go_wp2_with fail
              refine hms.out.mono ?_
              rintro e w7 ⟨d7, rfl⟩
              have HW7 := hid (HW6.out.later (a' := p + n) d7.below (by omega))
              have hlf := hid ((left_any HW7.out.rd).mono (R := fun e w' => w7 = w' ∧ e = .returned (.int .i64 0)) fun e w' h => by simpa using h)
              clear d7 c6 HW6 hms
              go_wp2_with fail
              refine hlf.out.mono ?_
              rintro e w8 ⟨rfl, rfl⟩
              go_wp2_with fail
              go_roundg (gk - 1)
              case measure => omega
              case rel => exact ⟨p + n, q + 1, bv, l, B, true, by omega, by go_num, by go_num, by have hn1 := HN1.out; rw [if_neg (Nat.succ_ne_zero q)]; split at hm <;> omega, by have hn1 := HN1.out; omega, HW7.out⟩
            | false =>
              have hlk := HW.out.len rfl
              have hfd := hid (feed_any pl HW.out.rd (fun j e => (HW.out.far j e).2.1) (by omega))
              go_wp2_with fail
              refine hfd.out.mono ?_
              rintro e w5 ⟨mv, bv', rfl, hm5, hr5, ho5, hb5⟩
              have hrf5 : RefAt w5 X B false := ho5.get HW.out.rf fun e => by
                rcases e with e | e
                · exact HW.out.ne e.symm
                · exact (HW.out.far _ e).2.2 rfl
              have hlB := (HW.out.like rfl).1
              have hrf := hid (rfeed_any pl hrf5 (by rw [← hlB]; omega))
              obtain ⟨A1, A2, -⟩ := HE.byte_feed pl B (HW.out.like rfl).2
              rw [← hlB] at A1 A2
              have hcnt : (HE.feedL (l ++ pl)).1.length ≤ 1000000 := Nat.le_trans (HE.feedN_cnt _ _) (by rw [List.length_append]; omega)
              have H5 := hid (And.intro hm5 (And.intro hr5 (And.intro ho5 hb5)))
              rw [A2]
              rw [A1] at hcnt
              have hrfe : Hid (Calls Try.prog 18 #[.pointer (some ⟨X, 0, none⟩), .string ⟨pl.toArray⟩] w5 (RFeedV w5 X (HE.byteL l pl))) := by rw [hlB]; exact hrf
              clear hm5 hr5 ho5 hb5 hrf5 hfd hrf
              obtain ⟨r, hr⟩ : ∃ r, HE.byteL l pl = r := ⟨_, rfl⟩
              rw [hr] at hrfe hcnt ⊢
              have HR := hid hr
              clear hr A1 A2
              have HLB := hid hlB
              clear hlB
              obtain ⟨ms, B2, bad2⟩ := r
              dsimp only at hcnt ⊢
              cases bad2 with
              | true =>
                simp only [if_true]
                go_wp2_with fail
                refine hrfe.out.mono ?_
                rintro e w6 ⟨mv2, rfl, hm6, hr6, ho6⟩
                dsimp only at hm6 hr6 ⊢
                simp only [if_true]
                have hnx := HW.out.next pl H5.out.1 H5.out.2.1 H5.out.2.2.1 H5.out.2.2.2 (w2 := w6) (by rw [← HLB.out, HR.out]; exact hr6) ho6
                rw [← HLB.out, HR.out, hpl] at hnx
                dsimp only at hnx
                have HNX := hid hnx
                have hms := hid (messages_any hnx.2 hm6 hcnt)
                have c6 : w6.cell? ⟨X, 0, none⟩ = some (.string ⟨B2.toArray⟩) := cell_at hr6 0
                have hBs := text_size B2
                clear hnx hm6 hr6 ho6 HW hrfe H5
                go_wp2_with fail
                refine hms.out.mono ?_
                rintro e w7 ⟨d7, rfl⟩
                have HW7 := hid (HNX.out.1.later (a' := p + n) d7.below (by omega))
                have hlf := hid ((left_any HW7.out.rd).mono (R := fun e w' => w7 = w' ∧ e = .returned (.int .i64 0)) fun e w' h => by simpa using h)
                clear d7 c6 HNX hms
                go_wp2_with fail
                refine hlf.out.mono ?_
                rintro e w8 ⟨rfl, rfl⟩
                go_wp2_with fail
                go_roundg (gk - 1)
                case measure => omega
                case rel => exact ⟨p + n, q + 1, bv', _, B2, true, by omega, by go_num, by go_num, by have hn1 := HN1.out; rw [if_neg (Nat.succ_ne_zero q)]; split at hm <;> omega, by have hn1 := HN1.out; omega, HW7.out⟩
              | false =>
                simp only [Bool.false_eq_true, if_false]
                go_wp2_with fail
                refine hrfe.out.mono ?_
                rintro e w6 ⟨mv2, rfl, hm6, hr6, ho6⟩
                dsimp only at hm6 hr6 ⊢
                simp only [Bool.false_eq_true, if_false]
                have hnx := HW.out.next pl H5.out.1 H5.out.2.1 H5.out.2.2.1 H5.out.2.2.2 (w2 := w6) (by rw [← HLB.out, HR.out]; exact hr6) ho6
                rw [← HLB.out, HR.out, hpl] at hnx
                dsimp only at hnx
                have HNX := hid hnx
                have hms := hid (messages_any hnx.2 hm6 hcnt)
                have c6 : w6.cell? ⟨X, 0, none⟩ = some (.string ⟨B2.toArray⟩) := cell_at hr6 0
                have hBs := text_size B2
                clear hnx hm6 hr6 ho6 HW hrfe H5
                go_wp2_with fail
                refine hms.out.mono ?_
                rintro e w7 ⟨d7, rfl⟩
                have HW7 := hid (HNX.out.1.later (a' := p + n) d7.below (by omega))
                have hlf : Hid (Calls Try.prog 20 #[.pointer (some ⟨R, 0, none⟩)] w7 fun e w' => w7 = w' ∧ e = .returned (.int .i64 (B2.length : Int))) := (left_any HW7.out.rd).mono fun e w' h => by rw [← (HW7.out.like rfl).1]; simpa using h
                clear d7 c6 HNX hms
                go_wp2_with fail
                refine hlf.out.mono ?_
                rintro e w8 ⟨rfl, rfl⟩
                go_wp2_with fail
                go_roundg (gk - 1)
                case measure => omega
                case rel => exact ⟨p + n, q + 1, bv', _, B2, false, by omega, by go_num, by go_num, by have hn1 := HN1.out; rw [if_neg (Nat.succ_ne_zero q)]; split at hm <;> omega, by have hn1 := HN1.out; omega, HW7.out⟩
          · have di : decide ((q : Int) < (len : Int)) = false := decide_eq_false (by omega)
            obtain ⟨n, hn0, hnle⟩ : ∃ n : Nat, (s.length : Int) - (p : Int) = (n : Int) ∧ p + n ≤ s.length := ⟨s.length - p, by omega, by omega⟩
            have hpl : ((s.drop p).take n).length = n := by rw [List.length_take, List.length_drop]; omega
            obtain ⟨pl, hple⟩ : ∃ pl, (s.drop p).take n = pl := ⟨_, rfl⟩
            rw [hple] at hpl
            have hext : S.extract p (p + n) = ⟨pl.toArray⟩ := by
              rw [← HS.out, ← hple]
              apply ByteArray.ext; apply Array.ext'
              simp only [ByteArray.data_extract, Array.toList_extract, List.extract, Nat.add_sub_cancel_left]
            have p1 : (0 : Int) ≤ (p : Int) + (n : Int) := by omega
            have p2 : (p : Int) + (n : Int) ≤ (s.length : Int) := by omega
            have p3 : (p : Int) ≤ (p : Int) + (n : Int) := by omega
            have p4 : ((p : Int) + (n : Int)).toNat = p + n := by omega
            clear hple HPC
            have HN1 := hid hn0
            cases bad with
            | true =>
              have hfd := hid fun t : ByteArray => feed_bad t HW.out.rd
              go_wp2_with fail
              refine (hfd.out _).mono ?_
              rintro e w5 ⟨b5, rfl⟩
              have B5 := hid b5
              clear b5 hfd
              have hrf := hid fun t : ByteArray => rfeed_bad t (HW.out.rf.keep B5.out)
              go_wp2_with fail
              refine (hrf.out _).mono ?_
              rintro e w6 ⟨b6, rfl⟩
              have HW6 := hid (HW.out.later (a' := p + n) (below_to B5.out b6) (by omega))
              have c6 : w6.cell? ⟨X, 0, none⟩ = some (.string ⟨B.toArray⟩) := cell_at HW6.out.rf 0
              have hBs := text_size B
              clear b6 hrf B5 HW
              have hms := hid (messages_any (w := w6) (B1 := 0) (B2 := 0) (v1 := .slice none 0 0) (v2 := .slice none 0 0) (l := []) (.inl ⟨rfl, rfl⟩) (.inl ⟨rfl, rfl⟩) (by simp))
              go_wp2_with fail
              refine hms.out.mono ?_
              rintro e w7 ⟨d7, rfl⟩
              have HW7 := hid (HW6.out.later (a' := p + n) d7.below (by omega))
              have hlf := hid ((left_any HW7.out.rd).mono (R := fun e w' => w7 = w' ∧ e = .returned (.int .i64 0)) fun e w' h => by simpa using h)
              clear d7 c6 HW6 hms
              go_wp2_with fail
              refine hlf.out.mono ?_
              rintro e w8 ⟨rfl, rfl⟩
              go_wp2_with fail
              go_roundg (gk - 1)
              case measure => omega
              case rel => exact ⟨p + n, q + 1, bv, l, B, true, by omega, by go_num, by go_num, by have hn1 := HN1.out; rw [if_neg (Nat.succ_ne_zero q)]; split at hm <;> omega, by have hn1 := HN1.out; omega, HW7.out⟩
            | false =>
              have hlk := HW.out.len rfl
              have hfd := hid (feed_any pl HW.out.rd (fun j e => (HW.out.far j e).2.1) (by omega))
              go_wp2_with fail
              refine hfd.out.mono ?_
              rintro e w5 ⟨mv, bv', rfl, hm5, hr5, ho5, hb5⟩
              have hrf5 : RefAt w5 X B false := ho5.get HW.out.rf fun e => by
                rcases e with e | e
                · exact HW.out.ne e.symm
                · exact (HW.out.far _ e).2.2 rfl
              have hlB := (HW.out.like rfl).1
              have hrf := hid (rfeed_any pl hrf5 (by rw [← hlB]; omega))
              obtain ⟨A1, A2, -⟩ := HE.byte_feed pl B (HW.out.like rfl).2
              rw [← hlB] at A1 A2
              have hcnt : (HE.feedL (l ++ pl)).1.length ≤ 1000000 := Nat.le_trans (HE.feedN_cnt _ _) (by rw [List.length_append]; omega)
              have H5 := hid (And.intro hm5 (And.intro hr5 (And.intro ho5 hb5)))
              rw [A2]
              rw [A1] at hcnt
              have hrfe : Hid (Calls Try.prog 18 #[.pointer (some ⟨X, 0, none⟩), .string ⟨pl.toArray⟩] w5 (RFeedV w5 X (HE.byteL l pl))) := by rw [hlB]; exact hrf
              clear hm5 hr5 ho5 hb5 hrf5 hfd hrf
              obtain ⟨r, hr⟩ : ∃ r, HE.byteL l pl = r := ⟨_, rfl⟩
              rw [hr] at hrfe hcnt ⊢
              have HR := hid hr
              clear hr A1 A2
              have HLB := hid hlB
              clear hlB
              obtain ⟨ms, B2, bad2⟩ := r
              dsimp only at hcnt ⊢
              cases bad2 with
              | true =>
                simp only [if_true]
                go_wp2_with fail
                refine hrfe.out.mono ?_
                rintro e w6 ⟨mv2, rfl, hm6, hr6, ho6⟩
                dsimp only at hm6 hr6 ⊢
                simp only [if_true]
                have hnx := HW.out.next pl H5.out.1 H5.out.2.1 H5.out.2.2.1 H5.out.2.2.2 (w2 := w6) (by rw [← HLB.out, HR.out]; exact hr6) ho6
                rw [← HLB.out, HR.out, hpl] at hnx
                dsimp only at hnx
                have HNX := hid hnx
                have hms := hid (messages_any hnx.2 hm6 hcnt)
                have c6 : w6.cell? ⟨X, 0, none⟩ = some (.string ⟨B2.toArray⟩) := cell_at hr6 0
                have hBs := text_size B2
                clear hnx hm6 hr6 ho6 HW hrfe H5
                go_wp2_with fail
                refine hms.out.mono ?_
                rintro e w7 ⟨d7, rfl⟩
                have HW7 := hid (HNX.out.1.later (a' := p + n) d7.below (by omega))
                have hlf := hid ((left_any HW7.out.rd).mono (R := fun e w' => w7 = w' ∧ e = .returned (.int .i64 0)) fun e w' h => by simpa using h)
                clear d7 c6 HNX hms
                go_wp2_with fail
                refine hlf.out.mono ?_
                rintro e w8 ⟨rfl, rfl⟩
                go_wp2_with fail
                go_roundg (gk - 1)
                case measure => omega
                case rel => exact ⟨p + n, q + 1, bv', _, B2, true, by omega, by go_num, by go_num, by have hn1 := HN1.out; rw [if_neg (Nat.succ_ne_zero q)]; split at hm <;> omega, by have hn1 := HN1.out; omega, HW7.out⟩
              | false =>
                simp only [Bool.false_eq_true, if_false]
                go_wp2_with fail
                refine hrfe.out.mono ?_
                rintro e w6 ⟨mv2, rfl, hm6, hr6, ho6⟩
                dsimp only at hm6 hr6 ⊢
                simp only [Bool.false_eq_true, if_false]
                have hnx := HW.out.next pl H5.out.1 H5.out.2.1 H5.out.2.2.1 H5.out.2.2.2 (w2 := w6) (by rw [← HLB.out, HR.out]; exact hr6) ho6
                rw [← HLB.out, HR.out, hpl] at hnx
                dsimp only at hnx
                have HNX := hid hnx
                have hms := hid (messages_any hnx.2 hm6 hcnt)
                have c6 : w6.cell? ⟨X, 0, none⟩ = some (.string ⟨B2.toArray⟩) := cell_at hr6 0
                have hBs := text_size B2
                clear hnx hm6 hr6 ho6 HW hrfe H5
                go_wp2_with fail
                refine hms.out.mono ?_
                rintro e w7 ⟨d7, rfl⟩
                have HW7 := hid (HNX.out.1.later (a' := p + n) d7.below (by omega))
                have hlf : Hid (Calls Try.prog 20 #[.pointer (some ⟨R, 0, none⟩)] w7 fun e w' => w7 = w' ∧ e = .returned (.int .i64 (B2.length : Int))) := (left_any HW7.out.rd).mono fun e w' h => by rw [← (HW7.out.like rfl).1]; simpa using h
                clear d7 c6 HNX hms
                go_wp2_with fail
                refine hlf.out.mono ?_
                rintro e w8 ⟨rfl, rfl⟩
                go_wp2_with fail
                go_roundg (gk - 1)
                case measure => omega
                case rel => exact ⟨p + n, q + 1, bv', _, B2, false, by omega, by go_num, by go_num, by have hn1 := HN1.out; rw [if_neg (Nat.succ_ne_zero q)]; split at hm <;> omega, by have hn1 := HN1.out; omega, HW7.out⟩
        · have dz : ((q : Int) == 0) = false := beq_eq_false_iff_ne.2 (by omega)
          have HB0 := hid HW.out.below
          clear HW HPC
          go_wp2_with fail
          refine (hA.out _).mono ?_
          rintro e w9 ⟨rfl, hb⟩
          have HB := hid (below_to HB0.out hb)
          clear hb
          go_wp2_with fail
          go_ret
          exact ⟨rfl, HB.out⟩
end Go.Proofs.Ytliblhfabnjpkaa

namespace Go.Proofs.Ytliblhfabnjpkaa
open Go.RowKit Go.ChangeShapes Go.WideShapes Go.Deep

section
variable {H : Type} {enc : TypeId × Value → H} {P : Program} {w : World} {base : Nat} {held : Bool}
/-- The bytes of a slice of bytes that came in. -/
theorem slice_bytes_at {t e : TypeId} {fuel : Nat} {a : Option Addr} {len cap : Nat} {x : DataW H × List MemPlace} (ht : P.underlying t = some (.slice e)) (he : P.underlying e = some (.int .u8)) (hC : P.cellsOf e = 1)
    (h : DataW.trod enc P w base (fun _ => true) held fuel t [.slice a len cap] = some x) :
    len ≤ maxLen ∧ ∃ ks : List UInt8, ks.length = len ∧ (len = 0 ∨ ∃ b off, a = some ⟨b, off, none⟩ ∧ b < w.heap.size ∧
      ∀ j, j < len → w.cell? ⟨b, off + j, none⟩ = some (.int .u8 ((ks.getD j 0).toNat : Int))) := by
  rcases open_slice1 ht hC h with ⟨hcs, _⟩ | ⟨a', l, c, m, n, V, D, Pl, hcs, _, hl, hm, hmm, _, hi⟩
  · simp only [List.cons.injEq, Value.slice.injEq, and_true] at hcs
    obtain ⟨rfl, rfl, rfl⟩ := hcs
    exact ⟨Nat.zero_le _, [], rfl, .inl rfl⟩
  · simp only [List.cons.injEq, Value.slice.injEq, and_true] at hcs
    obtain ⟨rfl, rfl, rfl⟩ := hcs
    have hmc : m = cap := by simpa using hmm
    obtain ⟨s, hs⟩ := choose_lt (α := UInt8) (n := len) (p := fun k c => w.cell? (a'.add k) = some (.int .u8 (c.toNat : Int))) (fun k hk => by
      obtain ⟨hc, htr⟩ := hi k (by omega)
      obtain ⟨n0, e0, _, f0⟩ := DataW.trod_int he htr
      have hb := bounds_u8 f0
      obtain ⟨q, rfl⟩ := Int.eq_ofNat_of_zero_le hb.1
      have e1 : V k = .int .u8 (q : Int) := by simpa using e0
      exact ⟨UInt8.ofNat q, by rw [hc, e1, UInt8.toNat_ofNat', Nat.mod_eq_of_lt (by have := hb.2; omega)]⟩)
    have hg : ∀ j, j < len → ((List.range len).map s).getD j 0 = s j := fun j hj => by simp [hj]
    refine ⟨by omega, (List.range len).map s, by simp, ?_⟩
    by_cases h0 : len = 0
    · exact .inl h0
    · right
      have hc := hs 0 (by omega)
      obtain ⟨b, off, spot⟩ := a'
      have hspot : spot = none := by simpa [Addr.add] using World.cell?_spot hc
      subst hspot
      refine ⟨b, off, rfl, by simpa [add_plain] using World.block_lt_of_cell? w _ hc, fun j hj => ?_⟩
      rw [hg j hj]
      have := hs j hj
      rwa [add_plain] at this
end

end Go.Proofs.Ytliblhfabnjpkaa

namespace Go.Proofs.Ytliblhfabnjpkaa
open Go.RowKit Go.ChangeShapes Go.WideShapes Go.Deep

section
variable {H : Type} {enc : TypeId × Value → H} {P : Program} {w : World} {base : Nat} {held : Bool}
/-- The numbers of a slice of uint16 that came in. -/
theorem slice_u16_at {t e : TypeId} {fuel : Nat} {a : Option Addr} {len cap : Nat} {x : DataW H × List MemPlace} (ht : P.underlying t = some (.slice e)) (he : P.underlying e = some (.int .u16)) (hC : P.cellsOf e = 1)
    (h : DataW.trod enc P w base (fun _ => true) held fuel t [.slice a len cap] = some x) :
    len ≤ maxLen ∧ ∀ i, i < len → ∃ (g off x : Nat), a = some ⟨g, off, none⟩ ∧ x < 65536 ∧ g < w.heap.size ∧ w.cell? ⟨g, off + i, none⟩ = some (.int .u16 (x : Int)) := by
  rcases open_slice1 ht hC h with ⟨hcs, _⟩ | ⟨a', l, c, m, n, V, D, Pl, hcs, _, hl, hm, hmm, _, hi⟩
  · simp only [List.cons.injEq, Value.slice.injEq, and_true] at hcs
    obtain ⟨rfl, rfl, rfl⟩ := hcs
    exact ⟨Nat.zero_le _, fun i hi => absurd hi (Nat.not_lt_zero i)⟩
  · simp only [List.cons.injEq, Value.slice.injEq, and_true] at hcs
    obtain ⟨rfl, rfl, rfl⟩ := hcs
    have hmc : m = cap := by simpa using hmm
    refine ⟨by omega, fun i hil => ?_⟩
    obtain ⟨hc, htr⟩ := hi i (by omega)
    obtain ⟨n0, e0, _, f0⟩ := DataW.trod_int he htr
    have hb := bounds_u16 f0
    obtain ⟨q, rfl⟩ := Int.eq_ofNat_of_zero_le hb.1
    have e1 : V i = .int .u16 (q : Int) := by simpa using e0
    obtain ⟨b, off, spot⟩ := a'
    have hspot : spot = none := by simpa [Addr.add] using World.cell?_spot (hi 0 (by omega)).1
    subst hspot
    rw [add_plain] at hc
    exact ⟨b, off, q, rfl, by have := hb.2; omega, World.block_lt_of_cell? w _ hc, by rw [hc, e1]⟩
end
section
variable {H : Type} {enc : TypeId × Value → H} {P : Program} {w : World} {base : Nat} {spare : Nat → Bool} {held : Bool}
/-- A struct that came in by value, each field of one cell: its fields. -/
theorem struct_fields {t : TypeId} {fs : Array Field} {cs : Array Value} {d : DataW H} {p : List MemPlace} (he : P.underlying t = some (.struct fs)) (hone : oneCellFields P fs = true)
    (h : DataW.Trod enc P w base spare held t (.agg cs) d p) : ∃ n, ∀ (j : Nat) (f : Field), fs[j]? = some f → ∀ hj : j < cs.size, ∃ y : DataW H × List MemPlace, DataW.trod enc P w base spare held n f.type [cs[j]] = some y := by
  obtain ⟨m, hm⟩ := h
  obtain ⟨ys, n', hn', hy, hlen, hyl, hf⟩ := DataW.trod_struct he hm
  refine ⟨n', fun j f hj hjl => ?_⟩
  obtain ⟨ho, hk⟩ := hone_of hone j f hj
  have h1 := hf j f hj
  rw [ho, hk] at h1
  have hcl : (Value.agg cs).cells.toList = cs.toList := rfl
  rw [hcl] at h1
  have hone' : (cs.toList.drop j).take 1 = [cs[j]] := by
    rw [List.drop_eq_getElem_cons (by simpa using hjl)]
    simp
  rw [hone'] at h1
  have hjf : j < fs.size := (Array.getElem?_eq_some_iff.1 hj).1
  rw [List.getElem?_eq_getElem (by omega)] at h1
  exact ⟨_, h1⟩
theorem message_open {cs : Array Value} {d : DataW H} {p : List MemPlace} (hsz : cs.size = 2) (h : DataW.Trod enc Try.prog w base spare held 33 (.agg cs) d p) :
    ∃ (k : UInt8) (b : List UInt8), cs = #[.int .u8 (k.toNat : Int), .string ⟨b.toArray⟩] ∧ b.length ≤ maxLen := by
  obtain ⟨n, hf⟩ := struct_fields Try.underlying33 (by kernel_rfl) h
  obtain ⟨l⟩ := cs
  match l, hsz with
  | [v0, v1], _ =>
    obtain ⟨y0, t0⟩ := hf 0 _ rfl (by simp)
    obtain ⟨y1, t1⟩ := hf 1 _ rfl (by simp)
    obtain ⟨n0, e0, _, f0⟩ := DataW.trod_int Try.underlying5 t0
    obtain ⟨s1, e1, _, f1⟩ := DataW.trod_string Try.underlying9 t1
    simp only [List.cons.injEq, and_true, List.getElem_toArray, List.getElem_cons_zero, List.getElem_cons_succ] at e0 e1
    subst e0 e1
    have hb := bounds_u8 f0
    obtain ⟨q, rfl⟩ := Int.eq_ofNat_of_zero_le hb.1
    refine ⟨UInt8.ofNat q, s1.data.toList, ?_, by simpa using f1⟩
    have hq : (UInt8.ofNat q).toNat = q := by rw [UInt8.toNat_ofNat', Nat.mod_eq_of_lt (by have := hb.2; omega)]
    have hs : (⟨s1.data.toList.toArray⟩ : ByteArray) = s1 := by cases s1; simp
    rw [hq, hs]
end
set_option maxRecDepth 100000 in
set_option maxHeartbeats 4000000 in
theorem lreads_quiet (S T : ByteArray) (sl bl : Nat) (km : Int) (a : Option Addr) (len cap : Nat) (W : World) (hss : S.size = sl) (hbs : T.size = bl)
    (hfar : 2048 < sl ∨ 1000 < len ∨ (2048 < bl ∧ bl < 16375) ∨ 16393 < bl) :
    Calls Try.prog 5 #[.string S, .slice a len cap, .agg #[.int .u8 km, .string T]] W fun e w' => e = .returned (.bool true) ∧ Below W.heap.size W w' := by
  have hA := hid fun w : World => alive_any (W := w)
  have hHM := below_new (w := W) (.cells #[.int .u8 km, .string T] 33)
  have HM := hid hHM
  have ga := alloc_at W (.cells #[.int .u8 km, .string T] 33)
  have c0 : (W.alloc (.cells #[.int .u8 km, .string T] 33)).cell? ⟨W.heap.size, 0, none⟩ = some (.int .u8 km) := cell_at ga 0
  have c1 : (W.alloc (.cells #[.int .u8 km, .string T] 33)).cell? ⟨W.heap.size, 1, none⟩ = some (.string T) := cell_at ga 1
  clear hHM ga
  by_cases q1 : 2048 < sl
  · have d1 : decide ((2048 : Int) < (sl : Int)) = true := decide_eq_true (by omega)
    clear hfar
    go_enter Try.func5, Try.ntmps5
    go_wp2_with fail
    refine (hA.out _).mono ?_
    rintro e w' ⟨rfl, hb⟩
    have HB := hid (below_to HM.out hb)
    clear hb
    go_wp2_with fail
    go_ret
    exact ⟨rfl, HB.out⟩
  · have d1 : decide ((2048 : Int) < (sl : Int)) = false := decide_eq_false (by omega)
    by_cases q2 : 1000 < len
    · have d2 : decide ((1000 : Int) < (len : Int)) = true := decide_eq_true (by omega)
      clear hfar
      go_enter Try.func5, Try.ntmps5
      go_wp2_with fail
      refine (hA.out _).mono ?_
      rintro e w' ⟨rfl, hb⟩
      have HB := hid (below_to HM.out hb)
      clear hb
      go_wp2_with fail
      go_ret
      exact ⟨rfl, HB.out⟩
    · have d2 : decide ((1000 : Int) < (len : Int)) = false := decide_eq_false (by omega)
      by_cases q3 : 16393 < bl
      · have d3 : decide ((2048 : Int) < (bl : Int)) = true := decide_eq_true (by omega)
        have d4 : decide ((bl : Int) < 16375) = false := decide_eq_false (by omega)
        have d5 : decide ((16393 : Int) < (bl : Int)) = true := decide_eq_true (by omega)
        clear hfar
        go_enter Try.func5, Try.ntmps5
        go_wp2_with fail
        refine (hA.out _).mono ?_
        rintro e w' ⟨rfl, hb⟩
        have HB := hid (below_to HM.out hb)
        clear hb
        go_wp2_with fail
        go_ret
        exact ⟨rfl, HB.out⟩
      · have d3 : decide ((2048 : Int) < (bl : Int)) = true := decide_eq_true (by omega)
        have d4 : decide ((bl : Int) < 16375) = true := decide_eq_true (by omega)
        clear hfar
        go_enter Try.func5, Try.ntmps5
        go_wp2_with fail
        refine (hA.out _).mono ?_
        rintro e w' ⟨rfl, hb⟩
        have HB := hid (below_to HM.out hb)
        clear hb
        go_wp2_with fail
        go_ret
        exact ⟨rfl, HB.out⟩

def mz : Value := .agg #[.int .u8 0, .string ByteArray.empty]

namespace helloReads
open Go.ChangeShapes Go.WideShapes Go.ChangeAt Go.RowKit
open Go.ChangeMaps (open_string shut_string)
theorem own : ownKnob Try.prog.godebug = none := by kernel_rfl
theorem laidOut : laidOutB Try.prog = true := by kernel_rfl
set_option maxRecDepth 100000 in
theorem lifted (os : Os) (started : os.Started) (H : Type) (enc : TypeId × Value → H) :
    ReturnsInHanded {} Try.checked os 5 .any (Rows.helloReadsSpec.pre6 enc Try.prog Try.f5 Rows.helloReadsRow.domain false) (Rows.helloReadsSpec.post enc Try.prog Try.f5 false true false false) := by
  refine returnsInHanded_of_change (C := Try.checked) own started (by kernel_rfl) Try.func5
    (ChangeSpec.witness6 (enc := enc) (C := Try.checked) false ⟨#[], #[.string ByteArray.empty, .slice none 0 0, mz], []⟩ 8 (by kernel_rfl) (by kernel_rfl) (by kernel_rfl) (by kernel_rfl)) ?_
  intro W base args ds gs before hval0 hW hcnd _
  have hval : ∀ (j : Nat) t v, Try.f5.params[j]? = some t → args[j]? = some v → Value.okWide Try.prog W .any base t v := hval0
  have hW' := hW
  obtain ⟨p, q, hA0, hV, rfl, hfz, hnd⟩ := hW
  have hA : DataW.TrodAll enc Try.prog W 0 (fun _ => true) true Try.f5.params.toList args.toList ds p := hA0
  rw [Try.params5] at hA hval
  obtain ⟨v0, vs0, d0, ds0, p0, q0, hargs, rfl, rfl, h0, r0⟩ := trodAll_cons hA
  obtain ⟨v1, vs1, d1, ds1, p1, q1, rfl, rfl, rfl, h1, r1⟩ := trodAll_cons r0
  obtain ⟨v2, vs2, d2, ds2, p2, q2, rfl, rfl, rfl, h2, r2⟩ := trodAll_cons r1
  obtain ⟨rfl, rfl, rfl⟩ := trodAll_nil r2
  obtain rfl : args = #[v0, v1, v2] := by cases args; simp_all
  obtain ⟨rfl, rfl⟩ := trodVars_none hV
  have k0 := h0
  have lt0 : ∀ x ∈ p0, x.block < W.heap.size := by obtain ⟨m, hm⟩ := k0; exact DataW.trod_lt m _ _ _ hm
  obtain ⟨a0, rfl, rfl, rfl, w0⟩ := open_string Try.underlying9 (hval 0 9 v0 rfl rfl) h0
  have k1 := h1
  have lt1 : ∀ x ∈ p1, x.block < W.heap.size := by obtain ⟨m, hm⟩ := k1; exact DataW.trod_lt m _ _ _ hm
  obtain ⟨a1, len1, cap1, rfl⟩ := okWide_slice Try.underlying35 (hval 1 35 v1 rfl rfl)
  obtain ⟨fuel1, hf1⟩ := h1
  have k2 := h2
  have lt2 : ∀ x ∈ p2, x.block < W.heap.size := by obtain ⟨m, hm⟩ := k2; exact DataW.trod_lt m _ _ _ hm
  obtain ⟨a2, rfl, sz2⟩ := okWide_struct Try.underlying33 (hval 2 33 v2 rfl rfl)
  clear hA0 hval0
  obtain ⟨km, b, rfl, hbm⟩ := message_open (sz2.trans (by kernel_rfl)) h2
  obtain ⟨s, es⟩ : ∃ l : List UInt8, a0 = ⟨l.toArray⟩ := ⟨a0.data.toList, by cases a0; simp⟩
  subst es
  refine Calls.mono (R := fun e w' => e = .returned (.bool true) ∧ Below W.heap.size W w') ?_ fun e W' ⟨he, bel⟩ => ?_
  · obtain ⟨hkm, hka⟩ := slice_u16_at (e := 56) Try.underlying35 Try.underlying56 (by kernel_rfl) hf1
    by_cases hfar : 2048 < s.length ∨ 1000 < len1 ∨ (2048 < b.length ∧ b.length < 16375) ∨ 16393 < b.length
    · exact lreads_quiet _ _ s.length b.length _ a1 len1 cap1 W (text_size s) (text_size b) hfar
    · exact lreads_main s b km a1 len1 cap1 W (by omega) (by omega) hka ⟨by omega, by omega⟩
  subst he
  exact ⟨_, rfl, _, _, _, [], _, [], hW', trodAll_mk1 (shut_bool Try.underlying4 _), (trodAll_cons_mk (Below.trod laidOut (by kernel_rfl) (of_decide_eq_true (by kernel_rfl)) k0 bel lt0) (trodAll_cons_mk (Below.trod laidOut (by kernel_rfl) (of_decide_eq_true (by kernel_rfl)) k1 bel lt1) (trodAll_cons_mk (Below.trod laidOut (by kernel_rfl) (of_decide_eq_true (by kernel_rfl)) k2 bel lt2) trodAll_mk0))), rfl, bel.frame _, fun h => by cases h⟩

theorem over : Rows.helloReadsRow.holds Try.pinned (OpenSpec.ofChange Rows.helloReadsSpec) :=
  OpenClaim.holds_of_wide 5 Try.f5 rfl rfl rfl rfl rfl rfl rfl ⟨rfl, rfl, rfl, rfl, rfl⟩ rfl rfl rfl rfl rfl (by kernel_rfl) Try.func5 (by kernel_rfl)
    (of_decide_eq_true (by kernel_rfl)) (by unfold Func.isWrapper; first | (rw [if_pos (by decide +kernel)]; kernel_rfl) | (rw [if_neg (by decide +kernel)]; exact ⟨rfl, rfl⟩))
    (fun os started H enc _ => lifted os started H enc)
end helloReads
/-- The given statement. -/
theorem helloReads_proved : Rows.HelloReadsSaid := helloReads.over
#print axioms helloReads_proved
end Go.Proofs.Ytliblhfabnjpkaa
