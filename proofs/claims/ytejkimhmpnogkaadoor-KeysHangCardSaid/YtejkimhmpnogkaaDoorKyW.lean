/- The key schedule: 32 bytes 0, the first secret, a secret's labels. The key schedule: what is behind a secret, a label by the document, whether texts have 32 bytes. The key schedule: a handshake's secrets. The key schedule: a handshake's secrets by the document. The key schedule: the secrets behind a handshake's. The key schedule: the secrets behind a handshake's, by the document. The key schedule: the text that a proof signs. -/
import Derived.Test.YtejkimhmpnogkaaDoorHkLL
import Derived.Maps.Own
import Derived.Carry
namespace Go.Proofs.YtejkimhmpnogkaaDoor
open Go Go.RowKit

theorem setCell_same {w : World} {b k : Nat} {v : Value} (h : w.cell? ⟨b, k, none⟩ = some v) : w.setCell ⟨b, k, none⟩ v = w := by
  have hb := World.block_lt_of_cell? w _ h
  unfold World.setCell
  have he : ∀ f : Obj → Obj, (∀ c T fz, f (.cells c T fz) = .cells (c.setIfInBounds k v) T fz) → (∀ o, (∀ c T fz, o ≠ .cells c T fz) → f o = o) → w.heap.modify b f = w.heap := by
    intro f h1 h2
    apply Array.ext
    · simp
    · intro i h3 h4
      rw [Array.getElem_modify]
      split
      · rename_i hbi
        subst hbi
        unfold World.cell? at h
        simp only [Array.getElem?_eq_getElem h4] at h
        cases ho : w.heap[b] with
        | cells c T fz =>
          rw [ho] at h
          have hk : c[k]? = some v := by simpa using h
          rw [h1]
          congr 1
          apply Array.ext
          · simp
          · intro j h5 h6
            rw [Array.getElem_setIfInBounds]
            split
            · rename_i hj
              subst hj
              rw [Array.getElem?_eq_getElem h6] at hk
              exact (Option.some.inj hk).symm
            · rfl
        | _ => exact h2 _ (by intros; simp)
      · rfl
  rw [he _ (fun c T fz => rfl) (fun o ho => by cases o <;> first | rfl | exact absurd rfl (ho _ _ _))]

namespace KY
def Z32 : List UInt8 := List.replicate 32 0
def early : List UInt8 := SM.tag Z32 Z32
end KY
def Z : ByteArray := ⟨KY.Z32.toArray⟩
theorem Z_data : Z.data.toList = KY.Z32 := by simp [Z]
theorem Z_size : Z.size = 32 := rfl
def EY : ByteArray := ⟨KY.early.toArray⟩

theorem made32 (W : World) : (Instr.makeSlice 57 (.int .i64 32) (.int .i64 32)).run Tryd.prog W = .ok (.slice (some ⟨W.heap.size, 0, none⟩) 32 32) (W.alloc (.cells (brow (List.replicate 32 0)) 5)) := make_nn 32 (by omega) W
theorem conv32 (W : World) : (convert 57 9 (.slice (some ⟨W.heap.size, 0, none⟩) 32 32)).run Tryd.prog (W.alloc (.cells (brow (List.replicate 32 0)) 5)) = .ok (.string Z) (W.alloc (.cells (brow (List.replicate 32 0)) 5)) := conv_zeros 32 W
theorem noughts_any (W : World) : Calls Tryd.prog 58 #[] W fun e w' => e = .returned (.string Z) ∧ Below W.heap.size W w' := by
  have hm := made32 W
  have hc := conv32 W
  generalize brow (List.replicate 32 0) = R at *
  go_enter Tryd.func58, Tryd.ntmps58
  go_wp2_with fail
  go_ret
  exact ⟨rfl, below_new _⟩
theorem Rnoughts_any (W : World) : Calls Tryd.prog 59 #[] W fun e w' => e = .returned (.string Z) ∧ Below W.heap.size W w' := by
  have hm := made32 W
  have hc := conv32 W
  generalize brow (List.replicate 32 0) = R at *
  go_enter Tryd.func59, Tryd.ntmps59
  go_wp2_with fail
  go_ret
  exact ⟨rfl, below_new _⟩

theorem early_any (W : World) (hT : Tab W) : Calls Tryd.prog 34 #[] W fun e w' => e = .returned (.string EY) ∧ Below W.heap.size W w' := by
  have T0 := hid hT
  clear hT
  go_enter Tryd.func34, Tryd.ntmps34
  go_wp2_with fail
  refine (noughts_any W).mono ?_
  rintro e w1 ⟨rfl, hb1⟩
  have T1 := hid (T0.out.keep hb1)
  have B1 := hid hb1
  clear hb1
  go_wp2_with fail
  refine (noughts_any w1).mono ?_
  rintro e w2 ⟨rfl, hb2⟩
  have T2 := hid (T1.out.keep hb2)
  have B2 := hid (below_to B1.out hb2)
  clear hb2
  have h3 := extract_any Z Z w2 T2.out (by rw [Z_size]; omega) (by rw [Z_size]; omega)
  rw [Z_data] at h3
  have H3 := hid h3
  clear h3
  go_wp2_with fail
  refine H3.out.mono ?_
  rintro e w3 ⟨rfl, hb3⟩
  have B3 := hid (below_to B2.out hb3)
  clear hb3
  go_wp2_with fail
  go_ret
  exact ⟨rfl, B3.out⟩
theorem REarly_any (W : World) : Calls Tryd.prog 35 #[] W fun e w' => e = .returned (.string EY) ∧ Below W.heap.size W w' := by
  go_enter Tryd.func35, Tryd.ntmps35
  go_wp2_with fail
  refine (Rnoughts_any W).mono ?_
  rintro e w1 ⟨rfl, hb1⟩
  have B1 := hid hb1
  clear hb1
  go_wp2_with fail
  refine (Rnoughts_any w1).mono ?_
  rintro e w2 ⟨rfl, hb2⟩
  have B2 := hid (below_to B1.out hb2)
  clear hb2
  have h3 := RTag_any Z Z w2 (by rw [Z_size]; omega) (by rw [Z_size]; omega)
  rw [Z_data] at h3
  have H3 := hid h3
  clear h3
  go_wp2_with fail
  refine H3.out.mono ?_
  rintro e w3 ⟨rfl, hb3⟩
  have B3 := hid (below_to B2.out hb3)
  clear hb3
  go_wp2_with fail
  go_ret
  exact ⟨rfl, B3.out⟩

/-- What a secret's label gives. -/
def lab (secret label ctx : ByteArray) (n : Int) : ByteArray := LS secret.data.toList label.data.toList ctx.data.toList n
theorem LE_fine {label ctx : ByteArray} {n : Int} (h1 : label.size ≤ 249) (h2 : ctx.size ≤ 255) (h3 : 0 ≤ n) (h4 : n ≤ 8160) : LE label.data.toList ctx.data.toList n = 0 := by
  have e1 : label.data.toList.length = label.size := by simp
  have e2 : ctx.data.toList.length = ctx.size := by simp
  unfold LE XE
  rw [if_neg (by rw [e1, e2]; omega), if_neg (by omega)]
theorem lab_size {secret label ctx : ByteArray} {n : Nat} (h1 : label.size ≤ 249) (h2 : ctx.size ≤ 255) (h4 : n ≤ 8160) : (lab secret label ctx (n : Int)).size = n := by
  have e1 : label.data.toList.length = label.size := by simp
  have e2 : ctx.data.toList.length = ctx.size := by simp
  unfold lab LS
  rw [if_neg (by rw [e1, e2]; omega), XS_size _ _ _ h4]

/-- A secret's labels, as a closure has them: the secret lies in block bs, a pointer to the error in block be, the error (none) in block bp. -/
structure Kept3 (w : World) (bs be bp : Nat) (secret : ByteArray) : Prop where
  cs : w.cell? ⟨bs, 0, none⟩ = some (.string secret)
  ce : w.cell? ⟨be, 0, none⟩ = some (.pointer (some ⟨bp, 0, none⟩))
  cp : w.cell? ⟨bp, 0, none⟩ = some (.int .i64 0)
  fp : w.frozen? ⟨bp, 0, none⟩ = false
theorem Kept3.keep {w w' : World} {bs be bp : Nat} {s : ByteArray} (h : Kept3 w bs be bp s) (hb : Below w.heap.size w w') : Kept3 w' bs be bp s :=
  ⟨(hb.cell (World.block_lt_of_cell? w _ h.cs)).trans h.cs, (hb.cell (World.block_lt_of_cell? w _ h.ce)).trans h.ce, (hb.cell (World.block_lt_of_cell? w _ h.cp)).trans h.cp, by
    have h1 := World.block_lt_of_cell? w _ h.cp
    have h2 := hb.block bp h1
    have h3 := h.fp
    unfold World.frozen? at h3 ⊢
    rw [show w'.heap[(⟨bp, 0, none⟩ : Addr).block]? = w.heap[(⟨bp, 0, none⟩ : Addr).block]? from h2]
    exact h3⟩

theorem fn_any (secret label ctx : ByteArray) (n : Int) (bs be bp : Nat) (W : World) (hT : Tab W) (hK : Kept3 W bs be bp secret) (hs : secret.size ≤ 2048) (h1 : label.size ≤ 249) (h2 : ctx.size ≤ 255) (h3 : 0 ≤ n) (h4 : n ≤ 8160) :
    Calls Tryd.prog 72 #[.string label, .string ctx, .int .i64 n, .pointer (some ⟨bs, 0, none⟩), .pointer (some ⟨be, 0, none⟩)] W fun e w' => e = .returned (.string (lab secret label ctx n)) ∧ Below W.heap.size W w' := by
  have hl := label_all secret label ctx n W hT (by omega) (by omega) (by omega)
  rw [LE_fine h1 h2 h3 h4] at hl
  have HL := hid hl
  have K0 := hid hK
  have c0 := hK.cs
  clear hl hK h1 h2 h3 h4 hs hT
  go_enter Tryd.func72, Tryd.ntmps72
  go_wp2_with fail
  refine HL.out.mono ?_
  rintro e w1 ⟨rfl, hb1⟩
  have K1 := K0.out.keep hb1
  have c1 := K1.ce
  have c2 := K1.cp
  have c3 := K1.fp
  have hset := setCell_same K1.cp
  have B1 := hid hb1
  clear hb1 K0 K1 HL c0
  go_wp2_with fail
  go_ret
  exact ⟨rfl, B1.out⟩

end Go.Proofs.YtejkimhmpnogkaaDoor

namespace Go.Proofs.YtejkimhmpnogkaaDoor
open Go Go.RowKit

def ofW (W : World) (s : ByteArray) (p : Option Addr) : World := (W.alloc (.cells #[.string s] 9)).alloc (.cells #[.pointer p] 89)
def ofF (k : Nat) : Value := .func (.func 72) #[] #[.pointer (some ⟨k, 0, none⟩), .pointer (some ⟨k + 1, 0, none⟩)]
theorem labof_any (s : ByteArray) (p : Option Addr) (W : World) : Calls Tryd.prog 56 #[.string s, .pointer p] W fun e w' => e = .returned (ofF W.heap.size) ∧ ofW W s p = w' := by
  have hmf : ∀ (fn : Fn) (first cap : Array Value) (w : World), (Instr.makeFunc fn first cap).run Tryd.prog w = .ok (.func fn first cap) w := fun _ _ _ _ => rfl
  go_enter Tryd.func56, Tryd.ntmps56
  go_wp2_with fail
  go_ret
  exact ⟨rfl, rfl⟩
theorem ofW_below (W : World) (s : ByteArray) (p : Option Addr) : Below W.heap.size W (ofW W s p) := below_to (below_new _) (below_new _)
theorem ofW_kept {W : World} {s : ByteArray} {bp : Nat} (hc : W.cell? ⟨bp, 0, none⟩ = some (.int .i64 0)) (hf : W.frozen? ⟨bp, 0, none⟩ = false) : Kept3 (ofW W s (some ⟨bp, 0, none⟩)) W.heap.size (W.heap.size + 1) bp s := by
  have h1 := World.block_lt_of_cell? W _ hc
  have hb := ofW_below W s (some ⟨bp, 0, none⟩)
  refine ⟨?_, ?_, (hb.cell h1).trans hc, ?_⟩
  · have := (below_new (w := W.alloc (.cells #[.string s] 9)) (.cells #[.pointer (some ⟨bp, 0, none⟩)] 89)).cell (p := ⟨W.heap.size, 0, none⟩) (by simp)
    exact this.trans (cell_at (alloc_at W _) 0)
  · have := cell_at (alloc_at (W.alloc (.cells #[.string s] 9)) (.cells #[.pointer (some ⟨bp, 0, none⟩)] 89)) 0
    rw [show (W.alloc (.cells #[.string s] 9)).heap.size = W.heap.size + 1 by simp] at this
    exact this
  · have h2 := hb.block bp h1
    unfold World.frozen? at hf ⊢
    rw [show (ofW W s (some ⟨bp, 0, none⟩)).heap[(⟨bp, 0, none⟩ : Addr).block]? = W.heap[(⟨bp, 0, none⟩ : Addr).block]? from h2]
    exact hf

def dv : ByteArray := ⟨#[100, 101, 114, 105, 118, 101, 100]⟩
def sume : ByteArray := ⟨(SM.sum []).toArray⟩
theorem sume_size : sume.size = 32 := rfl
/-- What is behind a secret, with what is shared. -/
def beh (s sh : ByteArray) : ByteArray := ⟨(SM.tag (lab s dv sume 32).data.toList sh.data.toList).toArray⟩
theorem beh_def (s sh : ByteArray) : (⟨(SM.tag (lab s dv sume 32).data.toList sh.data.toList).toArray⟩ : ByteArray) = beh s sh := rfl
theorem beh_size (s sh : ByteArray) : (beh s sh).size = 32 := rfl

theorem behind_any (s sh : ByteArray) (bp : Nat) (W : World) (hT : Tab W) (hc : W.cell? ⟨bp, 0, none⟩ = some (.int .i64 0)) (hf : W.frozen? ⟨bp, 0, none⟩ = false) (hs : s.size ≤ 2048) (hs2 : sh.size ≤ 2048) :
    Calls Tryd.prog 55 #[.string s, .string sh, .pointer (some ⟨bp, 0, none⟩)] W fun e w' => e = .returned (.string (beh s sh)) ∧ Below W.heap.size W w' := by
  have K1 := hid (ofW_kept (s := s) hc hf)
  have B1 := hid (ofW_below W s (some ⟨bp, 0, none⟩))
  have T1 := hid (hT.keep B1.out)
  clear hT hc hf
  go_enter Tryd.func55, Tryd.ntmps55
  go_wp2_with fail
  refine (labof_any s (some ⟨bp, 0, none⟩) W).mono ?_
  rintro e w' ⟨rfl, rfl⟩
  obtain ⟨w1, hw1⟩ : ∃ w1, ofW W s (some ⟨bp, 0, none⟩) = w1 := ⟨_, rfl⟩
  rw [hw1] at K1 B1 T1 ⊢
  clear hw1
  go_wp2_with fail
  refine (of_any ⟨#[]⟩ w1 T1.out (by decide)).mono ?_
  rintro e w2 ⟨rfl, hb2⟩
  have T2 := hid (T1.out.keep hb2)
  have K2 := hid (K1.out.keep hb2)
  have B2 := hid (below_to B1.out hb2)
  clear hb2 T1 K1 B1
  have h3 := hid (fn_any s dv sume 32 W.heap.size (W.heap.size + 1) bp w2 T2.out K2.out hs (by decide) (by rw [sume_size]; omega) (by omega) (by omega))
  unfold ofF
  go_wp2_with fail
  refine h3.out.mono ?_
  rintro e w3 ⟨rfl, hb3⟩
  have T3 := hid (T2.out.keep hb3)
  have B3 := hid (below_to B2.out hb3)
  have h4 := hid (extract_any (lab s dv sume 32) sh w3 T3.out (by have := lab_size (secret := s) (label := dv) (ctx := sume) (n := 32) (by decide) (by rw [sume_size]; omega) (by omega); rw [show (32 : Int) = ((32 : Nat) : Int) from rfl, this]; omega) (by omega))
  clear hb3 T2 K2 B2 h3
  go_wp2_with fail
  refine h4.out.mono ?_
  rintro e w4 ⟨rfl, hb4⟩
  have B4 := hid (below_to B3.out hb4)
  clear hb4 B3 h4
  go_wp2_with fail
  go_ret
  exact ⟨rfl, B4.out⟩

theorem Rlabel_any (s label ctx : ByteArray) (W : World) (hs : s.size ≤ 2048) (h1 : label.size ≤ 249) (h2 : ctx.size ≤ 255) :
    Calls Tryd.prog 57 #[.string s, .string label, .string ctx] W fun e w' => e = .returned (.string (lab s label ctx 32)) ∧ Below W.heap.size W w' := by
  have hl := hid (RLabel_all s label ctx 32 W (by omega) (by omega) (by omega))
  go_enter Tryd.func57, Tryd.ntmps57
  go_wp2_with fail
  refine hl.out.mono ?_
  rintro e w1 ⟨rfl, hb1⟩
  go_wp2_with fail
  go_ret
  exact ⟨rfl, hb1⟩

/-- Whether two texts have 32 bytes each. -/
theorem whole_two (s t : ByteArray) (b : Nat) (W : World) (hc : W.cell? ⟨b, 0, none⟩ = some (.string s)) (hd : W.cell? ⟨b, 1, none⟩ = some (.string t)) :
    Calls Tryd.prog 54 #[.slice (some ⟨b, 0, none⟩) 2 2] W fun e w' => e = .returned (.bool (decide (s.size = 32) && decide (t.size = 32))) ∧ W = w' := by
  by_cases h1 : s.size = 32
  · by_cases h2 : t.size = 32
    · have e1 : (((s.size : Nat) : Int) == 32) = true := beq_iff_eq.2 (by omega)
      have e2 : (((t.size : Nat) : Int) == 32) = true := beq_iff_eq.2 (by omega)
      rw [decide_eq_true h1, decide_eq_true h2]
      go_enter Tryd.func54, Tryd.ntmps54
      go_wp2_with fail
      refine wp_loop_rounds 3 ?_
      rw [rounds_succ]; go_wp2_with fail
      rw [rounds_succ]; go_wp2_with fail
      rw [rounds_succ]; go_wp2_with fail
      go_ret
      exact ⟨rfl, rfl⟩
    · have e1 : (((s.size : Nat) : Int) == 32) = true := beq_iff_eq.2 (by omega)
      have e2 : (((t.size : Nat) : Int) == 32) = false := beq_eq_false_iff_ne.2 (by omega)
      rw [decide_eq_true h1, decide_eq_false h2]
      go_enter Tryd.func54, Tryd.ntmps54
      go_wp2_with fail
      refine wp_loop_rounds 3 ?_
      rw [rounds_succ]; go_wp2_with fail
      rw [rounds_succ]; go_wp2_with fail
      go_ret
      exact ⟨rfl, rfl⟩
  · have e1 : (((s.size : Nat) : Int) == 32) = false := beq_eq_false_iff_ne.2 (by omega)
    rw [decide_eq_false h1, Bool.false_and]
    go_enter Tryd.func54, Tryd.ntmps54
    go_wp2_with fail
    refine wp_loop_rounds 3 ?_
    rw [rounds_succ]; go_wp2_with fail
    go_ret
    exact ⟨rfl, rfl⟩

end Go.Proofs.YtejkimhmpnogkaaDoor

namespace Go.Proofs.YtejkimhmpnogkaaDoor
open Go Go.RowKit

/-- A struct of secrets. -/
def sec (a b c d e f g : ByteArray) : Array Value := #[.string a, .string b, .string c, .string d, .string e, .string f, .string g]
structure S7 (w : World) (n : Nat) (a b c d e f g : ByteArray) : Prop where
  get : hget w n = some (.cells (sec a b c d e f g) 47 (0, 0))
section
variable {w w' : World} {n : Nat} {a b c d e f g : ByteArray}
theorem S7.cells (h : S7 w n a b c d e f g) : w.cell? ⟨n, 0, none⟩ = some (.string a) ∧ w.cell? ⟨n, 1, none⟩ = some (.string b) ∧ w.cell? ⟨n, 2, none⟩ = some (.string c) ∧ w.cell? ⟨n, 3, none⟩ = some (.string d) ∧ w.cell? ⟨n, 4, none⟩ = some (.string e) ∧ w.cell? ⟨n, 5, none⟩ = some (.string f) ∧ w.cell? ⟨n, 6, none⟩ = some (.string g) :=
  ⟨cell_at h.get 0, cell_at h.get 1, cell_at h.get 2, cell_at h.get 3, cell_at h.get 4, cell_at h.get 5, cell_at h.get 6⟩
theorem hget_free {T : TypeId} {cs : Array Value} (h : hget w n = some (.cells cs T (0, 0))) (k : Nat) : w.frozen? ⟨n, k, none⟩ = false := by
  unfold World.frozen?
  rw [show w.heap[(⟨n, k, none⟩ : Addr).block]? = _ from h]
  simp
theorem S7.free (h : S7 w n a b c d e f g) : w.frozen? ⟨n, 0, none⟩ = false ∧ w.frozen? ⟨n, 1, none⟩ = false ∧ w.frozen? ⟨n, 2, none⟩ = false ∧ w.frozen? ⟨n, 3, none⟩ = false ∧ w.frozen? ⟨n, 4, none⟩ = false ∧ w.frozen? ⟨n, 5, none⟩ = false ∧ w.frozen? ⟨n, 6, none⟩ = false :=
  ⟨hget_free h.get 0, hget_free h.get 1, hget_free h.get 2, hget_free h.get 3, hget_free h.get 4, hget_free h.get 5, hget_free h.get 6⟩
theorem S7.keep (h : S7 w n a b c d e f g) (hb : Below w.heap.size w w') : S7 w' n a b c d e f g := ⟨(hb.block n (hget_lt h.get)).trans h.get⟩
end
/-- A handshake's secrets, by the document. -/
def HSe (sh hl : ByteArray) : Int := if sh.size = 32 ∧ hl.size = 32 then 0 else 2
def hs0 : ByteArray := ⟨#[]⟩
def tc : ByteArray := ⟨#[99, 32, 104, 115, 32, 116, 114, 97, 102, 102, 105, 99]⟩
def ts : ByteArray := ⟨#[115, 32, 104, 115, 32, 116, 114, 97, 102, 102, 105, 99]⟩
def HSv (sh hl : ByteArray) : Array Value := if sh.size = 32 ∧ hl.size = 32 then sec EY (beh EY sh) hs0 (lab (beh EY sh) tc hl 32) (lab (beh EY sh) ts hl 32) hs0 hs0 else sec hs0 hs0 hs0 hs0 hs0 hs0 hs0

theorem results_cell_cell {P : Program} {fn : Func} {p u : Tmp} {ty tz : TypeId} (h : fn.results = #[.cell p ty, .cell u tz]) (tmps : Array Value) (w : World) (g m : Nat) (t : TypeId) (cs : Array Value) (fr : Nat × Nat) (d : TypeDesc) (v : Value)
    (hp : tmps.getD p undef = .pointer (some ⟨g, 0, none⟩)) (hv : tmps.getD u undef = .pointer (some ⟨m, 0, none⟩)) (hg : w.heap[g]? = some (.cells cs t fr))
    (hu : P.underlying ty = some d) (hd : (match d with | .struct _ | .array _ _ => true | _ => false) = true) (hi : (P.info? ty).map (·.size) = some cs.size)
    (hm : (loadVar tz ⟨m, 0, none⟩).run P w = .ok v w) :
    (results fn tmps).run P w = .ok (.tuple #[.agg cs, v]) w := by
  have hp' : tmps[p]?.getD undef = .pointer (some ⟨g, 0, none⟩) := by simpa using hp
  have hv' : tmps[u]?.getD undef = .pointer (some ⟨m, 0, none⟩) := by simpa using hv
  simp [results, h, hp', hv', asAddr, run_loadVar_row w g t ty cs fr d hg hu hd hi, hm]
theorem load_errno {w : World} {m : Nat} {i : Int} (h : w.cell? ⟨m, 0, none⟩ = some (.int .i64 i)) : (loadVar 33 ⟨m, 0, none⟩).run Tryd.prog w = .ok (.int .i64 i) w := by
  simp [go_sem, h]

set_option maxHeartbeats 1000000 in
theorem handshake_any (sh hl : ByteArray) (W : World) (hT : Tab W) :
    Calls Tryd.prog 32 #[.string sh, .string hl] W fun e w' => e = .returned (.tuple #[.agg (HSv sh hl), .int .i64 (HSe sh hl)]) ∧ Below W.heap.size W w' := by
  unfold HSv HSe
  obtain ⟨w0, hw0⟩ : ∃ w0, ((W.alloc (.cells #[.string ⟨#[]⟩, .string ⟨#[]⟩, .string ⟨#[]⟩, .string ⟨#[]⟩, .string ⟨#[]⟩, .string ⟨#[]⟩, .string ⟨#[]⟩] 47)).alloc (.cells #[.int .i64 0] 33)).alloc (.cells #[.string sh, .string hl] 9) = w0 := ⟨_, rfl⟩
  have g1 : S7 w0 W.heap.size hs0 hs0 hs0 hs0 hs0 hs0 hs0 := ⟨by rw [← hw0]; exact alloc_old (alloc_old (alloc_at W _))⟩
  have g2 : hget w0 (W.heap.size + 1) = some (.cells #[.int .i64 0] 33 (0, 0)) := by rw [← hw0]; exact alloc_old (alloc_at' (by simp) _)
  have g3 : w0.heap[W.heap.size + 1 + 1]? = some (.cells #[.string sh, .string hl] 9 (0, 0)) := by rw [← hw0]; exact alloc_at' (by simp) _
  have B0 : Hid (Below W.heap.size W w0) := by rw [← hw0]; exact below_to (below_to (below_new _) (below_new _)) (below_new _)
  have T0 := hid (hT.keep B0.out)
  have G1 := hid g1
  have G2 := hid g2
  have hwh := whole_two sh hl (W.heap.size + 1 + 1) w0 (cell_at g3 0) (cell_at g3 1)
  obtain ⟨n, hn⟩ : ∃ n, W.heap.size = n := ⟨_, rfl⟩
  rw [hn] at hwh G1 G2
  by_cases hc : sh.size = 32 ∧ hl.size = 32
  · rw [if_pos hc, if_pos hc]
    rw [decide_eq_true hc.1, decide_eq_true hc.2] at hwh
    have HWH := hid hwh
    have hT' := hT
    clear hwh g1 g2 g3 hT
    go_enter Tryd.func32, Tryd.ntmps32
    go_wp2_with fail
    clear hw0
    refine HWH.out.mono ?_
    rintro e w' ⟨rfl, rfl⟩
    go_wp2_with fail
    have HT := hid hT'
    refine (early_any w0 T0.out).mono ?_
    rintro e w1 ⟨rfl, hb1⟩
    have B1 := hid (below_to B0.out hb1)
    have g1 := G1.out.keep hb1
    have g2 := (hb1.block _ (hget_lt G2.out)).trans G2.out
    have hbn : W.heap.size ≤ n := by rw [hn]; omega
    clear hb1 G1 G2 B0 T0 HWH
    obtain ⟨d0, d1, d2, d3, d4, d5, d6⟩ := g1.cells
    obtain ⟨f0, f1, f2, f3, f4, f5, f6⟩ := g1.free
    obtain ⟨w2, hw2⟩ : ∃ w2, w1.setCell ⟨n, 0, none⟩ (.string EY) = w2 := ⟨_, rfl⟩
    have G1 : Hid (S7 w2 n EY hs0 hs0 hs0 hs0 hs0 hs0) := by rw [← hw2]; exact ⟨hget_setCell g1.get 0 _⟩
    have G2 : Hid (hget w2 (n + 1) = some (.cells #[.int .i64 0] 33 (0, 0))) := by rw [← hw2]; exact hget_setCell_ne g2 (show n + 1 ≠ n by omega) _
    obtain ⟨c0, c1, c2, c3, c4, c5, c6⟩ := G1.out.cells
    go_wp2_with fail
    clear c0 c1 c2 c3 c4 c5 c6 f0 f1 f2 f3 f4 f5 f6 d0 d1 d2 d3 d4 d5 d6
    have B2 : Hid (Below W.heap.size W w2) := by rw [← hw2]; exact Below.setCell B1.out hbn _
    clear hw2 g1 g2 B1
    have T2 := hid (HT.out.keep B2.out)
    refine (behind_any EY sh (n + 1) w2 T2.out (cell_at G2.out 0) (hget_free G2.out 0) (by decide) (by omega)).mono ?_
    rintro e w3 ⟨rfl, hb3⟩
    have B3 := hid (below_to B2.out hb3)
    have g1 := G1.out.keep hb3
    have g2 := (hb3.block _ (hget_lt G2.out)).trans G2.out
    clear hb3 G1 G2 B2 T2
    obtain ⟨d0, d1, d2, d3, d4, d5, d6⟩ := g1.cells
    obtain ⟨f0, f1, f2, f3, f4, f5, f6⟩ := g1.free
    obtain ⟨w4, hw4⟩ : ∃ w4, w3.setCell ⟨n, 1, none⟩ (.string (beh EY sh)) = w4 := ⟨_, rfl⟩
    have G1 : Hid (S7 w4 n EY (beh EY sh) hs0 hs0 hs0 hs0 hs0) := by rw [← hw4]; exact ⟨hget_setCell g1.get 1 _⟩
    have G2 : Hid (hget w4 (n + 1) = some (.cells #[.int .i64 0] 33 (0, 0))) := by rw [← hw4]; exact hget_setCell_ne g2 (show n + 1 ≠ n by omega) _
    obtain ⟨c0, c1, c2, c3, c4, c5, c6⟩ := G1.out.cells
    go_wp2_with fail
    clear c0 c1 c2 c3 c4 c5 c6 f0 f1 f2 f3 f4 f5 f6 d0 d1 d2 d3 d4 d5 d6
    have B4 : Hid (Below W.heap.size W w4) := by rw [← hw4]; exact Below.setCell B3.out hbn _
    clear hw4 g1 g2 B3
    have T4 := hid (HT.out.keep B4.out)
    have K5 := hid (ofW_kept (s := beh EY sh) (cell_at G2.out 0) (hget_free G2.out 0))
    refine (labof_any (beh EY sh) (some ⟨n + 1, 0, none⟩) w4).mono ?_
    rintro e w' ⟨rfl, rfl⟩
    have hb5 := ofW_below w4 (beh EY sh) (some ⟨n + 1, 0, none⟩)
    obtain ⟨w5, hw5⟩ : ∃ w5, ofW w4 (beh EY sh) (some ⟨n + 1, 0, none⟩) = w5 := ⟨_, rfl⟩
    rw [hw5] at hb5 K5 ⊢
    clear hw5
    have B5 := hid (below_to B4.out hb5)
    have T5 := hid (HT.out.keep B5.out)
    have g1 := G1.out.keep hb5
    have g2 := (hb5.block _ (hget_lt G2.out)).trans G2.out
    have G1 := hid g1
    have G2 := hid g2
    obtain ⟨k5, hk5⟩ : ∃ k5, w4.heap.size = k5 := ⟨_, rfl⟩
    rw [hk5] at K5 ⊢
    clear hb5 B4 T4 g1 g2 hk5
    unfold ofF
    go_wp2_with fail
    have hb32 := beh_size EY sh
    refine (fn_any (beh EY sh) tc hl 32 k5 (k5 + 1) (n + 1) w5 T5.out K5.out (by omega) (by decide) (by omega) (by omega) (by omega)).mono ?_
    rintro e w6 ⟨rfl, hb6⟩
    have K6 := hid (K5.out.keep hb6)
    have B6 := hid (below_to B5.out hb6)
    have g1 := G1.out.keep hb6
    have g2 := (hb6.block _ (hget_lt G2.out)).trans G2.out
    have T6 := hid (HT.out.keep B6.out)
    clear hb6 G1 G2 B5 T5 K5
    have G1 := hid g1
    have G2 := hid g2
    clear g1 g2
    go_wp2_with fail
    refine (fn_any (beh EY sh) ts hl 32 k5 (k5 + 1) (n + 1) w6 T6.out K6.out (by omega) (by decide) (by omega) (by omega) (by omega)).mono ?_
    rintro e w7 ⟨rfl, hb7⟩
    have B7 := hid (below_to B6.out hb7)
    have g1 := G1.out.keep hb7
    have g2 := (hb7.block _ (hget_lt G2.out)).trans G2.out
    clear hb7 G1 G2 B6 T6 K6
    obtain ⟨A, hA⟩ : ∃ A, lab (beh EY sh) tc hl 32 = A := ⟨_, rfl⟩
    obtain ⟨B, hB⟩ : ∃ B, lab (beh EY sh) ts hl 32 = B := ⟨_, rfl⟩
    rw [hA, hB]
    have HA := hid hA
    have HB := hid hB
    clear hA hB
    obtain ⟨d0, d1, d2, d3, d4, d5, d6⟩ := g1.cells
    obtain ⟨f0, f1, f2, f3, f4, f5, f6⟩ := g1.free
    obtain ⟨w8, hw8⟩ : ∃ w8, (w7.setCell ⟨n, 3, none⟩ (.string A)).setCell ⟨n, 4, none⟩ (.string B) = w8 := ⟨_, rfl⟩
    have G1 : Hid (S7 w8 n EY (beh EY sh) hs0 A B hs0 hs0) := by rw [← hw8]; exact ⟨hget_setCell (hget_setCell g1.get 3 _) 4 _⟩
    have G2 : Hid (hget w8 (n + 1) = some (.cells #[.int .i64 0] 33 (0, 0))) := by rw [← hw8]; exact hget_setCell_ne (hget_setCell_ne g2 (show n + 1 ≠ n by omega) _) (show n + 1 ≠ n by omega) _
    have B8 : Hid (Below W.heap.size W w8) := by rw [← hw8]; exact Below.setCell (Below.setCell B7.out hbn _) hbn _
    clear g1 g2 B7
    go_upto_region 7 with (fail)
    clear hw8 f0 f1 f2 f3 f4 f5 f6 d0 d1 d2 d3 d4 d5 d6
    obtain ⟨c0, c1, c2, c3, c4, c5, c6⟩ := G1.out.cells
    obtain ⟨f0, f1, f2, f3, f4, f5, f6⟩ := G1.out.free
    have k2 : w8.cell? ⟨n + 1, 0, none⟩ = some (.int .i64 0) := cell_at G2.out 0
    have e2 := hget_free G2.out 0
    have s0 := setCell_same c0
    have s1 := setCell_same c1
    have s2 := setCell_same c2
    have s3 := setCell_same c3
    have s4 := setCell_same c4
    have s5 := setCell_same c5
    have s6 := setCell_same c6
    have s7 := setCell_same k2
    go_region_with fail
    all_goals go_wp2_with fail
    all_goals rw [HA.out, HB.out]
    all_goals refine bodyPost_ret (v := .tuple #[.agg (sec EY (beh EY sh) hs0 A B hs0 hs0), .int .i64 0]) (results_cell_cell Tryd.results32 _ _ n (n + 1) 47 _ (0, 0) _ _ (by rfl) (by rfl) (show hget w8.drew n = _ from G1.out.get) Tryd.underlying47 rfl (by kernel_rfl) (load_errno (show w8.cell? _ = _ from k2))) rfl ?_
    all_goals exact ⟨rfl, B8.out.drew⟩
  · rw [if_neg hc, if_neg hc]
    have hd : (decide (sh.size = 32) && decide (hl.size = 32)) = false := by
      rw [Bool.and_eq_false_iff, decide_eq_false_iff_not, decide_eq_false_iff_not]; omega
    rw [hd] at hwh
    have HWH := hid hwh
    clear hwh g1 g2 g3 hT hd
    obtain ⟨c0, c1, c2, c3, c4, c5, c6⟩ := G1.out.cells
    obtain ⟨f0, f1, f2, f3, f4, f5, f6⟩ := G1.out.free
    have k2 := cell_at G2.out 0
    have e2 := hget_free G2.out 0
    have s0 := setCell_same c0
    have s1 := setCell_same c1
    have s2 := setCell_same c2
    have s3 := setCell_same c3
    have s4 := setCell_same c4
    have s5 := setCell_same c5
    have s6 := setCell_same c6
    have h2 : w0.heap.size = w0.heap.size := rfl
    go_enter Tryd.func32, Tryd.ntmps32
    go_wp2_with fail
    clear hw0
    refine HWH.out.mono ?_
    rintro e w' ⟨rfl, rfl⟩
    go_wp2_with fail
    have hg1 : (w0.setCell ⟨n + 1, 0, none⟩ (.int .i64 2)).heap[n]? = _ := hget_setCell_ne G1.out.get (show n ≠ n + 1 by omega) _
    have hg2 : (w0.setCell ⟨n + 1, 0, none⟩ (.int .i64 2)).heap[n + 1]? = _ := hget_setCell G2.out 0 _
    refine bodyPost_ret (v := .tuple #[.agg (sec hs0 hs0 hs0 hs0 hs0 hs0 hs0), .int .i64 2]) (results_cell_cell Tryd.results32 _ _ n (n + 1) 47 _ (0, 0) _ _ (by rfl) (by rfl) hg1 Tryd.underlying47 rfl (by kernel_rfl) (load_errno (cell_at hg2 0))) rfl ?_
    exact ⟨rfl, Below.setCell B0.out (by show W.heap.size ≤ n + 1; rw [hn]; omega) _⟩

end Go.Proofs.YtejkimhmpnogkaaDoor

namespace Go.Proofs.YtejkimhmpnogkaaDoor
open Go Go.RowKit

set_option maxHeartbeats 1000000 in
theorem RHandshake_yes (sh hl : ByteArray) (W : World) (hc : sh.size = 32 ∧ hl.size = 32) :
    Calls Tryd.prog 33 #[.string sh, .string hl] W fun e w' => e = .returned (.tuple #[.agg (HSv sh hl), .int .i64 (HSe sh hl)]) ∧ Below W.heap.size W w' := by
  unfold HSv HSe
  obtain ⟨w0, hw0⟩ : ∃ w0, (W.alloc (.cells #[.string ⟨#[]⟩, .string ⟨#[]⟩, .string ⟨#[]⟩, .string ⟨#[]⟩, .string ⟨#[]⟩, .string ⟨#[]⟩, .string ⟨#[]⟩] 47)) = w0 := ⟨_, rfl⟩
  have g1 : S7 w0 W.heap.size hs0 hs0 hs0 hs0 hs0 hs0 hs0 := ⟨by rw [← hw0]; exact alloc_at W _⟩
  have B0 : Hid (Below W.heap.size W w0) := by rw [← hw0]; exact below_new _
  obtain ⟨n, hn⟩ : ∃ n, W.heap.size = n := ⟨_, rfl⟩
  rw [hn] at g1
  have hbn : W.heap.size ≤ n := by rw [hn]; omega
  rw [if_pos hc, if_pos hc]
  have G0 := hid g1
  clear g1
  go_enter Tryd.func33, Tryd.ntmps33
  have H1 := hid (REarly_any w0)
  go_wp2_with fail
  refine H1.out.mono ?_
  rintro e w1 ⟨rfl, hb1⟩
  have B1 := hid (below_to B0.out hb1)
  have g1 := G0.out.keep hb1
  have G1 := hid g1
  clear hb1 H1 B0 G0 g1
  have H2 := hid (ROf_any ⟨#[]⟩ w1 (by decide))
  go_wp2_with fail
  refine H2.out.mono ?_
  rintro e w2 ⟨rfl, hb2⟩
  have B2 := hid (below_to B1.out hb2)
  have g2 := G1.out.keep hb2
  have G2 := hid g2
  clear hb2 H2 B1 G1 g2
  have H3 := hid (Rlabel_any EY dv sume w2 (by decide) (by decide) (by decide))
  go_wp2_with fail
  refine H3.out.mono ?_
  rintro e w3 ⟨rfl, hb3⟩
  have B3 := hid (below_to B2.out hb3)
  have g3 := G2.out.keep hb3
  have G3 := hid g3
  clear hb3 H3 B2 G2 g3
  have H4 := hid (RTag_any (lab EY dv sume 32) sh w3 (by have := lab_size (secret := EY) (label := dv) (ctx := sume) (n := 32) (by decide) (by rw [sume_size]; omega) (by omega); rw [show (32 : Int) = ((32 : Nat) : Int) from rfl, this]; omega) (by omega))
  go_wp2_with fail
  refine H4.out.mono ?_
  rintro e w4 ⟨rfl, hb4⟩
  have B4 := hid (below_to B3.out hb4)
  have g4 := G3.out.keep hb4
  have G4 := hid g4
  clear hb4 H4 B3 G3 g4
  rw [beh_def]
  obtain ⟨b, hb⟩ : ∃ b, beh EY sh = b := ⟨_, rfl⟩
  have hbs : b.size = 32 := by rw [← hb]; exact beh_size EY sh
  have HB := hid hb
  rw [hb]
  clear hb
  have H5 := hid (REarly_any w4)
  go_wp2_with fail
  refine H5.out.mono ?_
  rintro e w5 ⟨rfl, hb5⟩
  have B5 := hid (below_to B4.out hb5)
  have g5 := G4.out.keep hb5
  have G5 := hid g5
  clear hb5 H5 B4 G4 g5
  have H6 := hid (Rlabel_any b tc hl w5 (by omega) (by decide) (by omega))
  go_wp2_with fail
  refine H6.out.mono ?_
  rintro e w6 ⟨rfl, hb6⟩
  have B6 := hid (below_to B5.out hb6)
  have g6 := G5.out.keep hb6
  have G6 := hid g6
  clear hb6 H6 B5 G5 g6
  have H7 := hid (Rlabel_any b ts hl w6 (by omega) (by decide) (by omega))
  go_wp2_with fail
  refine H7.out.mono ?_
  rintro e w7 ⟨rfl, hb7⟩
  have B7 := hid (below_to B6.out hb7)
  have g7 := G6.out.keep hb7
  have G7 := hid g7
  clear hb7 H7 B6 G6 g7
  obtain ⟨A, hA⟩ : ∃ A, lab b tc hl 32 = A := ⟨_, rfl⟩
  obtain ⟨B, hB⟩ : ∃ B, lab b ts hl 32 = B := ⟨_, rfl⟩
  rw [hA, hB]
  have HA := hid hA
  have HB2 := hid hB
  clear hA hB hw0
  obtain ⟨c0, c1, c2, c3, c4, c5, c6⟩ := G7.out.cells
  obtain ⟨f0, f1, f2, f3, f4, f5, f6⟩ := G7.out.free
  have s2 := setCell_same c2
  have s5 := setCell_same c5
  have s6 := setCell_same c6
  have hg := hget_setCell (hget_setCell (hget_setCell (hget_setCell (hget_setCell (hget_setCell (hget_setCell G7.out.get 0 (.string EY)) 1 (.string b)) 2 (.string hs0)) 3 (.string A)) 4 (.string B)) 5 (.string hs0)) 6 (.string hs0)
  have hbel := Below.setCell (Below.setCell (Below.setCell (Below.setCell (Below.setCell (Below.setCell (Below.setCell B7.out (p := ⟨n, 0, none⟩) hbn (.string EY)) (p := ⟨n, 1, none⟩) hbn (.string b)) (p := ⟨n, 2, none⟩) hbn (.string hs0)) (p := ⟨n, 3, none⟩) hbn (.string A)) (p := ⟨n, 4, none⟩) hbn (.string B)) (p := ⟨n, 5, none⟩) hbn (.string hs0)) (p := ⟨n, 6, none⟩) hbn (.string hs0)
  have HG := hid hg
  have HBE := hid hbel
  clear hg hbel s2 s5 s6
  go_wp2_with fail
  refine bodyPost_ret (v := .tuple #[.agg (sec EY b hs0 A B hs0 hs0), .int .i64 0]) (results_cell_tmp Tryd.results33 _ _ n 47 _ (0, 0) _ _ (by rfl) (by rfl) HG.out Tryd.underlying47 rfl (by kernel_rfl)) rfl ?_
  exact ⟨by rw [HB.out, HA.out, HB2.out], HBE.out⟩

set_option maxHeartbeats 1000000 in
theorem RHandshake_no (sh hl : ByteArray) (W : World) (hc : ¬ (sh.size = 32 ∧ hl.size = 32)) :
    Calls Tryd.prog 33 #[.string sh, .string hl] W fun e w' => e = .returned (.tuple #[.agg (HSv sh hl), .int .i64 (HSe sh hl)]) ∧ Below W.heap.size W w' := by
  unfold HSv HSe
  obtain ⟨w0, hw0⟩ : ∃ w0, (W.alloc (.cells #[.string ⟨#[]⟩, .string ⟨#[]⟩, .string ⟨#[]⟩, .string ⟨#[]⟩, .string ⟨#[]⟩, .string ⟨#[]⟩, .string ⟨#[]⟩] 47)) = w0 := ⟨_, rfl⟩
  have g1 : S7 w0 W.heap.size hs0 hs0 hs0 hs0 hs0 hs0 hs0 := ⟨by rw [← hw0]; exact alloc_at W _⟩
  have B0 : Hid (Below W.heap.size W w0) := by rw [← hw0]; exact below_new _
  obtain ⟨n, hn⟩ : ∃ n, W.heap.size = n := ⟨_, rfl⟩
  rw [hn] at g1
  have hbn : W.heap.size ≤ n := by rw [hn]; omega
  rw [if_neg hc, if_neg hc]
  obtain ⟨c0, c1, c2, c3, c4, c5, c6⟩ := g1.cells
  obtain ⟨f0, f1, f2, f3, f4, f5, f6⟩ := g1.free
  have s0 : w0.setCell ⟨n, 0, none⟩ (.string ⟨#[]⟩) = w0 := setCell_same c0
  have s1 : w0.setCell ⟨n, 1, none⟩ (.string ⟨#[]⟩) = w0 := setCell_same c1
  have s2 : w0.setCell ⟨n, 2, none⟩ (.string ⟨#[]⟩) = w0 := setCell_same c2
  have s3 : w0.setCell ⟨n, 3, none⟩ (.string ⟨#[]⟩) = w0 := setCell_same c3
  have s4 : w0.setCell ⟨n, 4, none⟩ (.string ⟨#[]⟩) = w0 := setCell_same c4
  have s5 : w0.setCell ⟨n, 5, none⟩ (.string ⟨#[]⟩) = w0 := setCell_same c5
  have s6 : w0.setCell ⟨n, 6, none⟩ (.string ⟨#[]⟩) = w0 := setCell_same c6
  have hg : w0.heap[n]? = _ := g1.get
  by_cases h1 : sh.size = 32
  · have e1 : (((sh.size : Nat) : Int) == 32) = true := beq_iff_eq.2 (by omega)
    have e2 : (((hl.size : Nat) : Int) == 32) = false := beq_eq_false_iff_ne.2 (by omega)
    go_enter Tryd.func33, Tryd.ntmps33
    go_wp2_with fail
    refine bodyPost_ret (v := .tuple #[.agg (sec hs0 hs0 hs0 hs0 hs0 hs0 hs0), .int .i64 2]) (results_cell_tmp Tryd.results33 _ _ n 47 _ (0, 0) _ _ (by rfl) (by rfl) hg Tryd.underlying47 rfl (by kernel_rfl)) rfl ?_
    exact ⟨rfl, B0.out⟩
  · have e1 : (((sh.size : Nat) : Int) == 32) = false := beq_eq_false_iff_ne.2 (by omega)
    go_enter Tryd.func33, Tryd.ntmps33
    go_wp2_with fail
    refine bodyPost_ret (v := .tuple #[.agg (sec hs0 hs0 hs0 hs0 hs0 hs0 hs0), .int .i64 2]) (results_cell_tmp Tryd.results33 _ _ n 47 _ (0, 0) _ _ (by rfl) (by rfl) hg Tryd.underlying47 rfl (by kernel_rfl)) rfl ?_
    exact ⟨rfl, B0.out⟩

theorem RHandshake_any (sh hl : ByteArray) (W : World) :
    Calls Tryd.prog 33 #[.string sh, .string hl] W fun e w' => e = .returned (.tuple #[.agg (HSv sh hl), .int .i64 (HSe sh hl)]) ∧ Below W.heap.size W w' := by
  by_cases hc : sh.size = 32 ∧ hl.size = 32
  · exact RHandshake_yes sh hl W hc
  · exact RHandshake_no sh hl W hc

end Go.Proofs.YtejkimhmpnogkaaDoor

namespace Go.Proofs.YtejkimhmpnogkaaDoor
open Go Go.RowKit

def ta : ByteArray := ⟨#[99, 32, 97, 112, 32, 116, 114, 97, 102, 102, 105, 99]⟩
def tb : ByteArray := ⟨#[115, 32, 97, 112, 32, 116, 114, 97, 102, 102, 105, 99]⟩
/-- What comes behind the secrets, by the document. -/
def MSe (b fin : ByteArray) : Int := if b.size = 32 ∧ fin.size = 32 then 0 else 2
def MSv (a b d e fin : ByteArray) : Array Value := if b.size = 32 ∧ fin.size = 32 then sec a b (beh b Z) d e (lab (beh b Z) ta fin 32) (lab (beh b Z) tb fin 32) else sec hs0 hs0 hs0 hs0 hs0 hs0 hs0

set_option maxHeartbeats 1000000 in
theorem master_no (a b c d e f g fin : ByteArray) (W : World) (hc : ¬ (b.size = 32 ∧ fin.size = 32)) :
    Calls Tryd.prog 36 #[.agg (sec a b c d e f g), .string fin] W fun e' w' => e' = .returned (.tuple #[.agg (MSv a b d e fin), .int .i64 (MSe b fin)]) ∧ Below W.heap.size W w' := by
  unfold MSv MSe
  obtain ⟨w0, hw0⟩ : ∃ w0, (((W.alloc (.cells (sec a b c d e f g) 47)).alloc (.cells (sec ⟨#[]⟩ ⟨#[]⟩ ⟨#[]⟩ ⟨#[]⟩ ⟨#[]⟩ ⟨#[]⟩ ⟨#[]⟩) 47)).alloc (.cells #[.int .i64 0] 33)).alloc (.cells #[.string b, .string fin] 9) = w0 := ⟨_, rfl⟩
  have g1 : S7 w0 W.heap.size a b c d e f g := ⟨by rw [← hw0]; exact alloc_old (alloc_old (alloc_old (alloc_at W _)))⟩
  have g2 : S7 w0 (W.heap.size + 1) ⟨#[]⟩ ⟨#[]⟩ ⟨#[]⟩ ⟨#[]⟩ ⟨#[]⟩ ⟨#[]⟩ ⟨#[]⟩ := ⟨by rw [← hw0]; exact alloc_old (alloc_old (alloc_at' (by simp) _))⟩
  have g3 : hget w0 (W.heap.size + 1 + 1) = some (.cells #[.int .i64 0] 33 (0, 0)) := by rw [← hw0]; exact alloc_old (alloc_at' (by simp) _)
  have g4 : w0.heap[W.heap.size + 1 + 1 + 1]? = some (.cells #[.string b, .string fin] 9 (0, 0)) := by rw [← hw0]; exact alloc_at' (by simp) _
  have B0 : Hid (Below W.heap.size W w0) := by rw [← hw0]; exact below_to (below_to (below_to (below_new _) (below_new _)) (below_new _)) (below_new _)
  have hwh := whole_two b fin (W.heap.size + 1 + 1 + 1) w0 (cell_at g4 0) (cell_at g4 1)
  obtain ⟨n, hn⟩ : ∃ n, W.heap.size = n := ⟨_, rfl⟩
  rw [hn] at g1 g2 g3 hwh
  have hbn : W.heap.size ≤ n := by rw [hn]; omega
  rw [if_neg hc, if_neg hc]
  have hd : (decide (b.size = 32) && decide (fin.size = 32)) = false := by
    rw [Bool.and_eq_false_iff, decide_eq_false_iff_not, decide_eq_false_iff_not]; omega
  rw [hd] at hwh
  have HWH := hid hwh
  have G2 := hid g2
  have G3 := hid g3
  clear hwh g1 g3 g4 hd
  obtain ⟨c0, c1, c2, c3, c4, c5, c6⟩ := g2.cells
  obtain ⟨f0, f1, f2, f3, f4, f5, f6⟩ := g2.free
  have k2 : w0.cell? ⟨n + 1 + 1, 0, none⟩ = some (.int .i64 0) := cell_at G3.out 0
  have e2 := hget_free G3.out 0
  have s0 : w0.setCell ⟨n + 1, 0, none⟩ (.string ⟨#[]⟩) = w0 := setCell_same c0
  have s1 : w0.setCell ⟨n + 1, 1, none⟩ (.string ⟨#[]⟩) = w0 := setCell_same c1
  have s2 : w0.setCell ⟨n + 1, 2, none⟩ (.string ⟨#[]⟩) = w0 := setCell_same c2
  have s3 : w0.setCell ⟨n + 1, 3, none⟩ (.string ⟨#[]⟩) = w0 := setCell_same c3
  have s4 : w0.setCell ⟨n + 1, 4, none⟩ (.string ⟨#[]⟩) = w0 := setCell_same c4
  have s5 : w0.setCell ⟨n + 1, 5, none⟩ (.string ⟨#[]⟩) = w0 := setCell_same c5
  have s6 : w0.setCell ⟨n + 1, 6, none⟩ (.string ⟨#[]⟩) = w0 := setCell_same c6
  clear g2
  unfold sec at hw0 ⊢
  go_enter Tryd.func36, Tryd.ntmps36
  go_wp2_with fail
  refine HWH.out.mono ?_
  rintro e w' ⟨rfl, rfl⟩
  go_wp2_with fail
  have hg1 : (w0.setCell ⟨n + 1 + 1, 0, none⟩ (.int .i64 2)).heap[n + 1]? = _ := hget_setCell_ne G2.out.get (show n + 1 ≠ n + 1 + 1 by omega) _
  have hg2 : (w0.setCell ⟨n + 1 + 1, 0, none⟩ (.int .i64 2)).heap[n + 1 + 1]? = _ := hget_setCell G3.out 0 _
  refine bodyPost_ret (v := .tuple #[.agg (sec hs0 hs0 hs0 hs0 hs0 hs0 hs0), .int .i64 2]) (results_cell_cell Tryd.results36 _ _ (n + 1) (n + 1 + 1) 47 _ (0, 0) _ _ (by rfl) (by rfl) hg1 Tryd.underlying47 rfl (by kernel_rfl) (load_errno (cell_at hg2 0))) rfl ?_
  exact ⟨rfl, Below.setCell B0.out (by show W.heap.size ≤ n + 1 + 1; rw [hn]; omega) _⟩

set_option maxHeartbeats 1000000 in
theorem master_yes (a b c d e' f g fin : ByteArray) (W : World) (hT : Tab W) (hc : b.size = 32 ∧ fin.size = 32) :
    Calls Tryd.prog 36 #[.agg (sec a b c d e' f g), .string fin] W fun er w' => er = .returned (.tuple #[.agg (MSv a b d e' fin), .int .i64 (MSe b fin)]) ∧ Below W.heap.size W w' := by
  unfold MSv MSe
  obtain ⟨w0, hw0⟩ : ∃ w0, (((W.alloc (.cells (sec a b c d e' f g) 47)).alloc (.cells (sec ⟨#[]⟩ ⟨#[]⟩ ⟨#[]⟩ ⟨#[]⟩ ⟨#[]⟩ ⟨#[]⟩ ⟨#[]⟩) 47)).alloc (.cells #[.int .i64 0] 33)).alloc (.cells #[.string b, .string fin] 9) = w0 := ⟨_, rfl⟩
  have g1 : S7 w0 W.heap.size a b c d e' f g := ⟨by rw [← hw0]; exact alloc_old (alloc_old (alloc_old (alloc_at W _)))⟩
  have g2 : S7 w0 (W.heap.size + 1) ⟨#[]⟩ ⟨#[]⟩ ⟨#[]⟩ ⟨#[]⟩ ⟨#[]⟩ ⟨#[]⟩ ⟨#[]⟩ := ⟨by rw [← hw0]; exact alloc_old (alloc_old (alloc_at' (by simp) _))⟩
  have g3 : hget w0 (W.heap.size + 1 + 1) = some (.cells #[.int .i64 0] 33 (0, 0)) := by rw [← hw0]; exact alloc_old (alloc_at' (by simp) _)
  have g4 : w0.heap[W.heap.size + 1 + 1 + 1]? = some (.cells #[.string b, .string fin] 9 (0, 0)) := by rw [← hw0]; exact alloc_at' (by simp) _
  have B0 : Hid (Below W.heap.size W w0) := by rw [← hw0]; exact below_to (below_to (below_to (below_new _) (below_new _)) (below_new _)) (below_new _)
  have hwh := whole_two b fin (W.heap.size + 1 + 1 + 1) w0 (cell_at g4 0) (cell_at g4 1)
  obtain ⟨n, hn⟩ : ∃ n, W.heap.size = n := ⟨_, rfl⟩
  rw [hn] at g1 g2 g3 hwh
  have hbn : W.heap.size ≤ n := by rw [hn]; omega
  rw [if_pos hc, if_pos hc]
  rw [decide_eq_true hc.1, decide_eq_true hc.2] at hwh
  have HT := hid hT
  have T0 := hid (hT.keep B0.out)
  have HWH := hid hwh
  have G1 := hid g1
  have G2 := hid g2
  have G3 := hid g3
  have c1 := g1.cells.2.1
  have lc1 := later_cell c1
  have hbh : ∀ x : Later w0, Calls Tryd.prog 55 #[.string b, .string Z, .pointer (some ⟨n + 1 + 1, 0, none⟩)] x.w' fun e w' => e = .returned (.string (beh b Z)) ∧ Below x.w'.heap.size x.w' w' := fun x =>
    behind_any b Z (n + 1 + 1) x.w' (T0.out.keep x.h) (later_cell (cell_at g3 0) x) (hget_free (later_block g3 x) 0) (by omega) (by rw [Z_size]; omega)
  have HBH := hid hbh
  have c1' : (((W.alloc (.cells (sec a b c d e' f g) 47)).alloc (.cells (sec ⟨#[]⟩ ⟨#[]⟩ ⟨#[]⟩ ⟨#[]⟩ ⟨#[]⟩ ⟨#[]⟩ ⟨#[]⟩) 47)).alloc (.cells #[.int .i64 0] 33)).cell? ⟨n, 1, none⟩ = some (.string b) := by
    rw [← hn]; exact cell_at (alloc_old (alloc_old (alloc_at W _))) 1
  clear hwh g1 g2 g3 g4 hbh
  unfold sec at hw0 c1' ⊢
  go_enter Tryd.func36, Tryd.ntmps36
  go_wp2_with fail
  refine HWH.out.mono ?_
  rintro e w' ⟨rfl, rfl⟩
  clear hw0 c1' HWH
  go_wp2_with fail
  refine wp_region_later_tail 5 (by kernel_rfl) (by kernel_rfl) ?_
  simp only [List.take_succ_cons, List.take_zero, List.drop_succ_cons, List.drop_zero]
  repeat ((go_big_quiet_step ((first | (go_at_call 58; exact calls_later (noughts_any _)) | (go_at_call 55; with_reducible exact calls_later (HBH.out _))))))
  refine wpQuiet_nil ?_
  intro wL hwL
  obtain ⟨⟨w8, hL⟩, e8⟩ := hwL
  change wL = w8 at e8
  subst e8
  have BL := hid (below_to B0.out hL)
  have g1 := G1.out.keep hL
  have g2 := G2.out.keep hL
  have g3 : hget wL (n + 1 + 1) = some (.cells #[.int .i64 0] 33 (0, 0)) := (hL.block _ (hget_lt G3.out)).trans G3.out
  have hbs := beh_size b Z
  obtain ⟨x, hx⟩ : ∃ x, beh b Z = x := ⟨_, rfl⟩
  rw [hx] at hbs ⊢
  have HX := hid hx
  clear hL G1 G2 G3 B0 T0 HBH lc1 c1 hx
  obtain ⟨d0, d1, d2, d3, d4, d5, d6⟩ := g1.cells
  obtain ⟨f0, f1, f2, f3, f4, f5, f6⟩ := g1.free
  obtain ⟨w2, hw2⟩ : ∃ w2, wL.setCell ⟨n, 2, none⟩ (.string x) = w2 := ⟨_, rfl⟩
  have G1 : Hid (S7 w2 n a b x d e' f g) := by rw [← hw2]; exact ⟨hget_setCell g1.get 2 _⟩
  have G2 : Hid (S7 w2 (n + 1) ⟨#[]⟩ ⟨#[]⟩ ⟨#[]⟩ ⟨#[]⟩ ⟨#[]⟩ ⟨#[]⟩ ⟨#[]⟩) := by rw [← hw2]; exact ⟨hget_setCell_ne g2.get (show n + 1 ≠ n by omega) _⟩
  have G3 : Hid (hget w2 (n + 1 + 1) = some (.cells #[.int .i64 0] 33 (0, 0))) := by rw [← hw2]; exact hget_setCell_ne g3 (show n + 1 + 1 ≠ n by omega) _
  have B2 : Hid (Below W.heap.size W w2) := by rw [← hw2]; exact Below.setCell BL.out hbn _
  have T2 := hid (HT.out.keep B2.out)
  have c2 := G1.out.cells.2.2.1
  clear g1 g2 g3 BL
  go_wp2_with fail
  clear hw2 d0 d1 d2 d3 d4 d5 d6 f0 f1 f2 f3 f4 f5 f6 c2
  have K5 := hid (ofW_kept (s := x) (cell_at G3.out 0) (hget_free G3.out 0))
  refine (labof_any x (some ⟨n + 1 + 1, 0, none⟩) w2).mono ?_
  rintro e w' ⟨rfl, rfl⟩
  have hb5 := ofW_below w2 x (some ⟨n + 1 + 1, 0, none⟩)
  obtain ⟨w5, hw5⟩ : ∃ w5, ofW w2 x (some ⟨n + 1 + 1, 0, none⟩) = w5 := ⟨_, rfl⟩
  rw [hw5] at hb5 K5 ⊢
  clear hw5
  have B5 := hid (below_to B2.out hb5)
  have T5 := hid (HT.out.keep B5.out)
  have g1 := G1.out.keep hb5
  have g2 := G2.out.keep hb5
  have g3 : hget w5 (n + 1 + 1) = some (.cells #[.int .i64 0] 33 (0, 0)) := (hb5.block _ (hget_lt G3.out)).trans G3.out
  clear G1 G2 G3
  have G1 := hid g1
  have G2 := hid g2
  have G3 := hid g3
  obtain ⟨k5, hk5⟩ : ∃ k5, w2.heap.size = k5 := ⟨_, rfl⟩
  rw [hk5] at K5 ⊢
  clear hb5 B2 T2 g1 g2 g3 hk5
  unfold ofF
  go_wp2_with fail
  refine (fn_any x ta fin 32 k5 (k5 + 1) (n + 1 + 1) w5 T5.out K5.out (by omega) (by decide) (by omega) (by omega) (by omega)).mono ?_
  rintro e w6 ⟨rfl, hb6⟩
  have K6 := hid (K5.out.keep hb6)
  have B6 := hid (below_to B5.out hb6)
  have g1 := G1.out.keep hb6
  have g2 := G2.out.keep hb6
  have g3 : hget w6 (n + 1 + 1) = some (.cells #[.int .i64 0] 33 (0, 0)) := (hb6.block _ (hget_lt G3.out)).trans G3.out
  have T6 := hid (HT.out.keep B6.out)
  clear hb6 G1 G2 G3 B5 T5 K5
  have G1 := hid g1
  have G2 := hid g2
  have G3 := hid g3
  clear g1 g2 g3
  go_wp2_with fail
  refine (fn_any x tb fin 32 k5 (k5 + 1) (n + 1 + 1) w6 T6.out K6.out (by omega) (by decide) (by omega) (by omega) (by omega)).mono ?_
  rintro e w7 ⟨rfl, hb7⟩
  have B7 := hid (below_to B6.out hb7)
  have g1 := G1.out.keep hb7
  have g2 := G2.out.keep hb7
  have g3 : hget w7 (n + 1 + 1) = some (.cells #[.int .i64 0] 33 (0, 0)) := (hb7.block _ (hget_lt G3.out)).trans G3.out
  clear hb7 G1 G2 G3 B6 T6 K6
  obtain ⟨A, hA⟩ : ∃ A, lab x ta fin 32 = A := ⟨_, rfl⟩
  obtain ⟨B, hB⟩ : ∃ B, lab x tb fin 32 = B := ⟨_, rfl⟩
  rw [hA, hB]
  have HA := hid hA
  have HB := hid hB
  clear hA hB
  obtain ⟨d0, d1, d2, d3, d4, d5, d6⟩ := g1.cells
  obtain ⟨f0, f1, f2, f3, f4, f5, f6⟩ := g1.free
  obtain ⟨w8, hw8⟩ : ∃ w8, (w7.setCell ⟨n, 5, none⟩ (.string A)).setCell ⟨n, 6, none⟩ (.string B) = w8 := ⟨_, rfl⟩
  have G1 : Hid (S7 w8 n a b x d e' A B) := by rw [← hw8]; exact ⟨hget_setCell (hget_setCell g1.get 5 _) 6 _⟩
  have G2 : Hid (S7 w8 (n + 1) ⟨#[]⟩ ⟨#[]⟩ ⟨#[]⟩ ⟨#[]⟩ ⟨#[]⟩ ⟨#[]⟩ ⟨#[]⟩) := by rw [← hw8]; exact ⟨hget_setCell_ne (hget_setCell_ne g2.get (show n + 1 ≠ n by omega) _) (show n + 1 ≠ n by omega) _⟩
  have G3 : Hid (hget w8 (n + 1 + 1) = some (.cells #[.int .i64 0] 33 (0, 0))) := by rw [← hw8]; exact hget_setCell_ne (hget_setCell_ne g3 (show n + 1 + 1 ≠ n by omega) _) (show n + 1 + 1 ≠ n by omega) _
  have B8 : Hid (Below W.heap.size W w8) := by rw [← hw8]; exact Below.setCell (Below.setCell B7.out hbn _) hbn _
  clear g1 g2 g3 B7
  go_upto_region 6 with (fail)
  clear hw8 f0 f1 f2 f3 f4 f5 f6 d0 d1 d2 d3 d4 d5 d6
  obtain ⟨c0, c1, c2, c3, c4, c5, c6⟩ := G1.out.cells
  obtain ⟨d0, d1, d2, d3, d4, d5, d6⟩ := G2.out.cells
  obtain ⟨f0, f1, f2, f3, f4, f5, f6⟩ := G2.out.free
  have k2 : w8.cell? ⟨n + 1 + 1, 0, none⟩ = some (.int .i64 0) := cell_at G3.out 0
  have e2 := hget_free G3.out 0
  have s8 := setCell_same k2
  obtain ⟨w9, hw9⟩ : ∃ w9, ((((((w8.setCell ⟨n + 1, 0, none⟩ (.string a)).setCell ⟨n + 1, 1, none⟩ (.string b)).setCell ⟨n + 1, 2, none⟩ (.string x)).setCell ⟨n + 1, 3, none⟩ (.string d)).setCell ⟨n + 1, 4, none⟩ (.string e')).setCell ⟨n + 1, 5, none⟩ (.string A)).setCell ⟨n + 1, 6, none⟩ (.string B) = w9 := ⟨_, rfl⟩
  have H1 : Hid (S7 w9 (n + 1) a b x d e' A B) := by rw [← hw9]; exact ⟨hget_setCell (hget_setCell (hget_setCell (hget_setCell (hget_setCell (hget_setCell (hget_setCell G2.out.get 0 _) 1 _) 2 _) 3 _) 4 _) 5 _) 6 _⟩
  have H3 : Hid (hget w9 (n + 1 + 1) = some (.cells #[.int .i64 0] 33 (0, 0))) := by
    rw [← hw9]
    have hne : n + 1 + 1 ≠ n + 1 := by omega
    exact hget_setCell_ne (hget_setCell_ne (hget_setCell_ne (hget_setCell_ne (hget_setCell_ne (hget_setCell_ne (hget_setCell_ne G3.out hne _) hne _) hne _) hne _) hne _) hne _) hne _
  have B9 : Hid (Below W.heap.size W w9) := by
    rw [← hw9]
    have hbn1 : W.heap.size ≤ n + 1 := by omega
    exact Below.setCell (Below.setCell (Below.setCell (Below.setCell (Below.setCell (Below.setCell (Below.setCell B8.out hbn1 _) hbn1 _) hbn1 _) hbn1 _) hbn1 _) hbn1 _) hbn1 _
  have k3 : w9.cell? ⟨n + 1 + 1, 0, none⟩ = some (.int .i64 0) := cell_at H3.out 0
  have e3 := hget_free H3.out 0
  have s9 := setCell_same k3
  go_region_with fail
  all_goals go_wp2_with fail
  all_goals rw [HX.out, HA.out, HB.out]
  all_goals refine bodyPost_ret (v := .tuple #[.agg (sec a b x d e' A B), .int .i64 0]) (results_cell_cell Tryd.results36 _ _ (n + 1) (n + 1 + 1) 47 _ (0, 0) _ _ (by rfl) (by rfl) (show hget w9.drew (n + 1) = _ from H1.out.get) Tryd.underlying47 rfl (by kernel_rfl) (load_errno (show w9.cell? _ = _ from k3))) rfl ?_
  all_goals exact ⟨rfl, B9.out.drew⟩

end Go.Proofs.YtejkimhmpnogkaaDoor

namespace Go.Proofs.YtejkimhmpnogkaaDoor
open Go Go.RowKit

set_option maxHeartbeats 1000000 in
theorem Rmaster_no (a b c d e' f g fin : ByteArray) (W : World) (hc : ¬ (b.size = 32 ∧ fin.size = 32)) :
    Calls Tryd.prog 37 #[.agg (sec a b c d e' f g), .string fin] W fun er w' => er = .returned (.tuple #[.agg (MSv a b d e' fin), .int .i64 (MSe b fin)]) ∧ Below W.heap.size W w' := by
  unfold MSv MSe
  obtain ⟨w0, hw0⟩ : ∃ w0, (W.alloc (.cells (sec a b c d e' f g) 47)).alloc (.cells (sec ⟨#[]⟩ ⟨#[]⟩ ⟨#[]⟩ ⟨#[]⟩ ⟨#[]⟩ ⟨#[]⟩ ⟨#[]⟩) 47) = w0 := ⟨_, rfl⟩
  have g1 : S7 w0 W.heap.size a b c d e' f g := ⟨by rw [← hw0]; exact alloc_old (alloc_at W _)⟩
  have g2 : S7 w0 (W.heap.size + 1) ⟨#[]⟩ ⟨#[]⟩ ⟨#[]⟩ ⟨#[]⟩ ⟨#[]⟩ ⟨#[]⟩ ⟨#[]⟩ := ⟨by rw [← hw0]; exact alloc_at' (by simp) _⟩
  have B0 : Hid (Below W.heap.size W w0) := by rw [← hw0]; exact below_to (below_new _) (below_new _)
  obtain ⟨n, hn⟩ : ∃ n, W.heap.size = n := ⟨_, rfl⟩
  rw [hn] at g1 g2
  have hbn : W.heap.size ≤ n := by rw [hn]; omega
  rw [if_neg hc, if_neg hc]
  have x1 := g1.cells.2.1
  have G2 := hid g2
  clear g1
  obtain ⟨c0, c1, c2, c3, c4, c5, c6⟩ := g2.cells
  obtain ⟨f0, f1, f2, f3, f4, f5, f6⟩ := g2.free
  have s0 : w0.setCell ⟨n + 1, 0, none⟩ (.string ⟨#[]⟩) = w0 := setCell_same c0
  have s1 : w0.setCell ⟨n + 1, 1, none⟩ (.string ⟨#[]⟩) = w0 := setCell_same c1
  have s2 : w0.setCell ⟨n + 1, 2, none⟩ (.string ⟨#[]⟩) = w0 := setCell_same c2
  have s3 : w0.setCell ⟨n + 1, 3, none⟩ (.string ⟨#[]⟩) = w0 := setCell_same c3
  have s4 : w0.setCell ⟨n + 1, 4, none⟩ (.string ⟨#[]⟩) = w0 := setCell_same c4
  have s5 : w0.setCell ⟨n + 1, 5, none⟩ (.string ⟨#[]⟩) = w0 := setCell_same c5
  have s6 : w0.setCell ⟨n + 1, 6, none⟩ (.string ⟨#[]⟩) = w0 := setCell_same c6
  clear g2
  unfold sec at hw0 ⊢
  by_cases h1 : b.size = 32
  · have e1 : (((b.size : Nat) : Int) == 32) = true := beq_iff_eq.2 (by omega)
    have e2 : (((fin.size : Nat) : Int) == 32) = false := beq_eq_false_iff_ne.2 (by omega)
    go_enter Tryd.func37, Tryd.ntmps37
    go_wp2_with fail
    refine bodyPost_ret (v := .tuple #[.agg (sec hs0 hs0 hs0 hs0 hs0 hs0 hs0), .int .i64 2]) (results_cell_tmp Tryd.results37 _ _ (n + 1) 47 _ (0, 0) _ _ (by rfl) (by rfl) G2.out.get Tryd.underlying47 rfl (by kernel_rfl)) rfl ?_
    exact ⟨rfl, B0.out⟩
  · have e1 : (((b.size : Nat) : Int) == 32) = false := beq_eq_false_iff_ne.2 (by omega)
    go_enter Tryd.func37, Tryd.ntmps37
    go_wp2_with fail
    refine bodyPost_ret (v := .tuple #[.agg (sec hs0 hs0 hs0 hs0 hs0 hs0 hs0), .int .i64 2]) (results_cell_tmp Tryd.results37 _ _ (n + 1) 47 _ (0, 0) _ _ (by rfl) (by rfl) G2.out.get Tryd.underlying47 rfl (by kernel_rfl)) rfl ?_
    exact ⟨rfl, B0.out⟩

set_option maxHeartbeats 1000000 in
theorem Rmaster_yes (a b c d e' f g fin : ByteArray) (W : World) (hc : b.size = 32 ∧ fin.size = 32) :
    Calls Tryd.prog 37 #[.agg (sec a b c d e' f g), .string fin] W fun er w' => er = .returned (.tuple #[.agg (MSv a b d e' fin), .int .i64 (MSe b fin)]) ∧ Below W.heap.size W w' := by
  unfold MSv MSe
  obtain ⟨w0, hw0⟩ : ∃ w0, (W.alloc (.cells (sec a b c d e' f g) 47)).alloc (.cells (sec ⟨#[]⟩ ⟨#[]⟩ ⟨#[]⟩ ⟨#[]⟩ ⟨#[]⟩ ⟨#[]⟩ ⟨#[]⟩) 47) = w0 := ⟨_, rfl⟩
  have g1 : S7 w0 W.heap.size a b c d e' f g := ⟨by rw [← hw0]; exact alloc_old (alloc_at W _)⟩
  have g2 : S7 w0 (W.heap.size + 1) ⟨#[]⟩ ⟨#[]⟩ ⟨#[]⟩ ⟨#[]⟩ ⟨#[]⟩ ⟨#[]⟩ ⟨#[]⟩ := ⟨by rw [← hw0]; exact alloc_at' (by simp) _⟩
  have B0 : Hid (Below W.heap.size W w0) := by rw [← hw0]; exact below_to (below_new _) (below_new _)
  obtain ⟨n, hn⟩ : ∃ n, W.heap.size = n := ⟨_, rfl⟩
  rw [hn] at g1 g2
  have hbn : W.heap.size ≤ n := by rw [hn]; omega
  rw [if_pos hc, if_pos hc]
  have G1 := hid g1
  have G2 := hid g2
  have c1 := g1.cells.2.1
  have lc1 := later_cell c1
  have hdz := lab_size (secret := b) (label := dv) (ctx := sume) (n := 32) (by decide) (by rw [sume_size]; omega) (by omega)
  rw [show ((32 : Nat) : Int) = (32 : Int) from rfl] at hdz
  have hof := fun w => ROf_any ⟨#[]⟩ w (by decide)
  have hlb := fun w => Rlabel_any b dv sume w (by omega) (by decide) (by decide)
  have htg := fun w => RTag_any (lab b dv sume 32) Z w (by omega) (by rw [Z_size]; omega)
  have HOF := hid hof
  have HLB := hid hlb
  have HTG := hid htg
  clear g1 g2 hof hlb htg hdz
  unfold sec at hw0 ⊢
  go_enter Tryd.func37, Tryd.ntmps37
  go_upto_region 3 with (fail)
  clear hw0
  refine wp_region_later_tail 7 (by kernel_rfl) (by kernel_rfl) ?_
  simp only [List.take_succ_cons, List.take_zero, List.drop_succ_cons, List.drop_zero]
  repeat ((go_big_quiet_step ((first | (go_at_call 59; exact calls_later (Rnoughts_any _)) | (go_at_call 16; with_reducible exact calls_later (HOF.out _)) | (go_at_call 57; exact calls_later (HLB.out _)) | (go_at_call 18; with_reducible exact calls_later (HTG.out _))))))
  refine wpQuiet_nil ?_
  intro wL hwL
  obtain ⟨⟨w8, hL⟩, e8⟩ := hwL
  change wL = w8 at e8
  subst e8
  have BL := hid (below_to B0.out hL)
  have g1 := G1.out.keep hL
  have g2 := G2.out.keep hL
  have hbs := beh_size b Z
  rw [beh_def]
  obtain ⟨x, hx⟩ : ∃ x, beh b Z = x := ⟨_, rfl⟩
  rw [hx] at hbs ⊢
  have HX := hid hx
  clear hL G1 G2 B0 HOF HLB HTG lc1 c1 hx
  obtain ⟨d0, d1, d2, d3, d4, d5, d6⟩ := g1.cells
  obtain ⟨f0, f1, f2, f3, f4, f5, f6⟩ := g1.free
  obtain ⟨w2, hw2⟩ : ∃ w2, wL.setCell ⟨n, 2, none⟩ (.string x) = w2 := ⟨_, rfl⟩
  have G1 : Hid (S7 w2 n a b x d e' f g) := by rw [← hw2]; exact ⟨hget_setCell g1.get 2 _⟩
  have G2 : Hid (S7 w2 (n + 1) ⟨#[]⟩ ⟨#[]⟩ ⟨#[]⟩ ⟨#[]⟩ ⟨#[]⟩ ⟨#[]⟩ ⟨#[]⟩) := by rw [← hw2]; exact ⟨hget_setCell_ne g2.get (show n + 1 ≠ n by omega) _⟩
  obtain ⟨c0, c1, c2, c3, c4, c5, c6⟩ := G1.out.cells
  have B2 : Hid (Below W.heap.size W w2) := by rw [← hw2]; exact Below.setCell BL.out hbn _
  clear BL g1 g2
  go_wp2_with fail
  clear c0 c1 c2 c3 c4 c5 c6 f0 f1 f2 f3 f4 f5 f6 d0 d1 d2 d3 d4 d5 d6
  clear hw2
  refine (Rlabel_any x ta fin w2 (by omega) (by decide) (by omega)).mono ?_
  rintro e w3 ⟨rfl, hb3⟩
  have B3 := hid (below_to B2.out hb3)
  have g1 := G1.out.keep hb3
  have g2 := G2.out.keep hb3
  obtain ⟨A, hA⟩ : ∃ A, lab x ta fin 32 = A := ⟨_, rfl⟩
  rw [hA]
  have HA := hid hA
  clear hb3 G1 G2 B2 hA
  obtain ⟨d0, d1, d2, d3, d4, d5, d6⟩ := g1.cells
  obtain ⟨f0, f1, f2, f3, f4, f5, f6⟩ := g1.free
  obtain ⟨w4, hw4⟩ : ∃ w4, w3.setCell ⟨n, 5, none⟩ (.string A) = w4 := ⟨_, rfl⟩
  have G1 : Hid (S7 w4 n a b x d e' A g) := by rw [← hw4]; exact ⟨hget_setCell g1.get 5 _⟩
  have G2 : Hid (S7 w4 (n + 1) ⟨#[]⟩ ⟨#[]⟩ ⟨#[]⟩ ⟨#[]⟩ ⟨#[]⟩ ⟨#[]⟩ ⟨#[]⟩) := by rw [← hw4]; exact ⟨hget_setCell_ne g2.get (show n + 1 ≠ n by omega) _⟩
  obtain ⟨c0, c1, c2, c3, c4, c5, c6⟩ := G1.out.cells
  have B4 : Hid (Below W.heap.size W w4) := by rw [← hw4]; exact Below.setCell B3.out hbn _
  clear B3 g1 g2
  go_wp2_with fail
  clear c0 c1 c2 c3 c4 c5 c6 f0 f1 f2 f3 f4 f5 f6 d0 d1 d2 d3 d4 d5 d6
  clear hw4
  refine (Rlabel_any x tb fin w4 (by omega) (by decide) (by omega)).mono ?_
  rintro e w5 ⟨rfl, hb5⟩
  have B5 := hid (below_to B4.out hb5)
  have g1 := G1.out.keep hb5
  have g2 := G2.out.keep hb5
  obtain ⟨B, hB⟩ : ∃ B, lab x tb fin 32 = B := ⟨_, rfl⟩
  rw [hB]
  have HB := hid hB
  clear hb5 G1 G2 B4 hB
  obtain ⟨d0, d1, d2, d3, d4, d5, d6⟩ := g1.cells
  obtain ⟨f0, f1, f2, f3, f4, f5, f6⟩ := g1.free
  obtain ⟨w6, hw6⟩ : ∃ w6, w5.setCell ⟨n, 6, none⟩ (.string B) = w6 := ⟨_, rfl⟩
  have G1 : Hid (S7 w6 n a b x d e' A B) := by rw [← hw6]; exact ⟨hget_setCell g1.get 6 _⟩
  have G2 : Hid (S7 w6 (n + 1) ⟨#[]⟩ ⟨#[]⟩ ⟨#[]⟩ ⟨#[]⟩ ⟨#[]⟩ ⟨#[]⟩ ⟨#[]⟩) := by rw [← hw6]; exact ⟨hget_setCell_ne g2.get (show n + 1 ≠ n by omega) _⟩
  obtain ⟨c0, c1, c2, c3, c4, c5, c6⟩ := G1.out.cells
  have B6 : Hid (Below W.heap.size W w6) := by rw [← hw6]; exact Below.setCell B5.out hbn _
  clear B5 g1 g2
  go_upto_region 6 with (fail)
  clear c0 c1 c2 c3 c4 c5 c6 f0 f1 f2 f3 f4 f5 f6 d0 d1 d2 d3 d4 d5 d6
  clear hw6
  obtain ⟨c0, c1, c2, c3, c4, c5, c6⟩ := G1.out.cells
  obtain ⟨d0, d1, d2, d3, d4, d5, d6⟩ := G2.out.cells
  obtain ⟨f0, f1, f2, f3, f4, f5, f6⟩ := G2.out.free
  obtain ⟨w9, hw9⟩ : ∃ w9, ((((((w6.setCell ⟨n + 1, 0, none⟩ (.string a)).setCell ⟨n + 1, 1, none⟩ (.string b)).setCell ⟨n + 1, 2, none⟩ (.string x)).setCell ⟨n + 1, 3, none⟩ (.string d)).setCell ⟨n + 1, 4, none⟩ (.string e')).setCell ⟨n + 1, 5, none⟩ (.string A)).setCell ⟨n + 1, 6, none⟩ (.string B) = w9 := ⟨_, rfl⟩
  have H1 : Hid (S7 w9 (n + 1) a b x d e' A B) := by rw [← hw9]; exact ⟨hget_setCell (hget_setCell (hget_setCell (hget_setCell (hget_setCell (hget_setCell (hget_setCell G2.out.get 0 _) 1 _) 2 _) 3 _) 4 _) 5 _) 6 _⟩
  have B9 : Hid (Below W.heap.size W w9) := by
    rw [← hw9]
    have hbn1 : W.heap.size ≤ n + 1 := by omega
    exact Below.setCell (Below.setCell (Below.setCell (Below.setCell (Below.setCell (Below.setCell (Below.setCell B6.out hbn1 _) hbn1 _) hbn1 _) hbn1 _) hbn1 _) hbn1 _) hbn1 _
  clear G1 G2 B6
  go_wp2_with fail
  refine bodyPost_ret (v := .tuple #[.agg (sec a b x d e' A B), .int .i64 0]) (results_cell_tmp Tryd.results37 _ _ (n + 1) 47 _ (0, 0) _ _ (by rfl) (by rfl) H1.out.get Tryd.underlying47 rfl (by kernel_rfl)) rfl ?_
  exact ⟨by rw [HX.out, HA.out, HB.out]; rfl, B9.out⟩

theorem master_any (a b c d e' f g fin : ByteArray) (W : World) (hT : Tab W) :
    Calls Tryd.prog 36 #[.agg (sec a b c d e' f g), .string fin] W fun er w' => er = .returned (.tuple #[.agg (MSv a b d e' fin), .int .i64 (MSe b fin)]) ∧ Below W.heap.size W w' := by
  by_cases hc : b.size = 32 ∧ fin.size = 32
  · exact master_yes a b c d e' f g fin W hT hc
  · exact master_no a b c d e' f g fin W hc
theorem Rmaster_any (a b c d e' f g fin : ByteArray) (W : World) :
    Calls Tryd.prog 37 #[.agg (sec a b c d e' f g), .string fin] W fun er w' => er = .returned (.tuple #[.agg (MSv a b d e' fin), .int .i64 (MSe b fin)]) ∧ Below W.heap.size W w' := by
  by_cases hc : b.size = 32 ∧ fin.size = 32
  · exact Rmaster_yes a b c d e' f g fin W hc
  · exact Rmaster_no a b c d e' f g fin W hc

end Go.Proofs.YtejkimhmpnogkaaDoor

namespace Go.Proofs.YtejkimhmpnogkaaDoor
open Go Go.RowKit

set_option maxHeartbeats 1000000 in
theorem prefix_any (s p : ByteArray) (h : p.size ≤ s.size) (he : (s.extract 0 p.size).toList = p.toList) (W : World) : Calls Tryd.prog 78 #[.string s, .string p] W fun e w' => e = .returned (.bool true) ∧ W = w' := by
  go_enter Tryd.func78, Tryd.ntmps78
  go_wp2_with (go_in)
  go_ret
  exact ⟨rfl, rfl⟩

set_option maxRecDepth 100000 in
set_option maxHeartbeats 1000000 in
theorem repeat64 (W : World) : Calls Tryd.prog 71 #[.string ⟨#[32]⟩, .int .i64 64] W fun e w' => (∃ s : ByteArray, e = .returned (.string s) ∧ s.size = 64) ∧ W = w' := by
  have HM := hid (mul_1_64 W)
  go_enter Tryd.func71, Tryd.ntmps71
  go_wp2_with fail
  refine HM.out.mono ?_
  rintro e w' ⟨rfl, rfl⟩
  go_wp2_with fail
  refine (prefix_any _ _ (by decide +kernel) (by decide +kernel) W).mono ?_
  rintro e w' ⟨rfl, rfl⟩
  go_wp2_with fail
  go_ret
  exact ⟨⟨_, rfl, by decide +kernel⟩, rfl⟩

theorem plainElem_string_inv {P : Program} {H : Type} {e : TypeId} (he : P.underlying e = some .string) {v : Value} {z : DataW H × List MemPlace} (h : plainElem P e v = some z) : ∃ s : ByteArray, v = .string s ∧ z = (.lit (.string s.data.toList), []) := by
  unfold plainElem at h
  rw [he] at h
  cases v <;> simp at h
  obtain ⟨_, rfl⟩ := h
  exact ⟨_, rfl, rfl⟩

theorem whole_one (s : ByteArray) (b : Nat) (W : World) (hc : W.cell? ⟨b, 0, none⟩ = some (.string s)) (h1 : s.size = 32) :
    Calls Tryd.prog 54 #[.slice (some ⟨b, 0, none⟩) 1 1] W fun e w' => e = .returned (.bool true) ∧ W = w' := by
  have e1 : (((s.size : Nat) : Int) == 32) = true := beq_iff_eq.2 (by omega)
  go_enter Tryd.func54, Tryd.ntmps54
  go_wp2_with fail
  refine wp_loop_rounds 2 ?_
  rw [rounds_succ]; go_wp2_with fail
  rw [rounds_succ]; go_wp2_with fail
  go_ret
  exact ⟨rfl, rfl⟩

set_option maxRecDepth 100000 in
set_option maxHeartbeats 1000000 in
theorem proof_true (s : ByteArray) (W : World) (h1 : s.size = 32) : Calls Tryd.prog 53 #[.bool true, .string s] W fun e w' => (∃ t : ByteArray, e = .returned (.tuple #[.string t, .int .i64 0]) ∧ t.size = 130) ∧ Below W.heap.size W w' := by
  obtain ⟨w0, hw0⟩ : ∃ w0, W.alloc (.cells #[.string s] 9) = w0 := ⟨_, rfl⟩
  have g1 : w0.heap[W.heap.size]? = some (.cells #[.string s] 9 (0, 0)) := by rw [← hw0]; exact alloc_at W _
  have B0 : Hid (Below W.heap.size W w0) := by rw [← hw0]; exact below_new _
  have hwh := hid (whole_one s W.heap.size w0 (cell_at g1 0) h1)
  clear g1
  go_enter Tryd.func53, Tryd.ntmps53
  go_wp2_with fail
  refine hwh.out.mono ?_
  rintro e w' ⟨rfl, rfl⟩
  clear hw0
  have hmm := @run_makeMap Tryd.prog
  have hown0 := World.ownsMap_made w0 Tryd.prog 4 (plainElem (H := Unit) Tryd.prog 9)
  have g0 : Below W.heap.size W (w0.alloc (.map #[] 0)) := below_to B0.out (below_new _)
  have hg0 := hid g0
  have hMn : W.heap.size ≤ w0.heap.size := B0.out.size
  obtain ⟨M, hM⟩ : ∃ M, w0.heap.size = M := ⟨_, rfl⟩
  rw [hM] at hown0 hMn
  obtain ⟨w1, hr1, ho1, hg1⟩ := hown0.update (Maps.bool_keyed Tryd.underlying4) Tryd.underlying107 (by unfold maxLen; omega) (Maps.keyOf_bool_mk Tryd.underlying4 true) (plainElem_string (s := ⟨#[115, 101, 114, 118, 101, 114]⟩) Tryd.underlying9 (by show 6 ≤ maxLen; unfold maxLen; omega))
  obtain ⟨w2, hr2, ho2, hg2⟩ := ho1.update (Maps.bool_keyed Tryd.underlying4) Tryd.underlying107 (by unfold maxLen; omega) (Maps.keyOf_bool_mk Tryd.underlying4 false) (plainElem_string (s := ⟨#[99, 108, 105, 101, 110, 116]⟩) Tryd.underlying9 (by show 6 ≤ maxLen; unfold maxLen; omega))
  have hz : (zeroValue 9).run Tryd.prog w2 = .ok (.string ⟨#[]⟩) w2 := rfl
  obtain ⟨v, ps, hr3, hv⟩ := ho2.lookup (Maps.bool_keyed Tryd.underlying4) Tryd.underlying107 hz (plainElem_string Tryd.underlying9 (by show 0 ≤ maxLen; omega)) (Maps.keyOf_bool_mk Tryd.underlying4 true)
  obtain ⟨t, rfl, ht⟩ := plainElem_string_inv Tryd.underlying9 hv
  have ht6 : t.size = 6 := by
    have h1 := (Prod.mk.inj ht).1
    have h2 : (DataW.atKey (((DataW.map []).put (.bool true) (.lit (.string (⟨#[115, 101, 114, 118, 101, 114]⟩ : ByteArray).data.toList))).put (.bool false) (.lit (.string (⟨#[99, 108, 105, 101, 110, 116]⟩ : ByteArray).data.toList))) (.bool true) (.lit (.string (⟨#[]⟩ : ByteArray).data.toList)) : DataW Unit) = .lit (.string [115, 101, 114, 118, 101, 114]) := by kernel_rfl
    have h3 := h2.symm.trans h1
    injection h3 with h4
    injection h4 with h5
    have h6 := congrArg List.length h5
    simpa using h6.symm
  have hb1 := hg0.out.grown hg1 hg0.out.size (fun k e => by injection e with e; omega)
  have B2 := hid (hb1.grown hg2 hb1.size (fun k e => by injection e with e; omega))
  clear hb1
  clear hown0 g0 ho1 ho2 hv ht hz
  have R64 := hid (repeat64 w2)
  go_wp2_with fail
  refine R64.out.mono ?_
  rintro e w' ⟨⟨r, rfl, hr⟩, rfl⟩
  go_wp2_with fail
  go_ret2
  exact ⟨⟨_, rfl, by simp only [ByteArray.size_append, hr, ht6, h1]; rfl⟩, B2.out⟩

end Go.Proofs.YtejkimhmpnogkaaDoor
