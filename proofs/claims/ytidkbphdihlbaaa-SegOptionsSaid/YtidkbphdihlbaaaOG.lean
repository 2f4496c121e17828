/- The opener for an argument that is a segment. -/
import Derived.Test.YtidkbphdihlbaaaO
import Derived.Test.YtidkbphdihlbaaaSegW2
namespace Go.Proofs.Ytidkbphdihlbaaa
open Go.RowKit Go.ChangeShapes Go.WideShapes Go.Deep SG

section
variable {H : Type} {enc : TypeId × Value → H} {P : Program} {w : World} {base : Nat} {spare : Nat → Bool} {held : Bool}
/-- A struct that came in by value, each field of one cell: its fields. -/
theorem struct_fields {t : TypeId} {fs : Array Field} {cs : Array Value} {d : DataW H} {p : List MemPlace} (he : P.underlying t = some (.struct fs)) (hone : oneCellFields P fs = true)
    (h : DataW.Trod enc P w base spare held t (.agg cs) d p) : ∃ n, ∀ (j : Nat) (f : Field), fs[j]? = some f → ∀ hj : j < cs.size, ∃ y : DataW H × List MemPlace, DataW.trod enc P w base spare held n f.type [cs[j]] = some y := by
  obtain ⟨m, hm⟩ := h
  obtain ⟨ys, n', hn', hy, hlen, hyl, hf⟩ := DataW.trod_struct he hm
  refine ⟨n', fun j f hj hjl => ?_⟩
  obtain ⟨ho, hk⟩ := hone_of hone j f hj
  have h1 := hf j f hj
  rw [ho, hk] at h1
  have hcl : (Value.agg cs).cells.toList = cs.toList := rfl
  rw [hcl] at h1
  have hone' : (cs.toList.drop j).take 1 = [cs[j]] := by
    rw [List.drop_eq_getElem_cons (by simpa using hjl)]
    simp
  rw [hone'] at h1
  have hjf : j < fs.size := (Array.getElem?_eq_some_iff.1 hj).1
  rw [List.getElem?_eq_getElem (by omega)] at h1
  exact ⟨_, h1⟩
end
section
variable {H : Type} {enc : TypeId × Value → H} {w : World} {base : Nat} {spare : Nat → Bool} {held : Bool}
theorem nat_of {k : IntKind} {n : Int} {hi : Int} (h : 0 ≤ n ∧ n ≤ hi) : ∃ m : Nat, n = (m : Int) ∧ (m : Int) ≤ hi := by
  obtain ⟨m, rfl⟩ := Int.eq_ofNat_of_zero_le h.1
  exact ⟨m, rfl, h.2⟩
theorem seg_open {cs : Array Value} {d : DataW H} {p : List MemPlace} (hsz : cs.size = 10) (h : DataW.Trod enc Try.prog w base spare held 25 (.agg cs) d p) : ∃ g : Sg, cs = sgv g ∧ g.Fits ∧ g.data.length ≤ maxLen := by
  obtain ⟨n, hf⟩ := struct_fields Try.underlying25 (by kernel_rfl) h
  obtain ⟨l⟩ := cs
  match l, hsz with
  | [v0, v1, v2, v3, v4, v5, v6, v7, v8, v9], _ =>
    obtain ⟨y0, t0⟩ := hf 0 _ rfl (by simp)
    obtain ⟨y1, t1⟩ := hf 1 _ rfl (by simp)
    obtain ⟨y2, t2⟩ := hf 2 _ rfl (by simp)
    obtain ⟨y3, t3⟩ := hf 3 _ rfl (by simp)
    obtain ⟨y4, t4⟩ := hf 4 _ rfl (by simp)
    obtain ⟨y5, t5⟩ := hf 5 _ rfl (by simp)
    obtain ⟨y6, t6⟩ := hf 6 _ rfl (by simp)
    obtain ⟨y7, t7⟩ := hf 7 _ rfl (by simp)
    obtain ⟨y8, t8⟩ := hf 8 _ rfl (by simp)
    obtain ⟨y9, t9⟩ := hf 9 _ rfl (by simp)
    obtain ⟨n0, e0, _, f0⟩ := DataW.trod_int Try.underlying22 t0
    obtain ⟨n1, e1, _, f1⟩ := DataW.trod_int Try.underlying22 t1
    obtain ⟨n2, e2, _, f2⟩ := DataW.trod_int Try.underlying23 t2
    obtain ⟨n3, e3, _, f3⟩ := DataW.trod_int Try.underlying23 t3
    obtain ⟨n4, e4, _, f4⟩ := DataW.trod_int Try.underlying5 t4
    obtain ⟨n5, e5, _, f5⟩ := DataW.trod_int Try.underlying22 t5
    obtain ⟨n6, e6, _, f6⟩ := DataW.trod_int Try.underlying22 t6
    obtain ⟨n7, e7, _⟩ := DataW.trod_bool Try.underlying4 t7
    obtain ⟨n8, e8, _, f8⟩ := DataW.trod_int Try.underlying5 t8
    obtain ⟨s9, e9, _, f9⟩ := DataW.trod_string Try.underlying9 t9
    simp only [List.cons.injEq, and_true, List.getElem_toArray, List.getElem_cons_zero, List.getElem_cons_succ] at e0 e1 e2 e3 e4 e5 e6 e7 e8 e9
    subst e0 e1 e2 e3 e4 e5 e6 e7 e8 e9
    obtain ⟨m0, rfl, g0⟩ := nat_of (k := .u16) (bounds_u16 f0)
    obtain ⟨m1, rfl, g1⟩ := nat_of (k := .u16) (bounds_u16 f1)
    obtain ⟨m2, rfl, g2⟩ := nat_of (k := .u32) (bounds_u32 f2)
    obtain ⟨m3, rfl, g3⟩ := nat_of (k := .u32) (bounds_u32 f3)
    obtain ⟨m4, rfl, g4⟩ := nat_of (k := .u8) (bounds_u8 f4)
    obtain ⟨m5, rfl, g5⟩ := nat_of (k := .u16) (bounds_u16 f5)
    obtain ⟨m6, rfl, g6⟩ := nat_of (k := .u16) (bounds_u16 f6)
    obtain ⟨m8, rfl, g8⟩ := nat_of (k := .u8) (bounds_u8 f8)
    refine ⟨⟨m0, m1, m2, m3, m4, m5, m6, n7, m8, s9.data.toList⟩, ?_, ⟨by simp only []; omega, by simp only []; omega, by simp only []; omega, by simp only []; omega, by simp only []; omega, by simp only []; omega, by simp only []; omega, by simp only []; omega⟩, by simpa using f9⟩
    have hs : bs s9.data.toList = s9 := by simp [bs]
    unfold sgv
    simp only [hs]
end

end Go.Proofs.Ytidkbphdihlbaaa
