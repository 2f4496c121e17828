/- A region that draws its order, in which just the first two operations may come either way: both ways. -/
import Derived.Test.YtejkimhmpnogkaaDoorB
namespace Go.Proofs.YtejkimhmpnogkaaDoor
open Go Go.RowKit
variable {P : Program} {Q : Exit → Act → World → Prop} {a : Act} {w : World}
theorem wp_region_two {id : Nat} {o0 o1 : Oper} {l : List Oper} (hm : P.follows .mixedOrders = true)
    (hr : Region.ready .any (o0 :: o1 :: l).toArray (Array.replicate (l.length + 2) false) = [0, 1])
    (hs1 : Region.seqB .any (o0 :: o1 :: l).toArray (l.length + 1) 1 ((Array.replicate (l.length + 2) false).setIfInBounds 0 true) = true)
    (hr2 : Region.ready .any (o0 :: o1 :: l).toArray ((Array.replicate (l.length + 2) false).setIfInBounds 1 true) = [0])
    (hs2 : Region.seqB .any (o0 :: o1 :: l).toArray l.length 2 (((Array.replicate (l.length + 2) false).setIfInBounds 1 true).setIfInBounds 0 true) = true)
    (h1 : wpList P (o0 :: o1 :: l).toArray Q (o0 :: o1 :: l) a w.drew) (h2 : wpList P (o0 :: o1 :: l).toArray Q (o1 :: o0 :: l) a w.drew) : (Code.region id (o0 :: o1 :: l).toArray true).wp P Q a w := by
  refine wp_region_any hm ?_
  show wpAny P .any (o0 :: o1 :: l).toArray Q (l.length + 1 + 1) (Array.replicate (l.length + 2) false) a w.drew
  refine ⟨fun h0 => (by rw [hr] at h0; cases h0), fun i hi => ?_⟩
  rw [hr] at hi
  have hi' : i = 0 ∨ i = 1 := by simpa using hi
  rcases hi' with rfl | rfl
  · have hw : wpOp P (o0 :: o1 :: l).toArray Q 0 (wpList P (o0 :: o1 :: l).toArray Q (o1 :: l)) a w.drew := by unfold wpOp; exact h1
    exact wpOp_mono (fun a' w' h' => wpAny_of_seq (o1 :: l) 1 _ a' w' (fun j => by simp [Nat.add_comm 1 j]) hs1 h') hw
  · have hw : wpOp P (o0 :: o1 :: l).toArray Q 1 (wpList P (o0 :: o1 :: l).toArray Q (o0 :: l)) a w.drew := by unfold wpOp; exact h2
    refine wpOp_mono (fun a' w' h' => ?_) hw
    refine ⟨fun h0 => (by rw [hr2] at h0; cases h0), fun i hi => ?_⟩
    rw [hr2] at hi
    have hi' : i = 0 := by simpa using hi
    subst hi'
    have hw2 : wpOp P (o0 :: o1 :: l).toArray Q 0 (wpList P (o0 :: o1 :: l).toArray Q l) a' w' := by unfold wpOp; exact h'
    exact wpOp_mono (fun a' w' h' => wpAny_of_seq l 2 _ a' w' (fun j => by simp [Nat.add_comm 2 j]) hs2 h') hw2
end Go.Proofs.YtejkimhmpnogkaaDoor
