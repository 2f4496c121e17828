/- The walk of the endless iterator over the pieces of a key. -/
import Derived.Test.YtejkimhmpnogkaaDoorHkP
import Derived.Test.YtejkimhmpnogkaaDoorSumW10
import Derived.Test.YtejkimhmpnogkaaDoorRNG
import Derived.Shelf.Abstract
import Derived.Shelf.RegionOpen
import Derived.OwnWalkIn
import Derived.TacticsInMore
import Derived.LoopNIn
import Derived.LoopIn
namespace Go.Proofs.YtejkimhmpnogkaaDoor
open Go.RowKit Go.Shelf
attribute [local go_sem] Oper.semAt_some

theorem below_grown {w w' : World} (h : Below w.heap.size w w') : w.grownBy w' none := ⟨h.os, h.tape, h.output, h.size, fun k hk _ => h.block k hk⟩

theorem pieces_any (key info : ByteArray) (W : World) : Calls Tryd.prog 49 #[.string key, .string info] W fun e w' =>
    e = .returned (.func (.func 69) #[] #[.pointer (some ⟨W.heap.size, 0, none⟩), .pointer (some ⟨W.heap.size + 1, 0, none⟩)]) ∧ w' = (W.alloc (.cells #[.string key] 9)).alloc (.cells #[.string info] 9) := by
  have hmf : ∀ (fn : Fn) (first cap : Array Value) (w : World), (Instr.makeFunc fn first cap).run Tryd.prog w = .ok (.func fn first cap) w := fun _ _ _ _ => rfl
  go_enter Tryd.func49, Tryd.ntmps49
  go_wp2_with fail
  go_ret
  exact ⟨rfl, rfl⟩

/-- A piece. -/
abbrev Pc := { l : List UInt8 // l.length = 32 }
def pcs (pre : List Pc) : List UInt8 := pre.flatMap (·.1)
/-- What the iterator reads between two rounds. -/
def PRd (key info : ByteArray) (K I : Nat) (pre : List Pc) (W : World) : Prop :=
  pre.length < 255 ∧ Tab W ∧ W.cell? ⟨K, 0, none⟩ = some (.string key) ∧ W.cell? ⟨I, 0, none⟩ = some (.string info)

set_option maxRecDepth 100000 in
set_option maxHeartbeats 2000000 in
theorem pieces_ends (key info : ByteArray) (hk : key.size ≤ 68719476736) (hi : info.size ≤ 34359738368) (K I n : Nat) (hn : 1 ≤ n) :
    SeqEnds Fence.wide n Tryd.prog 69 #[.pointer (some ⟨K, 0, none⟩), .pointer (some ⟨I, 0, none⟩)] (fun x : Pc => #[.string ⟨x.1.toArray⟩]) (PRd key info K I)
      (fun pre => pcs pre = HK.pieces key.data.toList info.data.toList pre.length) := fun l J Jx W hJ hR hY h0 => by
  refine callsIn_of_wp Tryd.func69 rfl trivial ?_ rfl
  simp only [Tryd.ntmps69, List.size_toArray, List.length_cons, List.length_nil, Nat.reduceAdd, Nat.reduceSub, Array.replicate_succ, Array.replicate_zero, List.push_toArray, List.append_toArray, List.nil_append, List.cons_append]
  gi_wp2
  gi_loopw [4, 5] (fun t i wr => ∃ (pre : List Pc) (tb : ByteArray), t = .string tb ∧ i = .int .u8 ((pre.length : Int) + 1) ∧ tb.data.toList = HK.piece key.data.toList info.data.toList pre.length ∧ pcs pre = HK.pieces key.data.toList info.data.toList pre.length ∧ J pre wr)
    (fun _ i _ => 255 - (intOf i).toNat)
  case atStart => exact ⟨[], ⟨#[]⟩, rfl, rfl, rfl, rfl, h0⟩
  case round =>
    obtain ⟨pre, tb, rfl, rfl, htb, hpre, hj⟩ := hrel
    obtain ⟨hlen, hT, cK, cI⟩ := hR pre wr hj
    have hu : ((UInt8.ofNat (pre.length + 1)).toNat : Int) = (pre.length : Int) + 1 := by
      rw [UInt8.toNat_ofNat_of_lt' (by simp [UInt8.size]; omega)]; omega
    obtain ⟨c, hc⟩ : ∃ c, UInt8.ofNat (pre.length + 1) = c := ⟨_, rfl⟩
    rw [hc] at hu
    have a1 := alloc_at wr (.cells #[.int .u8 ((pre.length : Int) + 1)] 5)
    have b1 := below_new (w := wr) (.cells #[.int .u8 ((pre.length : Int) + 1)] 5)
    have hcv := conv_string (wr.alloc (.cells #[.int .u8 ((pre.length : Int) + 1)] 5)) wr.heap.size 0 1 1 [c] rfl (fun j hj => by
      have : j = 0 := by omega
      subst this
      rw [cell_at a1, List.getD_cons_zero, hu]; rfl)
    have T1 := hid (hT.keep b1)
    have B1 := hid b1
    have hts : tb.size ≤ 32 := by
      have h1 : tb.data.toList.length = tb.size := by simp
      rw [← h1, htb]
      cases pre.length with
      | zero => exact Nat.zero_le _
      | succ n => exact Nat.le_of_eq (HK.piece_length _ _ _)
    have hsz : (tb ++ info ++ (⟨#[c]⟩ : ByteArray)).size ≤ 68719476736 := by
      have h2 : (⟨#[c]⟩ : ByteArray).size = 1 := rfl
      rw [ByteArray.size_append, ByteArray.size_append, h2]; omega
    have htag := hid (tag_any key (tb ++ info ++ ⟨#[c]⟩) _ T1.out hk hsz)
    have hx : SM.tag key.data.toList (tb ++ info ++ (⟨#[c]⟩ : ByteArray)).data.toList = HK.piece key.data.toList info.data.toList (pre.length + 1) := by
      rw [HK.piece, ← htb, hc]; simp
    obtain ⟨x, hxv⟩ : ∃ x : Pc, x.1 = SM.tag key.data.toList (tb ++ info ++ (⟨#[c]⟩ : ByteArray)).data.toList := ⟨⟨_, rfl⟩, rfl⟩
    have HX := hid (hxv.trans hx)
    have HPRE := hid hpre
    have HTB := hid htb
    have HJ := hid hj
    have HXV := hid hxv
    have hss : (tb ++ info).size = tb.size + info.size := ByteArray.size_append
    have hs1 : (⟨#[c]⟩ : ByteArray).size = 1 := rfl
    clear hc hu a1 b1 hsz hx hxv hpre htb hj hT
    gi_wp2_with fail
    refine ⟨trivial, (callsIn_wide.2 htag.out).mono ?_⟩
    clear htag
    rintro e w2 ⟨rfl, hb2⟩
    rw [← HXV.out]
    have hb := below_to B1.out hb2
    have hj2 := hJ pre wr w2 none HJ.out (below_grown hb) (fun r e => by cases e)
    obtain ⟨fn, tmps, assign, body, hy, hRd⟩ := hY pre x w2 hj2
    clear hb hb2 T1 B1 HXV hcv
    gi_wp2_with fail
    refine hRd.mono ?_
    rintro e w3 (⟨rfl, hj3⟩ | ⟨rfl, hx3⟩)
    · have hR3 := (hR _ _ hj3).1
      have hlen3 : (pre ++ [x]).length = pre.length + 1 := by simp
      have hl3 : pre.length + 1 < 255 := by rw [← hlen3]; exact hR3
      gi_wp2_with fail
      go_roundw
      case rel => exact ⟨pre ++ [x], _, rfl, by rw [hlen3]; go_num, by rw [hlen3]; exact HX.out, by rw [hlen3, HK.pieces, ← HPRE.out, ← HX.out]; simp [pcs], hj3⟩
      case measure => simp [intOf]; omega
    · gi_wp2_with fail
      refine bodyPost_ret (results_none rfl _ _ _) rfl ?_
      exact ⟨⟨_, rfl⟩, pre ++ [x], by rw [show (pre ++ [x]).length = pre.length + 1 by simp, HK.pieces, ← HPRE.out, ← HX.out]; simp [pcs], hx3⟩

end Go.Proofs.YtejkimhmpnogkaaDoor
