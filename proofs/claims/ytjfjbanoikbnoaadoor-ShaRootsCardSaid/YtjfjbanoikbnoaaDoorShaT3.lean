/- The walk of the document's primes. -/
import Derived.Test.YtjfjbanoikbnoaaDoorShaT2
import Derived.Test.YtjfjbanoikbnoaaDoorShaW6
import Derived.Laws.AppendOwn
import Derived.Laws.OwnMore
namespace Go.Proofs.YtjfjbanoikbnoaaDoor
open Go.RowKit

def nats (l : List Nat) : List Value := l.map fun (q : Nat) => Value.int .u64 (q : Int)
theorem nats_length (l : List Nat) : (nats l).length = l.length := by simp [nats]
theorem nats_get (l : List Nat) {j : Nat} (h : j < l.length) : (nats l)[j]? = some (.int .u64 (l.getD j 0 : Int)) := by simp [nats, h]
theorem owns_slice {w : World} {base : Nat} {e : TypeId} {size : Nat} {v : Value} {n : Nat} {xs : List Value} (h : w.ownsRow base e size v n xs) : ∃ a cap, v = .slice a n cap := by
  obtain ⟨_, ⟨rfl, rfl⟩ | ⟨g, cap, cur, rfl, _⟩⟩ := h
  · exact ⟨_, _, rfl⟩
  · exact ⟨_, _, rfl⟩
theorem owns_cells {w : World} {base : Nat} {e : TypeId} {v : Value} {n : Nat} {xs : List Value} (h : w.ownsRow base e 1 v n xs) (h0 : 0 < n) : ∃ g cap, v = .slice (some ⟨g, 0, none⟩) n cap ∧ base ≤ g ∧ g < w.heap.size ∧ ∀ j, j < n → w.cell? ⟨g, j, none⟩ = xs[j]? := by
  obtain ⟨_, ⟨_, rfl⟩ | ⟨g, cap, cur, rfl, hb, hc, hle, _, hsz, hxs⟩⟩ := h
  · omega
  · refine ⟨g, cap, rfl, hb, lt_blk hc, fun j hj => ?_⟩
    rw [cell_at hc]
    have h4 : (cur.toList.take (n * 1))[j]? = cur.toList[j]? := by rw [List.getElem?_take, if_pos (by omega)]
    rw [← hxs, h4, Array.getElem?_toList]
theorem info_w64 : (Tryd.prog.info? 28).map (fun i => (i.zero, i.size, i.bytes)) = some (some (.int .u64 0), 1, 8) := by kernel_rfl
def allOf (p : Nat) (l : List Nat) : Bool := l.all fun q => p % q != 0
theorem allOf_succ (p : Nat) (l : List Nat) (k : Nat) (h : k < l.length) : allOf p (l.take (k + 1)) = (allOf p (l.take k) && (p % l.getD k 0 != 0)) := by
  unfold allOf
  rw [List.take_succ_eq_append_getElem h, List.all_append]
  simp [h]
theorem pr_pos (p : Nat) : ∀ q ∈ RT.pr p, 2 ≤ q := by
  induction p with
  | zero => intro q h; simp [RT.pr] at h
  | succ p ih =>
    intro q h
    rw [RT.pr] at h
    split at h
    · rename_i hc
      simp only [List.mem_append, List.mem_singleton] at h
      rcases h with h | h
      · exact ih q h
      · omega
    · exact ih q h

set_option maxHeartbeats 1000000 in
theorem primes_80 (W : World) : Calls Tryd.prog 9 #[.int .i64 80] W fun e w' =>
    ∃ g cap, e = .returned (.slice (some ⟨g, 0, none⟩) 80 cap) ∧ g < w'.heap.size ∧ (∀ j, j < 80 → w'.cell? ⟨g, j, none⟩ = some (.int .u64 (RT.primes.getD j 0 : Int))) ∧ Below W.heap.size W w' := by
  obtain ⟨i0, hi, hii⟩ := Option.map_eq_some_iff.1 info_w64
  obtain ⟨hz0, hz1, hz2⟩ : i0.zero = some (.int .u64 0) ∧ i0.size = 1 ∧ i0.bytes = 8 := by simpa using hii
  clear hii
  go_enter Tryd.func9, Tryd.ntmps9
  go_wp2_with fail
  go_loopw [3, 4] (fun v pp wr => ∃ p : Nat, 2 ≤ p ∧ p ≤ 410 ∧ pp = .int .u64 (p : Int) ∧ wr.ownsRow W.heap.size 28 1 v (RT.pr p).length (nats (RT.pr p)) ∧ Below W.heap.size W wr) (fun _ pp _ => (410 - intOf pp).toNat)
  case atStart => exact ⟨2, by omega, by omega, rfl, by rw [show RT.pr 2 = [] from by decide]; exact World.ownsRow_nil _ _ _ _, Below.refl _ _⟩
  case round =>
    obtain ⟨p, hp2, hp, rfl, hown, rb⟩ := hrel
    have HO := hid hown
    have RB := hid rb
    obtain ⟨a, cap, hv⟩ := owns_slice hown
    subst hv
    clear hown rb
    by_cases hlt : p < 410
    · have hsm := RT.pr_small (p := p) (by omega)
      have hd : decide (((RT.pr p).length : Int) < 80) = true := decide_eq_true (by omega)
      have hdn : decide ((RT.pr p).length < 80) = true := decide_eq_true hsm
      have hpos := pr_pos p
      have hnx : RT.pr (p + 1) = if allOf p (RT.pr p) = true then RT.pr p ++ [p] else RT.pr p := by
        rw [RT.pr]; simp only [hp2, true_and]; rfl
      generalize hl : RT.pr p = l at *
      have HNX := hid hnx
      have HPOS := hid hpos
      clear hnx hpos hl
      go_wp2_with fail
      clear hd hdn
      go_loopw [5, 6] (fun s i wq => ∃ k : Nat, k ≤ l.length ∧ i = .int .i64 (k : Int) ∧ s = .bool (allOf p (l.take k)) ∧ wq.ownsRow W.heap.size 28 1 (.slice a l.length cap) l.length (nats l) ∧ Below W.heap.size W wq) (fun _ i _ => (l.length - intOf i).toNat)
      case atStart => exact ⟨0, by omega, rfl, rfl, HO.out, RB.out⟩
      case round =>
        clear HO RB
        obtain ⟨k, hk, rfl, rfl, hown, rb⟩ := hrel
        have HO := hid hown
        have RB := hid rb
        by_cases hkl : k < l.length
        · have hd : decide ((k : Int) < (l.length : Int)) = true := decide_eq_true (by omega)
          have hdn : decide (k < l.length) = true := decide_eq_true hkl
          obtain ⟨g, cap', hv, hg, hgl, hc⟩ := owns_cells hown (by omega)
          injection hv with hv1 hv2 hv3
          subst hv1 hv3
          have ck := hc k hkl
          rw [nats_get l hkl] at ck
          have hsu := allOf_succ p l k hkl
          have hq2 : 2 ≤ l.getD k 0 := HPOS.out _ (by rw [List.getD_eq_getElem?_getD, List.getElem?_eq_getElem hkl]; exact List.getElem_mem hkl)
          generalize l.getD k 0 = q at *
          have hq0 : ¬ q = 0 := by omega
          have hk0 : 0 ≤ (k : Int) := by omega
          have hk1 : (k : Int) < (l.length : Int) := by omega
          have HSU := hid hsu
          clear hc hsu rb hown
          cases hal : allOf p (l.take k)
          · rw [hal, Bool.false_and] at HSU
            go_wp2_with fail
            exact ⟨⟨k + 1, by omega, by go_num, by rw [HSU.out], HO.out, RB.out⟩, by simp [intOf]; omega⟩
          · rw [hal, Bool.true_and] at HSU
            have hmod : ((p : Int) % (q : Int) != 0) = (p % q != 0) := by
              rw [← Int.natCast_emod]
              by_cases h : p % q = 0
              · rw [h]; rfl
              · rw [bne_iff_ne.2 h, bne_iff_ne.2 (by omega)]
            go_wp2_with fail
            exact ⟨⟨k + 1, by omega, by go_num, by rw [HSU.out], HO.out, RB.out⟩, by simp [intOf]; omega⟩
        · have hd : decide ((k : Int) < (l.length : Int)) = false := decide_eq_false (by omega)
          have hdn : decide (k < l.length) = false := decide_eq_false hkl
          have hkk : k = l.length := by omega
          rw [hkk, List.take_length]
          clear hown rb hk
          cases hal : allOf p l
          · rw [hal, if_neg (by decide)] at HNX
            go_wp2_with fail
            exact ⟨⟨p + 1, by omega, by omega, by go_num, by rw [HNX.out]; exact HO.out, RB.out⟩, by simp [intOf]; omega⟩
          · rw [hal, if_pos rfl] at HNX
            have hml : l.length + 1 ≤ maxLen := by unfold maxLen; omega
            have hkn : hkk = hkk := rfl
            clear hkn hkl hkk
            go_wp2_with (at_builtin; refine wpList_append_own _ rfl _ _ 26 rfl W.heap.size 28 i0 (.int .u64 0) 1 8 Tryd.underlying26 hi hz0 hz1 hz2 rfl (by decide) _ _ _ rfl (HO.out.alloc _) ⟨wr.heap.size, 0, none⟩ 1 1 [.int .u64 (p : Int)] rfl rfl ?c1 ?c2 hml ?c4 ?c5 ?_)
            case c1 => exact cell_one_new _ _ _
            case c2 => intro u hu; simp only [List.mem_cons, List.not_mem_nil, or_false] at hu; subst hu; rfl
            case c4 => omega
            case c5 => have := RB.out.size; simp; omega
            intro v' w1 hown' hgrow _
            have hb2 := hid ((below_alloc RB.out _).grown hgrow (by have := RB.out.size; simp; omega) (fun g hg => block_le HO.out hg))
            have HO' := hid hown'
            clear hown' hgrow hml
            go_wp2_with fail
            refine ⟨⟨p + 1, by omega, by omega, by go_num, ?_, hb2.out⟩, by simp [intOf]; omega⟩
            rw [HNX.out, List.length_append]
            have h := HO'.out
            simpa [nats] using h
    · have hp4 : p = 410 := by omega
      subst hp4
      have HO2 := HO.out
      rw [RT.pr_410] at HO2 ⊢
      obtain ⟨g, cap', hv, hg, hgl, hc⟩ := owns_cells HO2 (by decide)
      injection hv with hv1 hv2 hv3
      subst hv1 hv3
      have hc' := hid (fun j (hj : j < 80) => (hc j hj).trans (nats_get RT.primes (show j < RT.primes.length from hj)))
      have hln : RT.primes.length = 80 := rfl
      clear hc HO2 HO
      rw [hln]
      go_wp2_with fail
      go_ret
      exact ⟨g, ⟨cap, rfl⟩, hgl, fun j hj => by have h := hc'.out j hj; rwa [List.getD_eq_getElem?_getD] at h, RB.out⟩

end Go.Proofs.YtjfjbanoikbnoaaDoor
