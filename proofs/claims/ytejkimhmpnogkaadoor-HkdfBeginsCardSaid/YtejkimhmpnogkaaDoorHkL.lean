/- Expand and Label at whatever number: one contract each; both sides give the same. The walks of the laws on keys out of keys: small, alive. The walk of small: what texts weigh. The walks of the laws HkdfKeys, HkdfLabels, HkdfBegins. The walks of the laws HkdfLabels and HkdfBegins. The walk of the law HkdfBegins. -/
import Derived.Test.YtejkimhmpnogkaaDoorHkR
namespace Go.Proofs.YtejkimhmpnogkaaDoor
open Go.RowKit

/-- What Expand gives. -/
def XS (key info : List UInt8) (n : Int) : ByteArray := if n < 0 ∨ 8160 < n then ⟨#[]⟩ else ⟨(HK.expand key info n.toNat).toArray⟩
def XE (n : Int) : Int := if n < 0 ∨ 8160 < n then 2 else 0

theorem expand_all (key info : ByteArray) (n : Int) (W : World) (hT : Tab W) (hk : key.size ≤ 68719476736) (hi : info.size ≤ 34359738368) :
    Calls Tryd.prog 25 #[.string key, .string info, .int .i64 n] W fun e w' => e = .returned (.tuple #[.string (XS key.data.toList info.data.toList n), .int .i64 (XE n)]) ∧ Below W.heap.size W w' := by
  unfold XS XE
  split
  · rename_i h; exact expand_no key info n W h
  · rename_i h
    obtain ⟨N, rfl⟩ : ∃ N : Nat, n = (N : Int) := ⟨n.toNat, by omega⟩
    exact expand_yes key info N W hT hk hi (by omega)
theorem RExpand_all (key info : ByteArray) (n : Int) (W : World) (hk : key.size ≤ 68719476736) (hi : info.size ≤ 34359738368) :
    Calls Tryd.prog 26 #[.string key, .string info, .int .i64 n] W fun e w' => e = .returned (.tuple #[.string (XS key.data.toList info.data.toList n), .int .i64 (XE n)]) ∧ Below W.heap.size W w' := by
  unfold XS XE
  split
  · rename_i h
    refine (RExpand_no key info n W h).mono ?_
    rintro e w' ⟨rfl, rfl⟩
    exact ⟨rfl, Below.refl _ _⟩
  · rename_i h
    obtain ⟨N, rfl⟩ : ∃ N : Nat, n = (N : Int) := ⟨n.toNat, by omega⟩
    exact RExpand_yes key info N W hk hi (by omega)

def LS (key label ctx : List UInt8) (n : Int) : ByteArray := if 249 < label.length ∨ 255 < ctx.length then ⟨#[]⟩ else XS key (besideL label ctx n) n
def LE (label ctx : List UInt8) (n : Int) : Int := if 249 < label.length ∨ 255 < ctx.length then 2 else XE n
theorem besideL_size {x label ctx : ByteArray} {n : Int} (h : x.data.toList = besideL label.data.toList ctx.data.toList n) (h1 : label.size ≤ 249) (h2 : ctx.size ≤ 255) : x.size ≤ 34359738368 := by
  have e : x.data.toList.length = x.size := by simp
  have e1 : label.data.toList.length = label.size := by simp
  have e2 : ctx.data.toList.length = ctx.size := by simp
  rw [← e, h, besideL]
  simp only [List.length_append, List.length_cons, List.length_nil, e1, e2]
  omega
theorem label_all (key label ctx : ByteArray) (n : Int) (W : World) (hT : Tab W) (hk : key.size ≤ 68719476736) (h1 : label.size ≤ 140737488351232) (h2 : ctx.size ≤ 140737488351232) :
    Calls Tryd.prog 28 #[.string key, .string label, .string ctx, .int .i64 n] W fun e w' => e = .returned (.tuple #[.string (LS key.data.toList label.data.toList ctx.data.toList n), .int .i64 (LE label.data.toList ctx.data.toList n)]) ∧ Below W.heap.size W w' := by
  have e1 : label.data.toList.length = label.size := by simp
  have e2 : ctx.data.toList.length = ctx.size := by simp
  unfold LS LE
  rw [e1, e2]
  split
  · rename_i h
    refine (label_no key label ctx n W h h1 h2).mono ?_
    rintro e w' ⟨rfl, rfl⟩
    exact ⟨rfl, Below.refl _ _⟩
  · rename_i h
    refine (label_yes key label ctx n (fun x => .tuple #[.string (XS key.data.toList x.data.toList n), .int .i64 (XE n)]) W hT (by omega) (by omega) (fun x w hT hx =>
      (expand_all key x n w hT hk (besideL_size hx (by omega) (by omega))).mono (by rintro e w' ⟨rfl, hb⟩; exact ⟨⟨_, _, rfl, rfl⟩, hb⟩))).mono ?_
    rintro e w' ⟨⟨x, hx, rfl⟩, hb⟩
    exact ⟨by rw [hx], hb⟩

theorem RLabel_all (key label ctx : ByteArray) (n : Int) (W : World) (hk : key.size ≤ 68719476736) (h1 : label.size ≤ 140737488351232) (h2 : ctx.size ≤ 140737488351232) :
    Calls Tryd.prog 29 #[.string key, .string label, .string ctx, .int .i64 n] W fun e w' => e = .returned (.tuple #[.string (LS key.data.toList label.data.toList ctx.data.toList n), .int .i64 (LE label.data.toList ctx.data.toList n)]) ∧ Below W.heap.size W w' := by
  have e1 : label.data.toList.length = label.size := by simp
  have e2 : ctx.data.toList.length = ctx.size := by simp
  unfold LS LE
  rw [e1, e2]
  split
  · rename_i h
    refine (RLabel_no key label ctx n W h h1 h2).mono ?_
    rintro e w' ⟨rfl, rfl⟩
    exact ⟨rfl, Below.refl _ _⟩
  · rename_i h
    refine (RLabel_yes key label ctx n (fun x => .tuple #[.string (XS key.data.toList x.data.toList n), .int .i64 (XE n)]) W (by omega) (by omega) (fun x w hx =>
      (RExpand_all key x n w hk (besideL_size hx (by omega) (by omega))).mono (by rintro e w' ⟨rfl, hb⟩; exact ⟨⟨_, _, rfl, rfl⟩, hb⟩))).mono ?_
    rintro e w' ⟨⟨x, hx, rfl⟩, hb⟩
    exact ⟨by rw [hx], hb⟩

end Go.Proofs.YtejkimhmpnogkaaDoor

namespace Go.Proofs.YtejkimhmpnogkaaDoor
open Go.RowKit

theorem bes_key : besideL [107, 101, 121] [] 16 = [0, 16, 9, 116, 108, 115, 49, 51, 32, 107, 101, 121, 0] := by decide +kernel

set_option maxHeartbeats 2000000 in
theorem hk_alive (W : World) (hT : Tab W) : Calls Tryd.prog 24 #[] W fun e w' => e = .returned (.bool true) ∧ Below W.heap.size W w' := by
  have h1 := label_all ⟨#[107]⟩ ⟨#[107, 101, 121]⟩ ⟨#[]⟩ 16 W hT (by decide) (by decide) (by decide)
  have e1 : LS (⟨#[107]⟩ : ByteArray).data.toList (⟨#[107, 101, 121]⟩ : ByteArray).data.toList (⟨#[]⟩ : ByteArray).data.toList 16 = XS [107] [0, 16, 9, 116, 108, 115, 49, 51, 32, 107, 101, 121, 0] 16 := by
    rw [← bes_key]; rfl
  rw [e1] at h1
  obtain ⟨X, hX⟩ : ∃ X, XS [107] [0, 16, 9, 116, 108, 115, 49, 51, 32, 107, 101, 121, 0] 16 = X := ⟨_, rfl⟩
  have hXs : X.size = 16 := by
    rw [← hX]; show (HK.expand _ _ _).toArray.size = 16; simp [HK.expand_length]
  rw [hX] at h1
  have e2 : LE (⟨#[107, 101, 121]⟩ : ByteArray).data.toList (⟨#[]⟩ : ByteArray).data.toList 16 = 0 := rfl
  rw [e2] at h1
  have HX := hid hX
  have HT := hid hT
  clear hX hT e1 e2
  go_enter Tryd.func24, Tryd.ntmps24
  go_wp2_with fail
  refine h1.mono ?_
  rintro e w1 ⟨rfl, hb1⟩
  have T1 := hid (HT.out.keep hb1)
  have B1 := hid hb1
  clear h1 hb1
  have h2 := expand_all ⟨#[107]⟩ ⟨#[0, 16, 9, 116, 108, 115, 49, 51, 32, 107, 101, 121, 0]⟩ 16 w1 T1.out (by decide) (by decide)
  rw [show XS (⟨#[107]⟩ : ByteArray).data.toList (⟨#[0, 16, 9, 116, 108, 115, 49, 51, 32, 107, 101, 121, 0]⟩ : ByteArray).data.toList 16 = X from HX.out, show XE 16 = 0 from rfl] at h2
  go_wp2_with fail
  refine h2.mono ?_
  rintro e w2 ⟨rfl, hb2⟩
  have T2 := hid (T1.out.keep hb2)
  have B2 := hid (below_to B1.out hb2)
  clear h2 hb2
  have h3 := expand_all ⟨#[107]⟩ ⟨#[105]⟩ 8161 w2 T2.out (by decide) (by decide)
  rw [show XS (⟨#[107]⟩ : ByteArray).data.toList (⟨#[105]⟩ : ByteArray).data.toList 8161 = ⟨#[]⟩ from rfl, show XE 8161 = 2 from rfl] at h3
  go_wp2_with fail
  refine h3.mono ?_
  rintro e w3 ⟨rfl, hb3⟩
  have T3 := hid (T2.out.keep hb3)
  have B3 := hid (below_to B2.out hb3)
  clear h3 hb3
  have h4 := hid (extract_any ⟨#[107]⟩ ⟨#[115]⟩ w3 T3.out (by decide) (by decide))
  go_wp2_with fail
  refine h4.out.mono ?_
  rintro e w4 ⟨rfl, hb4⟩
  have B4 := hid (below_to B3.out hb4)
  have h5 := hid (RTag_any ⟨#[107]⟩ ⟨#[115]⟩ w4 (by decide) (by decide))
  clear h4 hb4
  go_wp2_with fail
  refine h5.out.mono ?_
  rintro e w5 ⟨rfl, hb5⟩
  have B5 := hid (below_to B4.out hb5)
  clear h5 hb5
  go_wp2_with fail
  go_ret
  exact ⟨rfl, B5.out⟩

end Go.Proofs.YtejkimhmpnogkaaDoor

namespace Go.Proofs.YtejkimhmpnogkaaDoor
open Go.RowKit

/-- What texts weigh. -/
def lsum (ss : List ByteArray) : Nat := (ss.map fun s => s.size).sum
theorem lsum_snoc (ss : List ByteArray) (s : ByteArray) : lsum (ss ++ [s]) = lsum ss + s.size := by simp [lsum]
theorem lsum_take (ss : List ByteArray) (k : Nat) (h : k < ss.length) : lsum (ss.take (k + 1)) = lsum (ss.take k) + (ss.getD k ByteArray.empty).size := by
  rw [List.take_succ_eq_append_getElem h, lsum_snoc]; simp [h]
theorem lsum_le (ss : List ByteArray) (k : Nat) : lsum (ss.take k) ≤ lsum ss := by
  have : lsum ss = lsum (ss.take k) + lsum (ss.drop k) := by unfold lsum; rw [← List.sum_append, ← List.map_append, List.take_append_drop]
  omega

set_option maxHeartbeats 1000000 in
theorem hsmall_any (ss : List ByteArray) (a : Option Addr) (cap : Nat) (W : World) (hm : ss.length ≤ 9223372036854775807) (hsz : ∀ j, j < ss.length → (ss.getD j ByteArray.empty).size ≤ 140737488351232)
    (ha : ss.length = 0 ∨ ∃ b off, a = some ⟨b, off, none⟩ ∧ ∀ j, j < ss.length → W.cell? ⟨b, off + j, none⟩ = some (.string (ss.getD j ByteArray.empty))) :
    Calls Tryd.prog 23 #[.slice a ss.length cap] W fun e w' => e = .returned (.bool (decide (lsum ss ≤ 2048))) ∧ W = w' := by
  have HA := hid ha
  have HZ := hid hsz
  clear ha hsz
  obtain ⟨len, hlen⟩ : ∃ len, ss.length = len := ⟨_, rfl⟩
  rw [hlen] at hm HA HZ ⊢
  have HL := hid hlen
  clear hlen
  go_enter Tryd.func23, Tryd.ntmps23
  go_wp2_with fail
  go_loop [3, 4] (fun n i => ∃ k : Nat, k ≤ len ∧ i = .int .i64 (k : Int) ∧ n = .int .i64 ((lsum (ss.take k) : Nat) : Int) ∧ lsum (ss.take k) ≤ 140737488355000) (fun _ i => (len - intOf i).toNat)
  case atStart => exact ⟨0, Nat.zero_le _, rfl, rfl, by simp [lsum]⟩
  case round =>
    obtain ⟨k, hk, rfl, rfl, hn⟩ := hrel
    have hle := lsum_le ss k
    by_cases hlt : k < len
    · have hd : decide ((k : Int) < (len : Int)) = true := decide_eq_true (by omega)
      have hst := lsum_take ss k (by rw [HL.out]; exact hlt)
      by_cases hn2 : lsum (ss.take k) ≤ 2048
      · have hd2 : decide (((lsum (ss.take k) : Nat) : Int) ≤ 2048) = true := decide_eq_true (by omega)
        obtain ⟨b, off, rfl, hc⟩ := HA.out.resolve_left (by omega)
        have ck := hc k hlt
        have hsk := HZ.out k hlt
        have hk0 : 0 ≤ (k : Int) := by omega
        have hk1 : (k : Int) < (len : Int) := by omega
        generalize ss.getD k ByteArray.empty = sk at *
        generalize lsum (ss.take k) = n at *
        have HST := hid hst
        clear hst hc hle
        go_wp2_with fail
        go_round
        case rel => exact ⟨k + 1, by omega, by go_num, by rw [HST.out]; go_num, by rw [HST.out]; omega⟩
        case measure => simp [intOf]; omega
      · have hd2 : decide (((lsum (ss.take k) : Nat) : Int) ≤ 2048) = false := decide_eq_false (by omega)
        have hfin : decide (lsum ss ≤ 2048) = false := decide_eq_false (by omega)
        have HF := hid hfin
        clear hst hle hfin
        generalize lsum (ss.take k) = n at *
        go_wp2_with fail
        go_ret
        exact ⟨by rw [HF.out]; rfl, rfl⟩
    · have hd : decide ((k : Int) < (len : Int)) = false := decide_eq_false (by omega)
      have hkl : k = len := by omega
      have hta : ss.take k = ss := by rw [hkl, ← HL.out, List.take_length]
      rw [hta]
      by_cases hn2 : lsum ss ≤ 2048
      · have hd2 : decide (((lsum ss : Nat) : Int) ≤ 2048) = true := decide_eq_true (by omega)
        have hfin : decide (lsum ss ≤ 2048) = true := decide_eq_true hn2
        clear hle hta hn
        obtain ⟨n, hn⟩ : ∃ n, lsum ss = n := ⟨_, rfl⟩
        rw [hn] at hn2 hd2 hfin ⊢
        have HN := hid hn
        have HF := hid hfin
        clear hn hfin
        go_wp2_with fail
        go_ret
        exact ⟨by rw [HN.out, HF.out]; rfl, rfl⟩
      · have hd2 : decide (((lsum ss : Nat) : Int) ≤ 2048) = false := decide_eq_false (by omega)
        have hfin : decide (lsum ss ≤ 2048) = false := decide_eq_false hn2
        clear hle hta hn
        obtain ⟨n, hn⟩ : ∃ n, lsum ss = n := ⟨_, rfl⟩
        rw [hn] at hn2 hd2 hfin ⊢
        have HN := hid hn
        have HF := hid hfin
        clear hn hfin
        go_wp2_with fail
        go_ret
        exact ⟨by rw [HN.out, HF.out]; rfl, rfl⟩

theorem hsmall_two (s t : ByteArray) (b : Nat) (W : World) (hs : s.size ≤ 140737488351232) (ht : t.size ≤ 140737488351232) (hc : W.cell? ⟨b, 0, none⟩ = some (.string s)) (hd : W.cell? ⟨b, 1, none⟩ = some (.string t)) :
    Calls Tryd.prog 23 #[.slice (some ⟨b, 0, none⟩) 2 2] W fun e w' => e = .returned (.bool (decide (s.size + t.size ≤ 2048))) ∧ W = w' := by
  have h := hsmall_any [s, t] (some ⟨b, 0, none⟩) 2 W (by simp) (fun j hj => by
    match j, hj with
    | 0, _ => exact hs
    | 1, _ => exact ht) (.inr ⟨b, 0, rfl, fun j hj => by
    match j, hj with
    | 0, _ => exact hc
    | 1, _ => exact hd⟩)
  have e : lsum [s, t] = s.size + t.size := by simp [lsum]
  rw [e] at h
  exact h
theorem hsmall_three (s t u : ByteArray) (b : Nat) (W : World) (hs : s.size ≤ 140737488351232) (ht : t.size ≤ 140737488351232) (hu : u.size ≤ 140737488351232) (hc : W.cell? ⟨b, 0, none⟩ = some (.string s)) (hd : W.cell? ⟨b, 1, none⟩ = some (.string t)) (he : W.cell? ⟨b, 2, none⟩ = some (.string u)) :
    Calls Tryd.prog 23 #[.slice (some ⟨b, 0, none⟩) 3 3] W fun e w' => e = .returned (.bool (decide (s.size + t.size + u.size ≤ 2048))) ∧ W = w' := by
  have h := hsmall_any [s, t, u] (some ⟨b, 0, none⟩) 3 W (by simp) (fun j hj => by
    match j, hj with
    | 0, _ => exact hs
    | 1, _ => exact ht
    | 2, _ => exact hu) (.inr ⟨b, 0, rfl, fun j hj => by
    match j, hj with
    | 0, _ => exact hc
    | 1, _ => exact hd
    | 2, _ => exact he⟩)
  have e : lsum [s, t, u] = s.size + t.size + u.size := by simp [lsum]; omega
  rw [e] at h
  exact h

end Go.Proofs.YtejkimhmpnogkaaDoor

namespace Go.Proofs.YtejkimhmpnogkaaDoor
open Go.RowKit

set_option maxRecDepth 100000 in
set_option maxHeartbeats 2000000 in
theorem keys_any (key info : ByteArray) (n : Int) (W : World) (hT : Tab W) (hk : key.size ≤ 140737488351232) (hs : info.size ≤ 140737488351232) : Calls Tryd.prog 7 #[.string key, .string info, .int .i64 n] W fun e w' => e = .returned (.bool true) ∧ Below W.heap.size W w' := by
  have T1 := hid (hT.keep (below_new (w := W) (.cells #[.string key, .string info] 9)))
  have B1 := hid (below_new (w := W) (.cells #[.string key, .string info] 9))
  have hsm := hsmall_two key info W.heap.size _ hk hs (cell_at (alloc_at W (.cells #[.string key, .string info] 9)) 0) (cell_at (alloc_at W (.cells #[.string key, .string info] 9)) 1)
  clear hT
  by_cases hc : key.size + info.size ≤ 2048
  · rw [decide_eq_true hc] at hsm
    have HSM := hid hsm
    clear hsm
    by_cases hn : n > 512
    · have d0 : decide (n > 512) = true := decide_eq_true hn
      by_cases hn2 : n ≤ 8160
      · have d1 : decide (n ≤ 8160) = true := decide_eq_true hn2
        go_enter Tryd.func7, Tryd.ntmps7
        go_wp2_with fail
        refine HSM.out.mono ?_
        rintro e w' ⟨rfl, rfl⟩
        go_wp2_with fail
        refine (hk_alive _ T1.out).mono ?_
        rintro e w4 ⟨rfl, hb4⟩
        go_wp2_with fail
        go_ret
        exact ⟨rfl, below_to B1.out hb4⟩
      · have d1 : decide (n ≤ 8160) = false := decide_eq_false hn2
        have e1 : XS key.data.toList info.data.toList n = ByteArray.empty := by unfold XS; rw [if_pos (.inr (by omega))]; rfl
        have e2 : XE n = 2 := by unfold XE; rw [if_pos (.inr (by omega))]
        go_enter Tryd.func7, Tryd.ntmps7
        go_wp2_with fail
        refine HSM.out.mono ?_
        rintro e w' ⟨rfl, rfl⟩
        go_wp2_with fail
        obtain ⟨w0, hw0⟩ : ∃ w0, W.alloc (.cells #[.string key, .string info] 9) = w0 := ⟨_, rfl⟩
        rw [hw0] at T1 B1 ⊢
        clear hw0
        have H2 := hid (expand_all key info n w0 T1.out (by omega) (by omega))
        go_wp2_with fail
        refine H2.out.mono ?_
        rintro e w2 ⟨rfl, hb2⟩
        have T2 := hid (T1.out.keep hb2)
        have B2 := hid (below_to B1.out hb2)
        clear hb2 H2 T1 B1
        have H3 := hid (RExpand_all key info n w2 (by omega) (by omega))
        go_wp2_with fail
        refine H3.out.mono ?_
        rintro e w3 ⟨rfl, hb3⟩
        have T3 := hid (T2.out.keep hb3)
        have B3 := hid (below_to B2.out hb3)
        clear hb3 H3 T2 B2
        have H4 := hid (extract_any key info w3 T3.out (by omega) (by omega))
        go_wp2_with fail
        refine H4.out.mono ?_
        rintro e w4 ⟨rfl, hb4⟩
        have T4 := hid (T3.out.keep hb4)
        have B4 := hid (below_to B3.out hb4)
        clear hb4 H4 T3 B3
        have H5 := hid (RTag_any key info w4 (by omega) (by omega))
        go_wp2_with fail
        refine H5.out.mono ?_
        rintro e w5 ⟨rfl, hb5⟩
        have T5 := hid (T4.out.keep hb5)
        have B5 := hid (below_to B4.out hb5)
        clear hb5 H5 T4 B4
        go_wp2_with fail
        refine (hk_alive _ T5.out).mono ?_
        rintro e w6 ⟨rfl, hb6⟩
        go_wp2_with fail
        go_ret
        exact ⟨rfl, below_to B5.out hb6⟩
    · have d0 : decide (n > 512) = false := decide_eq_false hn
      obtain ⟨X, hX⟩ : ∃ X, XS key.data.toList info.data.toList n = X := ⟨_, rfl⟩
      obtain ⟨E, hE⟩ : ∃ E, XE n = E := ⟨_, rfl⟩
      go_enter Tryd.func7, Tryd.ntmps7
      go_wp2_with fail
      refine HSM.out.mono ?_
      rintro e w' ⟨rfl, rfl⟩
      go_wp2_with fail
      obtain ⟨w0, hw0⟩ : ∃ w0, W.alloc (.cells #[.string key, .string info] 9) = w0 := ⟨_, rfl⟩
      rw [hw0] at T1 B1 ⊢
      clear hw0
      have H2 := hid (expand_all key info n w0 T1.out (by omega) (by omega))
      go_wp2_with fail
      refine H2.out.mono ?_
      rintro e w2 ⟨rfl, hb2⟩
      have T2 := hid (T1.out.keep hb2)
      have B2 := hid (below_to B1.out hb2)
      clear hb2 H2 T1 B1
      have H3 := hid (RExpand_all key info n w2 (by omega) (by omega))
      go_wp2_with fail
      refine H3.out.mono ?_
      rintro e w3 ⟨rfl, hb3⟩
      have T3 := hid (T2.out.keep hb3)
      have B3 := hid (below_to B2.out hb3)
      clear hb3 H3 T2 B2
      have H4 := hid (extract_any key info w3 T3.out (by omega) (by omega))
      go_wp2_with fail
      refine H4.out.mono ?_
      rintro e w4 ⟨rfl, hb4⟩
      have T4 := hid (T3.out.keep hb4)
      have B4 := hid (below_to B3.out hb4)
      clear hb4 H4 T3 B3
      have H5 := hid (RTag_any key info w4 (by omega) (by omega))
      go_wp2_with fail
      refine H5.out.mono ?_
      rintro e w5 ⟨rfl, hb5⟩
      have T5 := hid (T4.out.keep hb5)
      have B5 := hid (below_to B4.out hb5)
      clear hb5 H5 T4 B4
      go_wp2_with fail
      refine (hk_alive _ T5.out).mono ?_
      rintro e w6 ⟨rfl, hb6⟩
      go_wp2_with fail
      go_ret
      exact ⟨rfl, below_to B5.out hb6⟩
  · rw [decide_eq_false hc] at hsm
    have HSM := hid hsm
    clear hsm
    go_enter Tryd.func7, Tryd.ntmps7
    go_wp2_with fail
    refine HSM.out.mono ?_
    rintro e w' ⟨rfl, rfl⟩
    go_wp2_with fail
    refine (hk_alive _ T1.out).mono ?_
    rintro e w4 ⟨rfl, hb4⟩
    go_wp2_with fail
    go_ret
    exact ⟨rfl, below_to B1.out hb4⟩

end Go.Proofs.YtejkimhmpnogkaaDoor

namespace Go.Proofs.YtejkimhmpnogkaaDoor
open Go.RowKit

set_option maxRecDepth 100000 in
set_option maxHeartbeats 2000000 in
theorem labels_any (key label ctx : ByteArray) (n : Int) (W : World) (hT : Tab W) (hk : key.size ≤ 140737488351232) (hs : label.size ≤ 140737488351232) (hs2 : ctx.size ≤ 140737488351232) : Calls Tryd.prog 8 #[.string key, .string label, .string ctx, .int .i64 n] W fun e w' => e = .returned (.bool true) ∧ Below W.heap.size W w' := by
  have T1 := hid (hT.keep (below_new (w := W) (.cells #[.string key, .string label, .string ctx] 9)))
  have B1 := hid (below_new (w := W) (.cells #[.string key, .string label, .string ctx] 9))
  have hsm := hsmall_three key label ctx W.heap.size _ hk hs hs2 (cell_at (alloc_at W (.cells #[.string key, .string label, .string ctx] 9)) 0) (cell_at (alloc_at W (.cells #[.string key, .string label, .string ctx] 9)) 1) (cell_at (alloc_at W (.cells #[.string key, .string label, .string ctx] 9)) 2)
  clear hT
  by_cases hc : key.size + label.size + ctx.size ≤ 2048
  · rw [decide_eq_true hc] at hsm
    have HSM := hid hsm
    clear hsm
    by_cases hn : n > 512
    · have d0 : decide (n > 512) = true := decide_eq_true hn
      by_cases hn2 : n ≤ 8160
      · have d1 : decide (n ≤ 8160) = true := decide_eq_true hn2
        go_enter Tryd.func8, Tryd.ntmps8
        go_wp2_with fail
        refine HSM.out.mono ?_
        rintro e w' ⟨rfl, rfl⟩
        go_wp2_with fail
        refine (hk_alive _ T1.out).mono ?_
        rintro e w4 ⟨rfl, hb4⟩
        go_wp2_with fail
        go_ret
        exact ⟨rfl, below_to B1.out hb4⟩
      · have d1 : decide (n ≤ 8160) = false := decide_eq_false hn2
        obtain ⟨X, hX⟩ : ∃ X, LS key.data.toList label.data.toList ctx.data.toList n = X := ⟨_, rfl⟩
        obtain ⟨E, hE⟩ : ∃ E, LE label.data.toList ctx.data.toList n = E := ⟨_, rfl⟩
        go_enter Tryd.func8, Tryd.ntmps8
        go_wp2_with fail
        refine HSM.out.mono ?_
        rintro e w' ⟨rfl, rfl⟩
        go_wp2_with fail
        obtain ⟨w0, hw0⟩ : ∃ w0, W.alloc (.cells #[.string key, .string label, .string ctx] 9) = w0 := ⟨_, rfl⟩
        rw [hw0] at T1 B1 ⊢
        clear hw0
        have H2 := hid (label_all key label ctx n w0 T1.out (by omega) (by omega) (by omega))
        go_wp2_with fail
        refine H2.out.mono ?_
        rintro e w2 ⟨rfl, hb2⟩
        have T2 := hid (T1.out.keep hb2)
        have B2 := hid (below_to B1.out hb2)
        clear hb2 H2 T1 B1
        have H3 := hid (RLabel_all key label ctx n w2 (by omega) (by omega) (by omega))
        go_wp2_with fail
        refine H3.out.mono ?_
        rintro e w3 ⟨rfl, hb3⟩
        have T3 := hid (T2.out.keep hb3)
        have B3 := hid (below_to B2.out hb3)
        clear hb3 H3 T2 B2
        go_wp2_with fail
        refine (hk_alive _ T3.out).mono ?_
        rintro e w6 ⟨rfl, hb6⟩
        go_wp2_with fail
        go_ret
        exact ⟨rfl, below_to B3.out hb6⟩
    · have d0 : decide (n > 512) = false := decide_eq_false hn
      obtain ⟨X, hX⟩ : ∃ X, LS key.data.toList label.data.toList ctx.data.toList n = X := ⟨_, rfl⟩
      obtain ⟨E, hE⟩ : ∃ E, LE label.data.toList ctx.data.toList n = E := ⟨_, rfl⟩
      go_enter Tryd.func8, Tryd.ntmps8
      go_wp2_with fail
      refine HSM.out.mono ?_
      rintro e w' ⟨rfl, rfl⟩
      go_wp2_with fail
      obtain ⟨w0, hw0⟩ : ∃ w0, W.alloc (.cells #[.string key, .string label, .string ctx] 9) = w0 := ⟨_, rfl⟩
      rw [hw0] at T1 B1 ⊢
      clear hw0
      have H2 := hid (label_all key label ctx n w0 T1.out (by omega) (by omega) (by omega))
      go_wp2_with fail
      refine H2.out.mono ?_
      rintro e w2 ⟨rfl, hb2⟩
      have T2 := hid (T1.out.keep hb2)
      have B2 := hid (below_to B1.out hb2)
      clear hb2 H2 T1 B1
      have H3 := hid (RLabel_all key label ctx n w2 (by omega) (by omega) (by omega))
      go_wp2_with fail
      refine H3.out.mono ?_
      rintro e w3 ⟨rfl, hb3⟩
      have T3 := hid (T2.out.keep hb3)
      have B3 := hid (below_to B2.out hb3)
      clear hb3 H3 T2 B2
      go_wp2_with fail
      refine (hk_alive _ T3.out).mono ?_
      rintro e w6 ⟨rfl, hb6⟩
      go_wp2_with fail
      go_ret
      exact ⟨rfl, below_to B3.out hb6⟩
  · rw [decide_eq_false hc] at hsm
    have HSM := hid hsm
    clear hsm
    go_enter Tryd.func8, Tryd.ntmps8
    go_wp2_with fail
    refine HSM.out.mono ?_
    rintro e w' ⟨rfl, rfl⟩
    go_wp2_with fail
    refine (hk_alive _ T1.out).mono ?_
    rintro e w4 ⟨rfl, hb4⟩
    go_wp2_with fail
    go_ret
    exact ⟨rfl, below_to B1.out hb4⟩

end Go.Proofs.YtejkimhmpnogkaaDoor

namespace Go.Proofs.YtejkimhmpnogkaaDoor
open Go.RowKit

theorem XS_size (key info : List UInt8) (n : Nat) (h : n ≤ 8160) : (XS key info (n : Int)).size = n := by
  unfold XS
  rw [if_neg (by omega)]
  show (HK.expand key info _).toArray.size = _
  rw [List.size_toArray, HK.expand_length]
  omega
theorem XS_take (key info : List UInt8) (n m : Nat) (h : m ≤ 8160) (hnm : n ≤ m) : (XS key info (m : Int)).extract 0 n = XS key info (n : Int) := by
  unfold XS
  rw [if_neg (by omega), if_neg (by omega)]
  apply ByteArray.ext
  rw [ByteArray.data_extract, List.extract_toArray]
  show _ = (HK.expand key info _).toArray
  simp only [List.extract, List.drop_zero]
  have := HK.expand_take key info hnm
  simpa using this
theorem XE_in (n : Nat) (h : n ≤ 8160) : XE (n : Int) = 0 := by unfold XE; rw [if_neg (by omega)]

set_option maxRecDepth 100000 in
set_option maxHeartbeats 2000000 in
theorem begins_any (key info : ByteArray) (n m : Nat) (hn : n ≤ 255) (hm : m ≤ 255) (W : World) (hT : Tab W) (hk : key.size ≤ 140737488351232) (hs : info.size ≤ 140737488351232) : Calls Tryd.prog 9 #[.string key, .string info, .int .u8 n, .int .u8 m] W fun e w' => e = .returned (.bool true) ∧ Below W.heap.size W w' := by
  have T1 := hid (hT.keep (below_new (w := W) (.cells #[.string key, .string info] 9)))
  have B1 := hid (below_new (w := W) (.cells #[.string key, .string info] 9))
  have hsm := hsmall_two key info W.heap.size _ hk hs (cell_at (alloc_at W (.cells #[.string key, .string info] 9)) 0) (cell_at (alloc_at W (.cells #[.string key, .string info] 9)) 1)
  clear hT
  by_cases hc : key.size + info.size ≤ 2048
  · rw [decide_eq_true hc] at hsm
    have HSM := hid hsm
    clear hsm
    have e1 := XS_size key.data.toList info.data.toList n (by omega)
    have e2 := XS_size key.data.toList info.data.toList (n + m) (by omega)
    have e3 := XS_take key.data.toList info.data.toList n (n + m) (by omega) (by omega)
    have f1 := XE_in n (by omega)
    have f2 := XE_in (n + m) (by omega)
    have en : ((n + m : Nat) : Int) = (n : Int) + (m : Int) := by omega
    rw [en] at e2 e3 f2
    have H2 := fun w T => expand_all key info (n : Int) w T (by omega) (by omega)
    have H3 := fun w T => expand_all key info ((n : Int) + (m : Int)) w T (by omega) (by omega)
    rw [f1] at H2
    rw [f2] at H3
    obtain ⟨X, hX⟩ : ∃ X, XS key.data.toList info.data.toList (n : Int) = X := ⟨_, rfl⟩
    obtain ⟨Y, hY⟩ : ∃ Y, XS key.data.toList info.data.toList ((n : Int) + (m : Int)) = Y := ⟨_, rfl⟩
    rw [hX] at e1 e3 H2
    rw [hY] at e2 e3 H3
    have G2 := hid H2
    have G3 := hid H3
    have E3 := hid e3
    clear H2 H3 hX hY f1 f2 e3
    go_enter Tryd.func9, Tryd.ntmps9
    go_wp2_with fail
    refine HSM.out.mono ?_
    rintro e w' ⟨rfl, rfl⟩
    go_wp2_with fail
    refine (G2.out _ T1.out).mono ?_
    rintro e w2 ⟨rfl, hb2⟩
    have T2 := hid (T1.out.keep hb2)
    have B2 := hid (below_to B1.out hb2)
    clear hb2 T1 B1
    go_wp2_with fail
    refine (G3.out _ T2.out).mono ?_
    rintro e w3 ⟨rfl, hb3⟩
    have T3 := hid (T2.out.keep hb3)
    have B3 := hid (below_to B2.out hb3)
    clear hb3 T2 B2
    go_wp2_with fail
    rotate_left
    · rename_i hne
      exact absurd (congrArg ByteArray.toList E3.out) hne
    refine (hk_alive _ T3.out).mono ?_
    rintro e w6 ⟨rfl, hb6⟩
    go_wp2_with fail
    go_ret
    exact ⟨rfl, below_to B3.out hb6⟩
  · rw [decide_eq_false hc] at hsm
    have HSM := hid hsm
    clear hsm
    go_enter Tryd.func9, Tryd.ntmps9
    go_wp2_with fail
    refine HSM.out.mono ?_
    rintro e w' ⟨rfl, rfl⟩
    go_wp2_with fail
    refine (hk_alive _ T1.out).mono ?_
    rintro e w4 ⟨rfl, hb4⟩
    go_wp2_with fail
    go_ret
    exact ⟨rfl, below_to B1.out hb4⟩

end Go.Proofs.YtejkimhmpnogkaaDoor
