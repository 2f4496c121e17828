/- The walks of a segment's length and of its options. -/
import Derived.Test.YtidkbphdihlbaaaSegW1
import Derived.Lib.MinMax
import Derived.WalkMore
namespace Go.Proofs.Ytidkbphdihlbaaa
open Go.RowKit SG

def sgv (g : Sg) : Array Value := #[.int .u16 (g.src : Int), .int .u16 (g.dst : Int), .int .u32 (g.seq : Int), .int .u32 (g.ack : Int), .int .u8 (g.flags : Int), .int .u16 (g.wnd : Int), .int .u16 (g.mss : Int), .bool g.has, .int .u8 (g.scale : Int), .string (bs g.data)]
def lenOf (g : Sg) : Nat := g.data.length + g.flags / 2 % 2 + g.flags % 2

set_option maxHeartbeats 1000000 in
theorem len_any (g : Sg) (W : World) (hf : g.flags < 256) (hl : g.data.length ≤ 1073741824) :
    Calls Try.prog 9 #[.agg (sgv g)] W fun e w' => e = .returned (.int .u32 (lenOf g : Int)) ∧ Below W.heap.size W w' := by
  have a1 : bits .and .u8 ((g.flags : Int) / 2) 1 = ((g.flags / 2 % 2 : Nat) : Int) := by
    have h := u8_and_nat (g.flags / 2) 1 (by omega) (by omega)
    rw [show (1 : Nat) = 2 ^ 1 - 1 from rfl, Nat.and_two_pow_sub_one_eq_mod] at h
    exact h
  have a2 : bits .and .u8 (g.flags : Int) 1 = ((g.flags % 2 : Nat) : Int) := by
    have h := u8_and_nat g.flags 1 (by omega) (by omega)
    rw [show (1 : Nat) = 2 ^ 1 - 1 from rfl, Nat.and_two_pow_sub_one_eq_mod] at h
    exact h
  have hlo : lenOf g = g.data.length + g.flags / 2 % 2 + g.flags % 2 := rfl
  obtain ⟨src, dst, seq, ack, flags, wnd, mss, has, scale, data⟩ := g
  simp only [] at a1 a2 hlo hf hl
  obtain ⟨f1, hf1⟩ : ∃ f1, flags / 2 % 2 = f1 := ⟨_, rfl⟩
  obtain ⟨f2, hf2⟩ : ∃ f2, flags % 2 = f2 := ⟨_, rfl⟩
  rw [hf1] at a1 hlo
  rw [hf2] at a2 hlo
  have b1 : f1 < 2 := by omega
  have b2 : f2 < 2 := by omega
  have HLO := hid hlo
  clear hlo hf1 hf2
  unfold sgv
  go_enter Try.func9, Try.ntmps9
  go_wp2_with fail
  go_ret
  exact ⟨by rw [HLO.out]; first | done | rfl, below_new _⟩

@[go_sem] theorem bs_extract (l : List UInt8) (a b : Nat) : (bs l).extract a b = bs ((l.drop a).take (b - a)) := by
  apply ByteArray.ext
  rw [ByteArray.data_extract]
  show l.toArray.extract a b = ((l.drop a).take (b - a)).toArray
  rw [List.extract_toArray, List.extract_eq_take_drop]
def orow (o : O) : Array Value := #[.int .u16 (o.mss : Int), .bool o.has, .int .u8 (o.scale : Int)]

set_option maxHeartbeats 1000000 in
theorem one_any (o : O) (s : List UInt8) (ob : Nat) (T : TypeId) (W : World) (h2 : 2 ≤ s.length) (hl : s.length ≤ 255) (hO : W.heap[ob]? = some (.cells (orow o) T (0, 0))) :
    Calls Try.prog 18 #[.pointer (some ⟨ob, 0, none⟩), .string (bs s)] W fun e w' => Only ob W w' ∧ (match o.one s with
      | none => e = .returned (.bool false)
      | some o' => e = .returned (.bool true) ∧ w'.heap[ob]? = some (.cells (orow o') T (0, 0))) := by
  have HO := hid hO
  obtain ⟨c, hc⟩ : ∃ c, at8 s 0 = c := ⟨_, rfl⟩
  have hone : o.one s = if c = 2 then (if s.length = 4 then some { o with mss := SG.val (s.drop 2) } else none) else if c = 3 then (if s.length = 3 then some { o with has := true, scale := min (at8 s 2).toNat 14 } else none) else some o := by rw [← hc]; rfl
  rw [hone]
  have hbz : (bs s).size = s.length := rfl
  have h0 : (0 : Int) < (s.length : Int) := by omega
  obtain ⟨n, hn⟩ : ∃ n, c.toNat = n := ⟨_, rfl⟩
  have hlen := hid h2
  clear hO hone
  by_cases e2 : c = 2
  · rw [if_pos e2]
    have d2 : ((c.toNat : Int) == 2) = true := by rw [e2]; rfl
    by_cases e4 : s.length = 4
    · rw [if_pos e4]
      go_enter Try.func18, Try.ntmps18
      go_wp2_with fail
      have hd : (s.drop 2).take 2 = s.drop 2 := List.take_of_length_le (by rw [List.length_drop]; omega)
      rw [hd]
      refine (value_any _ _ (by rw [List.length_drop]; omega)).mono ?_
      rintro e w1 ⟨rfl, rfl⟩
      have hv := SG.val_lt (s.drop 2)
      rw [List.length_drop, e4] at hv
      have hw : IntKind.u16.wrap (SG.val (s.drop 2) : Int) = (SG.val (s.drop 2) : Int) := IntWalk.u16_in _ (by omega)
      have c0 := cell_at HO.out 0
      have hf := free_at HO.out
      unfold orow at c0
      simp only [List.getElem?_toArray, List.getElem?_cons_zero] at c0
      go_wp2_with fail
      go_ret
      exact ⟨(Only.refl ob W).setCell (.inl rfl) _, rfl, at_setCell HO.out 0 _⟩
    · rw [if_neg e4]
      have d4 : ((s.length : Int) == 4) = false := by rw [beq_eq_false_iff_ne]; omega
      go_enter Try.func18, Try.ntmps18
      go_wp2_with fail
      go_ret
      exact ⟨Only.refl _ _, rfl⟩
  · rw [if_neg e2]
    have d2 : ((c.toNat : Int) == 2) = false := by rw [beq_eq_false_iff_ne]; intro h; exact e2 (UInt8.toNat_inj.1 (by simp; omega))
    by_cases e3 : c = 3
    · rw [if_pos e3]
      have d3 : ((c.toNat : Int) == 3) = true := by rw [e3]; rfl
      by_cases e4 : s.length = 3
      · rw [if_pos e4]
        go_enter Try.func18, Try.ntmps18
        go_wp2_with fail
        have c0 := cell_at HO.out 0
        have c1 := cell_at HO.out 1
        have c2 := cell_at HO.out 2
        have hf := free_at HO.out
        unfold orow at c0 c1 c2
        simp only [List.getElem?_toArray, List.getElem?_cons_zero, List.getElem?_cons_succ] at c0 c1 c2
        have h2' : (2 : Int) < (s.length : Int) := by omega
        obtain ⟨d, hd⟩ : ∃ d, at8 s 2 = d := ⟨_, rfl⟩
        have HD := hid hd
        have hm : min ((d.toNat : Nat) : Int) 14 = ((min d.toNat 14 : Nat) : Int) := by omega
        go_region
        go_wp2_with fail
        go_ret
        refine ⟨(((Only.refl ob W).setCell (p := ⟨ob, 1, none⟩) (.inl rfl) _).setCell (p := ⟨ob, 2, none⟩) (.inl rfl) _).drew, rfl, ?_⟩
        rw [HD.out]
        exact at_setCell (at_setCell HO.out 1 _) 2 _
      · rw [if_neg e4]
        have d4 : ((s.length : Int) == 3) = false := by rw [beq_eq_false_iff_ne]; omega
        go_enter Try.func18, Try.ntmps18
        go_wp2_with fail
        go_ret
        exact ⟨Only.refl _ _, rfl⟩
    · rw [if_neg e3]
      have d3 : ((c.toNat : Int) == 3) = false := by rw [beq_eq_false_iff_ne]; intro h; exact e3 (UInt8.toNat_inj.1 (by simp; omega))
      go_enter Try.func18, Try.ntmps18
      go_wp2_with fail
      go_ret
      exact ⟨Only.refl _ _, rfl, HO.out⟩

theorem toList_loop (l : List UInt8) : ∀ (m i : Nat) (acc : List UInt8), l.length - i = m → ByteArray.toList.loop (bs l) i acc = acc.reverse ++ l.drop i := by
  intro m
  induction m with
  | zero =>
    intro i acc h
    rw [ByteArray.toList.loop, if_neg (by show ¬ i < l.length; omega), List.drop_of_length_le (by omega), List.append_nil]
  | succ m ih =>
    intro i acc h
    have hi : i < l.length := by omega
    rw [ByteArray.toList.loop, if_pos (by show i < l.length; omega), ih _ _ (by omega), List.drop_eq_getElem_cons hi]
    have hg : (bs l).get! i = l[i] := by
      show l.toArray[i]! = _
      simp [hi]
    rw [hg]; simp
theorem bs_toList (l : List UInt8) : (bs l).toList = l := by
  show ByteArray.toList.loop (bs l) 0 [] = l
  rw [toList_loop l _ 0 [] rfl]; simp
def strLen : Value → Nat
  | .string b => b.size
  | _ => 0
theorem readO_step (r : List UInt8) (o o' : O) (h0 : r.length ≠ 0) (hc0 : at8 r 0 ≠ 0) (hc1 : at8 r 0 ≠ 1) (hb : ¬ (r.length < 2 ∨ at8 r 1 < 2 ∨ r.length < (at8 r 1).toNat)) (ho : o.one (r.take (at8 r 1).toNat) = some o') : readO r o = readO (r.drop (at8 r 1).toNat) o' := by
  rw [readO, if_neg h0, if_neg (show ¬ r.getD 0 0 = 0 from hc0), if_neg (show ¬ r.getD 0 0 = 1 from hc1), if_neg (show ¬ (r.length < 2 ∨ r.getD 1 0 < 2 ∨ r.length < (r.getD 1 0).toNat) from hb)]
  simp only [show r.getD 1 0 = at8 r 1 from rfl, ho]
theorem readO_fail (r : List UInt8) (o : O) (h0 : r.length ≠ 0) (hc0 : at8 r 0 ≠ 0) (hc1 : at8 r 0 ≠ 1) (hb : (r.length < 2 ∨ at8 r 1 < 2 ∨ r.length < (at8 r 1).toNat) ∨ o.one (r.take (at8 r 1).toNat) = none) : readO r o = none := by
  rw [readO, if_neg h0, if_neg (show ¬ r.getD 0 0 = 0 from hc0), if_neg (show ¬ r.getD 0 0 = 1 from hc1)]
  by_cases h : r.length < 2 ∨ at8 r 1 < 2 ∨ r.length < (at8 r 1).toNat
  · rw [if_pos (show r.length < 2 ∨ r.getD 1 0 < 2 ∨ r.length < (r.getD 1 0).toNat from h)]
  · rw [if_neg (show ¬ (r.length < 2 ∨ r.getD 1 0 < 2 ∨ r.length < (r.getD 1 0).toNat) from h)]
    simp only [show r.getD 1 0 = at8 r 1 from rfl, hb.resolve_left h]

set_option maxHeartbeats 2000000 in
theorem read_any (o : O) (l : List UInt8) (ob : Nat) (T : TypeId) (W : World) (hl : l.length ≤ 255) (hO : W.heap[ob]? = some (.cells (orow o) T (0, 0))) :
    Calls Try.prog 13 #[.pointer (some ⟨ob, 0, none⟩), .string (bs l)] W fun e w' => Only ob W w' ∧ (match readO l o with
      | none => e = .returned (.int .i64 8)
      | some o' => e = .returned (.int .i64 0) ∧ w'.heap[ob]? = some (.cells (orow o') T (0, 0))) := by
  have HO := hid hO
  clear hO
  go_enter Try.func13, Try.ntmps13
  go_wp2_with fail
  go_step3
  go_wp2_with fail
  go_step3
  go_wp2_with fail
  go_loopw [1] (fun sv wr => ∃ r o', sv = .string (bs r) ∧ readO l o = readO r o' ∧ r.length ≤ 255 ∧ wr.heap[ob]? = some (.cells (orow o') T (0, 0)) ∧ Only ob W wr) (fun sv _ => strLen sv)
  case atStart => exact ⟨l, o, rfl, rfl, hl, HO.out, Only.refl _ _⟩
  case round =>
    clear HO
    obtain ⟨r, o', rfl, hrd, hrl, rO, ro⟩ := hrel
    have RO := hid rO
    have RN := hid ro
    have RD := hid hrd
    clear rO ro hrd
    by_cases h0 : r.length = 0
    · have hr : r = [] := List.length_eq_zero_iff.1 h0
      subst hr
      have hrn : readO [] o' = some o' := readO_nil o'
      have hne : (bs []).toList.isEmpty = true := by rw [bs_toList]; rfl
      go_wp2_with fail
      rw [Exit.noGoto_ret]
      go_ret
      refine ⟨RN.out, ?_⟩
      rw [RD.out, hrn]
      exact ⟨rfl, RO.out⟩
    · obtain ⟨c, hc⟩ : ∃ c, at8 r 0 = c := ⟨_, rfl⟩
      have hz : (0 : Int) < (r.length : Int) := by omega
      have hne : (bs r).toList.isEmpty = false := by rw [bs_toList]; cases r with | nil => exact absurd rfl h0 | cons _ _ => rfl
      have hbz : (bs r).size = r.length := rfl
      by_cases e0 : c = 0
      · have d0 : ((c.toNat : Int) == 0) = true := by rw [e0]; rfl
        have hrz : readO r o' = some o' := by rw [readO, if_neg h0, if_pos (show r.getD 0 0 = 0 from hc.trans e0)]
        have HRZ := hid hrz
        clear hrz
        go_wp2_with fail
        rw [Exit.noGoto_ret]
        go_ret
        refine ⟨RN.out, ?_⟩
        rw [RD.out, HRZ.out]
        exact ⟨rfl, RO.out⟩
      · have d0 : ((c.toNat : Int) == 0) = false := by rw [beq_eq_false_iff_ne]; intro h; exact e0 (UInt8.toNat_inj.1 (by simp; omega))
        by_cases e1 : c = 1
        · have d1 : ((c.toNat : Int) == 1) = true := by rw [e1]; rfl
          have hrz : readO r o' = readO (r.drop 1) o' := by rw [readO, if_neg h0, if_neg (show ¬ r.getD 0 0 = 0 from fun h => e0 (hc.symm.trans h)), if_pos (show r.getD 0 0 = 1 from hc.trans e1)]
          have HRZ := hid hrz
          clear hrz
          have h1l : (1 : Int) ≤ (r.length : Int) := by omega
          go_wp2_with fail
          have ht : List.take (r.length - 1) r.tail = r.drop 1 := by rw [List.take_of_length_le (by simp)]; simp
          rw [ht]
          refine ⟨⟨r.drop 1, o', rfl, RD.out.trans HRZ.out, by rw [List.length_drop]; omega, RO.out, RN.out⟩, ?_⟩
          show (r.drop 1).length < r.length
          rw [List.length_drop]; omega
        · have d1 : ((c.toNat : Int) == 1) = false := by rw [beq_eq_false_iff_ne]; intro h; exact e1 (UInt8.toNat_inj.1 (by simp; omega))
          have hc0 : at8 r 0 ≠ 0 := fun h => e0 (hc.symm.trans h)
          have hc1 : at8 r 0 ≠ 1 := fun h => e1 (hc.symm.trans h)
          obtain ⟨n, hn⟩ : ∃ n, at8 r 1 = n := ⟨_, rfl⟩
          have hnl := n.toNat_lt
          by_cases hb : r.length < 2 ∨ n < 2 ∨ r.length < n.toNat
          · have hrz : readO r o' = none := readO_fail r o' h0 hc0 hc1 (.inl (by rw [hn]; exact hb))
            have HRZ := hid hrz
            clear hrz
            by_cases b1 : r.length < 2
            · have t1 : decide ((r.length : Int) < 2) = true := decide_eq_true (by omega)
              go_wp2_with fail
              rw [Exit.noGoto_ret]
              go_ret
              refine ⟨RN.out, ?_⟩
              rw [RD.out, HRZ.out]
              rfl
            · have t1 : decide ((r.length : Int) < 2) = false := decide_eq_false (by omega)
              have b1' : (1 : Int) < (r.length : Int) := by omega
              by_cases b2 : n < 2
              · have b2' : n.toNat < 2 := b2
                have t2 : decide ((n.toNat : Int) < 2) = true := decide_eq_true (by omega)
                go_wp2_with fail
                rw [Exit.noGoto_ret]
                go_ret
                refine ⟨RN.out, ?_⟩
                rw [RD.out, HRZ.out]
                rfl
              · have b2' : ¬ n.toNat < 2 := b2
                have t2 : decide ((n.toNat : Int) < 2) = false := decide_eq_false (by omega)
                have b3 : r.length < n.toNat := (hb.resolve_left b1).resolve_left b2
                have t3 : decide ((n.toNat : Int) > (r.length : Int)) = true := decide_eq_true (by omega)
                have t3' : decide ((r.length : Int) < (n.toNat : Int)) = true := decide_eq_true (by omega)
                go_wp2_with fail
                rw [Exit.noGoto_ret]
                go_ret
                refine ⟨RN.out, ?_⟩
                rw [RD.out, HRZ.out]
                rfl
          · have b1 : ¬ r.length < 2 := fun h => hb (.inl h)
            have b2 : ¬ n < 2 := fun h => hb (.inr (.inl h))
            have b3 : ¬ r.length < n.toNat := fun h => hb (.inr (.inr h))
            have b2' : ¬ n.toNat < 2 := b2
            have t1 : decide ((r.length : Int) < 2) = false := decide_eq_false (by omega)
            have b1' : (1 : Int) < (r.length : Int) := by omega
            have t2 : decide ((n.toNat : Int) < 2) = false := decide_eq_false (by omega)
            have t3 : decide ((n.toNat : Int) > (r.length : Int)) = false := decide_eq_false (by omega)
            have t3' : decide ((r.length : Int) < (n.toNat : Int)) = false := decide_eq_false (by omega)
            have hbb : ¬ (r.length < 2 ∨ at8 r 1 < 2 ∨ r.length < (at8 r 1).toNat) := by rw [hn]; exact hb
            have n0 : 0 ≤ (n.toNat : Int) := by omega
            have n1 : (n.toNat : Int) ≤ (r.length : Int) := by omega
            have hstep := fun o2 => readO_step r o' o2 h0 hc0 hc1 hbb
            have hfail := fun h => readO_fail r o' h0 hc0 hc1 (.inr h)
            rw [hn] at hstep hfail
            have hcall := one_any o' (r.take n.toNat) ob T wr (by rw [List.length_take]; omega) (by rw [List.length_take]; omega) RO.out
            have HS := hid hstep
            have HF := hid hfail
            have HC := hid hcall
            clear hstep hfail hcall hbb
            go_wp2_with fail
            refine HC.out.mono ?_
            rintro e w1 ⟨hon, hm⟩
            cases ho : o'.one (r.take n.toNat) with
            | none =>
              rw [ho] at hm
              simp only [] at hm
              subst hm
              have HRZ := hid (HF.out ho)
              go_wp2_with fail
              rw [Exit.noGoto_ret]
              go_ret
              refine ⟨RN.out.trans hon, ?_⟩
              rw [RD.out, HRZ.out]
              rfl
            | some o2 =>
              rw [ho] at hm
              simp only [] at hm
              obtain ⟨rfl, hO2⟩ := hm
              have HRZ := hid (HS.out o2 ho)
              have HO2 := hid hO2
              have HON := hid hon
              clear hO2 hon
              go_wp2_with fail
              have ht : List.take (r.length - n.toNat) (r.drop n.toNat) = r.drop n.toNat := by rw [List.take_of_length_le (by simp)]
              rw [ht]
              refine ⟨⟨r.drop n.toNat, o2, rfl, RD.out.trans HRZ.out, by rw [List.length_drop]; omega, HO2.out, RN.out.trans HON.out⟩, ?_⟩
              show (r.drop n.toNat).length < r.length
              rw [List.length_drop]; omega

end Go.Proofs.Ytidkbphdihlbaaa
