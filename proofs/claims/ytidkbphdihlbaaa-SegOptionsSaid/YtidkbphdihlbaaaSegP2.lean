/- Options that are not known, in plain words. -/
import Derived.Test.YtidkbphdihlbaaaSegP
namespace Go.Proofs.Ytidkbphdihlbaaa.SG
/-- An option that is not known, or a nought. -/
def piece (m : Nat) (k : UInt8) : List UInt8 := if k.toNat ≤ 3 then [1] else k :: UInt8.ofNat (m + 2) :: List.replicate m 0
def pieces (m : Nat) (ks : List UInt8) : List UInt8 := ks.flatMap (piece m)
theorem pieces_take (m : Nat) (ks : List UInt8) (k : Nat) (h : k < ks.length) : pieces m (ks.take (k + 1)) = pieces m (ks.take k) ++ piece m (ks.getD k 0) := by
  unfold pieces
  rw [List.take_succ_eq_append_getElem h, List.flatMap_append]
  simp [h]
theorem piece_len (m : Nat) (k : UInt8) (hm : m < 6) : (piece m k).length ≤ 7 := by
  unfold piece; split <;> simp; omega
theorem pieces_len (m : Nat) (ks : List UInt8) (hm : m < 6) : (pieces m ks).length ≤ 7 * ks.length := by
  induction ks with
  | nil => simp [pieces]
  | cons k r ih =>
    have h := piece_len m k hm
    unfold pieces at ih ⊢
    rw [List.flatMap_cons, List.length_append, List.length_cons]; omega
theorem readO_piece (m : Nat) (k : UInt8) (r : List UInt8) (o : O) (hm : m < 6) : readO (piece m k ++ r) o = readO r o := by
  unfold piece
  split
  · exact readO_one r o
  · rename_i hk
    have hn : (UInt8.ofNat (m + 2)).toNat = m + 2 := by rw [UInt8.toNat_ofNat']; omega
    rw [List.cons_append, List.cons_append, readO_opt k (UInt8.ofNat (m + 2)) (List.replicate m 0) r o (by omega) (by rw [hn]; simp)]
    have h1 : O.one o (k :: UInt8.ofNat (m + 2) :: List.replicate m 0) = some o := by
      unfold O.one
      have e : (k :: UInt8.ofNat (m + 2) :: List.replicate m 0).getD 0 0 = k := rfl
      rw [e, if_neg (by rintro rfl; simp at hk), if_neg (by rintro rfl; simp at hk)]
    rw [h1]
theorem readO_pieces (m : Nat) (ks r : List UInt8) (o : O) (hm : m < 6) : readO (pieces m ks ++ r) o = readO r o := by
  induction ks with
  | nil => rfl
  | cons k ks ih =>
    unfold pieces at ih ⊢
    rw [List.flatMap_cons, List.append_assoc, readO_piece m k _ o hm, ih]
theorem readO_pads (j : Nat) (r : List UInt8) (o : O) : readO (List.replicate j 1 ++ r) o = readO r o := by
  induction j with
  | zero => rfl
  | succ j ih => rw [List.replicate_succ, List.cons_append, readO_one, ih]
/-- What is read of a head with these options. -/
theorem dec_form (g : Sg) (hf : g.Fits) (hb : g.bad = false) (Os c : List UInt8) (src dst : Nat) (hcl : c.length = 2) (ho : Os.length % 4 = 0 ∧ Os.length ≤ 40) (hr : readO Os ⟨0, false, 0⟩ = some ⟨g.mss, g.has, g.scale⟩) (B : List UInt8)
    (he : B = be 2 g.src ++ be 2 g.dst ++ be 4 g.seq ++ be 4 g.ack ++ [UInt8.ofNat ((20 + Os.length) * 4), UInt8.ofNat g.flags] ++ be 2 g.wnd ++ c ++ [0, 0] ++ Os ++ g.data) (hc : csum B src dst = 0) : dec B src dst = .inl g := by
  have hfl := hf.flags
  have v1 : val (be 2 g.src) = g.src := val_be_lt hf.src
  have v2 : val (be 2 g.dst) = g.dst := val_be_lt hf.dst
  have v3 : val (be 4 g.seq) = g.seq := val_be_lt hf.seq
  have v4 : val (be 4 g.ack) = g.ack := val_be_lt hf.ack
  have v5 : val (be 2 g.wnd) = g.wnd := val_be_lt hf.wnd
  have b1 := be_length 2 g.src
  have b2 := be_length 2 g.dst
  have b3 := be_length 4 g.seq
  have b4 := be_length 4 g.ack
  have b5 := be_length 2 g.wnd
  have hl : B.length = 20 + Os.length + g.data.length := by rw [he]; simp [b1, b2, b3, b4, b5, hcl]; omega
  have hx12 : (UInt8.ofNat ((20 + Os.length) * 4)).toNat / 16 * 4 = 20 + Os.length := by rw [UInt8.toNat_ofNat']; omega
  have hx13 : (UInt8.ofNat g.flags).toNat = g.flags := by rw [UInt8.toNat_ofNat']; omega
  generalize be 2 g.src = s1 at *
  generalize be 2 g.dst = s2 at *
  generalize be 4 g.seq = s3 at *
  generalize be 4 g.ack = s4 at *
  generalize be 2 g.wnd = s5 at *
  generalize UInt8.ofNat ((20 + Os.length) * 4) = x12 at *
  generalize UInt8.ofNat g.flags = x13 at *
  match s1, s2, s3, s4, s5, c, b1, b2, b3, b4, b5, hcl with
  | [a0, a1], [a2, a3], [a4, a5, a6, a7], [a8, a9, a10, a11], [a14, a15], [a16, a17], _, _, _, _, _, _ =>
    simp only [List.cons_append, List.nil_append] at he
    have g12 : B.getD 12 0 = x12 := by rw [he]; rfl
    have g13 : B.getD 13 0 = x13 := by rw [he]; rfl
    unfold dec
    rw [if_neg (by omega), g12, g13, hx12, if_neg (by omega), if_neg (by simp [hc])]
    have t1 : (B.take (20 + Os.length)).drop 20 = Os := by
      rw [he, Nat.add_comm]
      simp
    have t2 : B.drop (20 + Os.length) = g.data := by
      rw [he, Nat.add_comm]
      simp
    rw [t1, hr, t2, hx13]
    have d1 : B.take 2 = [a0, a1] := by rw [he]; rfl
    have d2 : (B.drop 2).take 2 = [a2, a3] := by rw [he]; rfl
    have d3 : (B.drop 4).take 4 = [a4, a5, a6, a7] := by rw [he]; rfl
    have d4 : (B.drop 8).take 4 = [a8, a9, a10, a11] := by rw [he]; rfl
    have d5 : (B.drop 14).take 2 = [a14, a15] := by rw [he]; rfl
    simp only [d1, d2, d3, d4, d5, v1, v2, v3, v4, v5]
    have hsyn : syn g.flags = false → g.mss = 0 ∧ g.has = false ∧ g.scale = 0 := by
      intro h
      simp [Sg.bad, Sg.extra, h] at hb
      refine ⟨by omega, hb.2.2, ?_⟩
      apply Classical.byContradiction
      intro h0
      have := hb.1.2 h0
      rw [hb.2.2] at this
      cases this
    cases h : syn g.flags
    · obtain ⟨h1, h2, h3⟩ := hsyn h
      cases g; simp_all
    · cases g; simp_all
/-- The text with options put in, whose sum is reckoned, is read as the segment. -/
theorem dec_put (g : Sg) (hf : g.Fits) (hb : g.bad = false) (src dst m j : Nat) (ks : List UInt8) (hm : m < 6) (U : List UInt8) (hU : U = pieces m ks ++ List.replicate j 1) (h4 : U.length % 4 = 0) (h40 : U.length + g.opts.length ≤ 40) (T : List UInt8)
    (hT : T = (g.bytes src dst).take 12 ++ [UInt8.ofNat ((20 + g.opts.length + U.length) * 4)] ++ ((g.bytes src dst).drop 13).take 3 ++ [0, 0] ++ ((g.bytes src dst).drop 18).take 2 ++ U ++ (g.bytes src dst).drop 20) :
    dec (T.take 16 ++ be 2 (csum T src dst) ++ T.drop 18) src dst = .inl g := by
  obtain ⟨c, hcl, he⟩ := bytes_split g hf src dst
  have ho := opts_len g
  have b1 := be_length 2 g.src
  have b2 := be_length 2 g.dst
  have b3 := be_length 4 g.seq
  have b4 := be_length 4 g.ack
  have b5 := be_length 2 g.wnd
  have hA : ∃ A : List UInt8, A.length = 16 ∧ A = be 2 g.src ++ be 2 g.dst ++ be 4 g.seq ++ be 4 g.ack ++ [UInt8.ofNat ((20 + (U ++ g.opts).length) * 4), UInt8.ofNat g.flags] ++ be 2 g.wnd := ⟨_, by simp [b1, b2, b3, b4, b5], rfl⟩
  obtain ⟨A, hAl, hAe⟩ := hA
  have hT2 : T = A ++ [0, 0] ++ ([0, 0] ++ (U ++ g.opts) ++ g.data) := by
    rw [hT, he, hAe]
    have e : UInt8.ofNat ((20 + g.opts.length + U.length) * 4) = UInt8.ofNat ((20 + (U ++ g.opts).length) * 4) := by congr 1; simp; omega
    rw [e]
    generalize UInt8.ofNat ((20 + (U ++ g.opts).length) * 4) = y12 at *
    generalize UInt8.ofNat ((20 + g.opts.length) * 4) = x12 at *
    generalize UInt8.ofNat g.flags = x13 at *
    generalize be 2 g.src = s1 at *
    generalize be 2 g.dst = s2 at *
    generalize be 4 g.seq = s3 at *
    generalize be 4 g.ack = s4 at *
    generalize be 2 g.wnd = s5 at *
    match s1, s2, s3, s4, s5, c, b1, b2, b3, b4, b5, hcl with
    | [a0, a1], [a2, a3], [a4, a5, a6, a7], [a8, a9, a10, a11], [a14, a15], [a16, a17], _, _, _, _, _, _ => simp
  have h1 : T.take 16 = A := by rw [hT2, List.append_assoc, List.take_left' hAl]
  have h2 : T.drop 18 = [0, 0] ++ (U ++ g.opts) ++ g.data := by
    rw [hT2, List.drop_left' (by simp [hAl])]
  rw [h1, h2]
  have hc : csum (A ++ be 2 (csum T src dst) ++ ([0, 0] ++ (U ++ g.opts) ++ g.data)) src dst = 0 := by
    have h := csum_filled A ([0, 0] ++ (U ++ g.opts) ++ g.data) src dst (by rw [hAl])
    rwa [← hT2] at h
  refine dec_form g hf hb (U ++ g.opts) (be 2 (csum T src dst)) src dst (be_length _ _) ⟨by rw [List.length_append]; omega, by rw [List.length_append]; omega⟩ ?_ _ ?_ hc
  · rw [hU, List.append_assoc, readO_pieces m ks _ _ hm, readO_pads]
    exact readO_opts g hf hb
  · rw [hAe]; simp
end Go.Proofs.Ytidkbphdihlbaaa.SG
