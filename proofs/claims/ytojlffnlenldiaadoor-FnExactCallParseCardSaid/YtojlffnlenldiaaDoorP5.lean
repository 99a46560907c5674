import Derived.Test.YtojlffnlenldiaaDoorV7
namespace Go.Proofs.YtojlffnlenldiaaDoor.F
open Go.RowKit
set_option linter.unusedVariables false
set_option linter.unusedSimpArgs false
theorem cut_names (r : List ByteArray) : ∀ x : ByteArray, (∀ y ∈ x :: r, 47 ∉ bl y) → Txt.cut 47 (bl x ++ pathF r) = (x :: r).map bl := by
  induction r with
  | nil => intro x h; rw [show pathF [] = [] from rfl, List.append_nil, Txt.cut_none _ _ (h x (by simp))]; rfl
  | cons y r ih =>
    intro x h
    have e : pathF (y :: r) = 47 :: (bl y ++ pathF r) := rfl
    rw [e, Txt.cut_at _ _ _ (h x (by simp)), ih y (fun z hz => h z (by simp [List.mem_cons] at hz ⊢; right; exact hz))]
    rfl
theorem ch_ne (b : UInt8) (h : isCh b = true) : b ≠ 47 ∧ b ≠ 32 := by
  unfold isCh at h
  refine ⟨fun e => ?_, fun e => ?_⟩ <;> (rw [e] at h; revert h; decide)
theorem name_no (x : ByteArray) (h : isName (bl x) = true) : 47 ∉ bl x ∧ 32 ∉ bl x ∧ bl x ≠ [] := by
  unfold isName at h
  simp only [Bool.and_eq_true, List.all_eq_true, decide_eq_true_eq] at h
  refine ⟨fun hm => (ch_ne _ (h.1 _ hm)).1 rfl, fun hm => (ch_ne _ (h.1 _ hm)).2 rfl, fun e => ?_⟩
  rw [e] at h
  simp at h
theorem bs_bl_map (p : List ByteArray) : (p.map bl).map bs = p := by
  induction p with
  | nil => rfl
  | cons x r ih => simp only [List.map_cons, ih]; rfl
theorem path_cons (p : List ByteArray) (h : isPath 1 p = true) : ∃ x r, p = x :: r ∧ ∀ y ∈ x :: r, isName (bl y) = true := by
  have hp := isPath_small 1 p h
  cases p with
  | nil => exact absurd hp.2.1 (by simp)
  | cons x r => exact ⟨x, r, rfl, hp.2.2.2⟩
theorem pathRd_T (p : List ByteArray) (h : isPath 1 p = true) : pathRd (pathT p) = p := by
  obtain ⟨x, r, rfl, hn⟩ := path_cons p h
  have e : pathT (x :: r) = 47 :: (bl x ++ pathF r) := rfl
  have e2 : noSlash (47 :: (bl x ++ pathF r)) = bl x ++ pathF r := rfl
  unfold pathRd
  rw [e, e2, if_neg, cut_names r x (fun y hy => (name_no y (hn y hy)).1), bs_bl_map]
  intro h0
  exact (name_no x (hn x (by simp))).2.2 (List.append_eq_nil_iff.1 h0).1
theorem pathOfL_T (p : List ByteArray) (h : isPath 1 p = true) : pathOfL (pathT p) = (p, true) := by
  obtain ⟨x, r, rfl, hn⟩ := path_cons p h
  have e : pathT (x :: r) = 47 :: (bl x ++ pathF r) := rfl
  have hc : ((Txt.cut 47 (47 :: (bl x ++ pathF r))).map bs).tail = x :: r := by
    rw [Txt.cut, if_pos rfl, cut_names r x (fun y hy => (name_no y (hn y hy)).1), List.map_cons, bs_bl_map]
    rfl
  unfold pathOfL
  rw [e, if_neg, if_pos (show (47 :: (bl x ++ pathF r)).head? = some 47 from rfl), hc, h]
  intro h0
  injection h0 with _ h0
  exact (name_no x (hn x (by simp))).2.2 (List.append_eq_nil_iff.1 h0).1
theorem pathT_no (p : List ByteArray) (h : isPath 1 p = true) : 32 ∉ pathT p := by
  obtain ⟨x, r, rfl, hn⟩ := path_cons p h
  have e : pathT (x :: r) = pathF (x :: r) := rfl
  rw [e]
  unfold pathF
  rw [List.mem_flatMap]
  rintro ⟨y, hy, hm⟩
  rcases List.mem_cons.1 hm with hm | hm
  · exact absurd hm (by decide)
  · exact (name_no y (hn y hy)).2.1 hm
theorem dd_lt (n : Nat) (h : n < 100) : Lib.decDigits n = if n < 10 then [UInt8.ofNat (48 + n)] else [UInt8.ofNat (48 + n / 10), UInt8.ofNat (48 + n % 10)] := by
  rw [Lib.decDigits]
  by_cases h1 : n < 10
  · rw [dif_pos h1, if_pos h1]
  · rw [dif_neg h1, if_neg h1, Lib.decDigits, dif_pos (by omega)]
    rfl
theorem dd_read : ∀ n : Fin 25, atoiN (if n.val < 10 then [UInt8.ofNat (48 + n.val)] else [UInt8.ofNat (48 + n.val / 10), UInt8.ofNat (48 + n.val % 10)]) = n.val ∧ num22 (if n.val < 10 then [UInt8.ofNat (48 + n.val)] else [UInt8.ofNat (48 + n.val / 10), UInt8.ofNat (48 + n.val % 10)]) = n.val ∧ (32 : UInt8) ∉ (if n.val < 10 then [UInt8.ofNat (48 + n.val)] else [UInt8.ofNat (48 + n.val / 10), UInt8.ofNat (48 + n.val % 10)]) := by decide +kernel
theorem dd_back (n : Nat) (h : n < 25) : atoiN (Lib.decDigits n) = n ∧ num22 (Lib.decDigits n) = n ∧ 32 ∉ Lib.decDigits n := by
  rw [dd_lt n (by omega)]
  exact dd_read ⟨n, h⟩
theorem nib_fig : ∀ n : Fin 16, nib (Txt.fig n.val) = n.val ∧ digV (Txt.fig n.val) = n.val ∧ Txt.fig n.val ≠ 32 := by decide +kernel
theorem byte_back (b : UInt8) : UInt8.ofNat (16 * ((b.toNat / 16 : Nat) : Int) + ((b.toNat % 16 : Nat) : Int)).toNat = b := by
  have : (16 * ((b.toNat / 16 : Nat) : Int) + ((b.toNat % 16 : Nat) : Int)).toNat = b.toNat := by omega
  rw [this]
  exact UInt8.ofNat_toNat
theorem unhexL_hex (l : List UInt8) : unhexL (Txt.hex l) = l := by
  induction l with
  | nil => rfl
  | cons b l ih =>
    have hb := b.toNat_lt
    have h1 := nib_fig ⟨b.toNat / 16, by omega⟩
    have h2 := nib_fig ⟨b.toNat % 16, by omega⟩
    dsimp only at h1 h2
    rw [Txt.hex_cons, unhexL, h1.1, h2.1, if_pos (by omega), ih, byte_back]
theorem bytesGo_hex (l : List UInt8) : ∀ out, bytesGo out (Txt.hex l) = (out ++ l, true) := by
  induction l with
  | nil => intro out; simp [Txt.hex, bytesGo]
  | cons b l ih =>
    intro out
    have hb := b.toNat_lt
    have h1 := nib_fig ⟨b.toNat / 16, by omega⟩
    have h2 := nib_fig ⟨b.toNat % 16, by omega⟩
    dsimp only at h1 h2
    rw [Txt.hex_cons, bytesGo, h1.2.1, h2.2.1, if_neg (by omega), if_neg (by omega), byte_back, ih]
    simp
theorem hexL_back (l : List UInt8) : unhexL (hexL l) = l ∧ bytesL (hexL l) = (l, true) ∧ 32 ∉ hexL l := by
  unfold hexL
  by_cases e : l = []
  · subst e; exact ⟨rfl, rfl, by decide⟩
  · rw [if_neg e]
    have hlen := Txt.hex_len l
    have hpos := List.length_pos_iff.2 e
    refine ⟨unhexL_hex l, ?_, fun hm => ?_⟩
    · unfold bytesL
      rw [if_neg (fun h => by rw [h] at hlen; simp at hlen; omega), if_neg (by intro h; rcases h with h | h; · omega
                                                                               · rw [h] at hlen; simp at hlen; omega), bytesGo_hex]
      rfl
    · have := Txt.hex_mem l 32 hm
      revert this
      decide
theorem cut_two (a b : List UInt8) (ha : 32 ∉ a) (hb : 32 ∉ b) : Txt.cut 32 (a ++ 32 :: b) = [a, b] := by rw [Txt.cut_at _ _ _ ha, Txt.cut_none _ _ hb]
theorem cut_three (a b d : List UInt8) (ha : 32 ∉ a) (hb : 32 ∉ b) (hd : 32 ∉ d) : Txt.cut 32 (a ++ 32 :: (b ++ 32 :: d)) = [a, b, d] := by rw [Txt.cut_at _ _ _ ha, cut_two b d hb hd]
theorem cut_four (a b d f : List UInt8) (ha : 32 ∉ a) (hb : 32 ∉ b) (hd : 32 ∉ d) (hf : 32 ∉ f) : Txt.cut 32 (a ++ 32 :: (b ++ 32 :: (d ++ 32 :: f))) = [a, b, d, f] := by rw [Txt.cut_at _ _ _ ha, cut_three b d f hb hd hf]
theorem kind_back : ∀ k : Fin 7, 1 ≤ k.val → idxOf (WORDS.map bs) (bs (WORDS.getD k.val [])) = k.val ∧ kAt (bs (WORDS.getD k.val [])) 7 = k.val ∧ (32 : UInt8) ∉ WORDS.getD k.val [] := by decide +kernel
structure Norm (c : Call) : Prop where
  dest : c.kind ≠ 5 → c.dest = []
  num : c.kind = 4 ∨ c.kind = 5 → c.num = 0
  data : c.kind ≠ 2 → c.data = ⟨#[]⟩
theorem candI_norm (l : List UInt8) : Norm (candI l) := ⟨fun h => if_neg h, fun h => if_neg (by intro hh; have e : (candI l).kind = kindI l := rfl; rw [e] at h; omega), fun h => if_neg h⟩
theorem candS_norm (l : List UInt8) : Norm (candS l) := ⟨fun h => if_neg (fun hh => h hh.1), fun h => if_neg (by intro hh; have e : (candS l).kind = kindS l := rfl; rw [e] at h; omega), fun h => if_neg (fun hh => h hh.1)⟩
structure Back (c : Call) (l : List UInt8) : Prop where
  i : candI l = c
  s : candS l = c
  k : kindS l ≠ 0
  n : 2 ≤ lenS l
  p : (pathOfL (bl (wS l 1))).2 = true
theorem back4 (p : List ByteArray) (l : List UInt8) (hp : isPath 1 p = true) (hl : l = WORDS.getD 4 [] ++ 32 :: pathT p) : Back ⟨4, p, [], 0, ⟨#[]⟩⟩ l := by
  obtain ⟨h1, h2, h3⟩ := kind_back ⟨4, by omega⟩ (by decide)
  have hc : Txt.cut 32 l = [WORDS.getD 4 [], pathT p] := by rw [hl]; exact cut_two _ _ h3 (pathT_no p hp)
  have i0 : wI l 0 = bs (WORDS.getD 4 []) := by unfold wI wsI; rw [hc]; rfl
  have i1 : bl (wI l 1) = pathT p := by unfold wI wsI; rw [hc]; exact bl_bs _
  have s0 : wS l 0 = bs (WORDS.getD 4 []) := by unfold wS; rw [hc]; rfl
  have s1 : bl (wS l 1) = pathT p := by unfold wS; rw [hc]; exact bl_bs _
  have kI : kindI l = 4 := by unfold kindI; rw [i0]; exact h1
  have kS : kindS l = 4 := by unfold kindS; rw [s0]; exact h2
  have hn : lenS l = 2 := by unfold lenS; rw [hc]; rfl
  refine ⟨?_, ?_, by rw [kS]; decide, by omega, by rw [s1, pathOfL_T p hp]⟩
  · unfold candI destI numI dataI
    rw [kI, i1, pathRd_T p hp]
    rfl
  · unfold candS destS numS dataS
    rw [kS, s1, pathOfL_T p hp]
    simp
theorem back5 (p d : List ByteArray) (l : List UInt8) (hp : isPath 1 p = true) (hd : isPath 1 d = true) (hl : l = WORDS.getD 5 [] ++ 32 :: (pathT p ++ 32 :: pathT d)) : Back ⟨5, p, d, 0, ⟨#[]⟩⟩ l := by
  obtain ⟨h1, h2, h3⟩ := kind_back ⟨5, by omega⟩ (by decide)
  have hc : Txt.cut 32 l = [WORDS.getD 5 [], pathT p, pathT d] := by rw [hl]; exact cut_three _ _ _ h3 (pathT_no p hp) (pathT_no d hd)
  have i0 : wI l 0 = bs (WORDS.getD 5 []) := by unfold wI wsI; rw [hc]; rfl
  have i1 : bl (wI l 1) = pathT p := by unfold wI wsI; rw [hc]; exact bl_bs _
  have i2 : bl (wI l 2) = pathT d := by unfold wI wsI; rw [hc]; exact bl_bs _
  have s0 : wS l 0 = bs (WORDS.getD 5 []) := by unfold wS; rw [hc]; rfl
  have s1 : bl (wS l 1) = pathT p := by unfold wS; rw [hc]; exact bl_bs _
  have s2 : bl (wS l 2) = pathT d := by unfold wS; rw [hc]; exact bl_bs _
  have kI : kindI l = 5 := by unfold kindI; rw [i0]; exact h1
  have kS : kindS l = 5 := by unfold kindS; rw [s0]; exact h2
  have hn : lenS l = 3 := by unfold lenS; rw [hc]; rfl
  refine ⟨?_, ?_, by rw [kS]; decide, by omega, by rw [s1, pathOfL_T p hp]⟩
  · unfold candI destI numI dataI
    rw [kI, i1, i2, pathRd_T p hp, pathRd_T d hd]
    rfl
  · unfold candS destS numS dataS
    rw [kS, s1, s2, pathOfL_T p hp, pathOfL_T d hd, hn]
    simp
theorem backN (k : Nat) (hk : k = 1 ∨ k = 3 ∨ k = 6) (p : List ByteArray) (n : Nat) (l : List UInt8) (hp : isPath 1 p = true) (hnn : n < 25) (hl : l = WORDS.getD k [] ++ 32 :: (pathT p ++ 32 :: Lib.decDigits n)) : Back ⟨k, p, [], n, ⟨#[]⟩⟩ l := by
  obtain ⟨h1, h2, h3⟩ := kind_back ⟨k, by omega⟩ (by show 1 ≤ k; omega)
  dsimp only at h1 h2 h3
  obtain ⟨n1, n2, n3⟩ := dd_back n hnn
  have hc : Txt.cut 32 l = [WORDS.getD k [], pathT p, Lib.decDigits n] := by rw [hl]; exact cut_three _ _ _ h3 (pathT_no p hp) n3
  have i0 : wI l 0 = bs (WORDS.getD k []) := by unfold wI wsI; rw [hc]; rfl
  have i1 : bl (wI l 1) = pathT p := by unfold wI wsI; rw [hc]; exact bl_bs _
  have i2 : bl (wI l 2) = Lib.decDigits n := by unfold wI wsI; rw [hc]; exact bl_bs _
  have s0 : wS l 0 = bs (WORDS.getD k []) := by unfold wS; rw [hc]; rfl
  have s1 : bl (wS l 1) = pathT p := by unfold wS; rw [hc]; exact bl_bs _
  have s2 : bl (wS l 2) = Lib.decDigits n := by unfold wS; rw [hc]; exact bl_bs _
  have kI : kindI l = k := by unfold kindI; rw [i0]; exact h1
  have kS : kindS l = k := by unfold kindS; rw [s0]; exact h2
  have hn : lenS l = 3 := by unfold lenS; rw [hc]; rfl
  refine ⟨?_, ?_, by rw [kS]; omega, by omega, by rw [s1, pathOfL_T p hp]⟩
  · unfold candI destI numI dataI
    rw [kI, i1, i2, pathRd_T p hp, if_neg (by omega), if_pos (by omega), if_neg (by omega), n1]
  · unfold candS destS numS dataS
    rw [kS, s1, s2, pathOfL_T p hp, hn, if_neg (by omega), if_pos (by omega), if_neg (by omega), n2]
theorem back2 (p : List ByteArray) (n : Nat) (d : ByteArray) (l : List UInt8) (hp : isPath 1 p = true) (hnn : n < 25) (hl : l = WORDS.getD 2 [] ++ 32 :: (pathT p ++ 32 :: (Lib.decDigits n ++ 32 :: hexL (bl d)))) : Back ⟨2, p, [], n, d⟩ l := by
  obtain ⟨h1, h2, h3⟩ := kind_back ⟨2, by omega⟩ (show 1 ≤ 2 by omega)
  dsimp only at h1 h2 h3
  obtain ⟨n1, n2, n3⟩ := dd_back n hnn
  obtain ⟨x1, x2, x3⟩ := hexL_back (bl d)
  have hc : Txt.cut 32 l = [WORDS.getD 2 [], pathT p, Lib.decDigits n, hexL (bl d)] := by rw [hl]; exact cut_four _ _ _ _ h3 (pathT_no p hp) n3 x3
  have i0 : wI l 0 = bs (WORDS.getD 2 []) := by unfold wI wsI; rw [hc]; rfl
  have i1 : bl (wI l 1) = pathT p := by unfold wI wsI; rw [hc]; exact bl_bs _
  have i2 : bl (wI l 2) = Lib.decDigits n := by unfold wI wsI; rw [hc]; exact bl_bs _
  have i3 : bl (wI l 3) = hexL (bl d) := by unfold wI wsI; rw [hc]; exact bl_bs _
  have s0 : wS l 0 = bs (WORDS.getD 2 []) := by unfold wS; rw [hc]; rfl
  have s1 : bl (wS l 1) = pathT p := by unfold wS; rw [hc]; exact bl_bs _
  have s2 : bl (wS l 2) = Lib.decDigits n := by unfold wS; rw [hc]; exact bl_bs _
  have s3 : bl (wS l 3) = hexL (bl d) := by unfold wS; rw [hc]; exact bl_bs _
  have kI : kindI l = 2 := by unfold kindI; rw [i0]; exact h1
  have kS : kindS l = 2 := by unfold kindS; rw [s0]; exact h2
  have hn : lenS l = 4 := by unfold lenS; rw [hc]; rfl
  refine ⟨?_, ?_, by rw [kS]; decide, by omega, by rw [s1, pathOfL_T p hp]⟩
  · unfold candI destI numI dataI
    rw [kI, i1, i2, i3, pathRd_T p hp, if_neg (by omega), if_pos (by omega), if_pos rfl, n1, x1, bs_bl]
  · unfold candS destS numS dataS
    rw [kS, s1, s2, s3, pathOfL_T p hp, hn, if_neg (by omega), if_pos (by omega), if_pos (by omega), n2, x2, bs_bl]
theorem back_all (c : Call) (l : List UInt8) (hc : callT c = l) (hne : l ≠ []) (hN : Norm c) : Back c l := by
  have hok : isCallB c = true ∧ ¬ (c.kind = 2 ∧ 24 < c.data.size) := by
    refine Classical.byContradiction fun h => hne ?_
    rw [← hc]
    unfold callT
    rw [if_neg h]
  have hl : wordOf c.kind ++ 32 :: (pathT c.path ++ tailT c) = l := by rw [← hc]; unfold callT; rw [if_pos hok]
  obtain ⟨hok, hbig⟩ := hok
  obtain ⟨kind, p, d, n, b⟩ := c
  obtain ⟨hD, hM, hB⟩ := hN
  dsimp only at hD hM hB hbig hl
  unfold isCallB at hok
  dsimp only at hok
  unfold tailT at hl
  dsimp only at hl
  have hnum : ∀ a : Int, a ≤ 24 → between 0 n a = true → ∃ m : Nat, n = m ∧ m < 25 := by
    intro a ha h
    simp only [between, Bool.and_eq_true, decide_eq_true_eq] at h
    exact ⟨n.toNat, by omega, by omega⟩
  by_cases k16 : kind = 1 ∨ kind = 6
  · rw [if_pos k16, Bool.and_eq_true] at hok
    obtain ⟨m, rfl, hm⟩ := hnum 7 (by omega) hok.2
    rw [if_neg (by omega), if_neg (by omega), if_neg (by omega)] at hl
    have hd := hD (by omega)
    have hb := hB (by omega)
    subst hd hb
    rcases k16 with rfl | rfl
    · exact backN 1 (by omega) p m l hok.1 hm hl.symm
    · exact backN 6 (by omega) p m l hok.1 hm hl.symm
  · rw [if_neg k16] at hok
    by_cases k23 : kind = 2 ∨ kind = 3
    · rw [if_pos k23, Bool.and_eq_true] at hok
      obtain ⟨m, rfl, hm⟩ := hnum 24 (by omega) hok.2
      rw [if_neg (by omega), if_neg (by omega)] at hl
      have hd := hD (by omega)
      subst hd
      rcases k23 with rfl | rfl
      · rw [if_pos rfl] at hl
        exact back2 p m b l hok.1 hm hl.symm
      · have hb := hB (by omega)
        subst hb
        rw [if_neg (by omega)] at hl
        exact backN 3 (by omega) p m l hok.1 hm hl.symm
    · rw [if_neg k23] at hok
      by_cases k4 : kind = 4
      · subst k4
        rw [if_pos rfl] at hok hl
        have hd := hD (by omega)
        have hb := hB (by omega)
        have hn := hM (by omega)
        subst hd hb hn
        rw [List.append_nil] at hl
        exact back4 p l hok hl.symm
      · rw [if_neg k4] at hok
        by_cases k5 : kind = 5
        · subst k5
          rw [if_pos rfl, Bool.and_eq_true] at hok
          rw [if_neg (by omega), if_pos rfl] at hl
          have hb := hB (by omega)
          have hn := hM (by omega)
          subst hb hn
          exact back5 p d l hok.1 hok.2 hl.symm
        · rw [if_neg k5] at hok
          cases hok
/-- Both read the same of every text. -/
theorem read_same (l : List UInt8) : okI l = okS l ∧ resI l = resS l := by
  by_cases hI : okI l = true
  · have h := hI
    unfold okI at h
    rw [decide_eq_true_eq] at h
    have b := back_all (candI l) l h.2 h.1 (candI_norm l)
    have hS : okS l = true := by
      unfold okS
      rw [decide_eq_true_eq]
      exact ⟨b.k, b.n, b.p, by rw [b.s]; exact h.2⟩
    refine ⟨by rw [hI, hS], ?_⟩
    unfold resI resS
    rw [if_pos hI, if_pos hS, b.s]
  · by_cases hS : okS l = true
    · exfalso
      have h := hS
      unfold okS at h
      rw [decide_eq_true_eq] at h
      have hne : l ≠ [] := by
        intro e
        have := h.2.1
        subst e
        exact absurd this (by decide)
      have b := back_all (candS l) l h.2.2.2 hne (candS_norm l)
      refine hI ?_
      unfold okI
      rw [decide_eq_true_eq]
      exact ⟨hne, by rw [b.i]; exact h.2.2.2⟩
    · refine ⟨by rw [Bool.eq_false_iff.2 hI, Bool.eq_false_iff.2 hS], ?_⟩
      unfold resI resS
      rw [if_neg hI, if_neg hS]
end Go.Proofs.YtojlffnlenldiaaDoor.F
