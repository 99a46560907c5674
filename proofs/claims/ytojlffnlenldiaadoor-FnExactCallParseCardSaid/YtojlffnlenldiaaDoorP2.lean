import Derived.Test.YtojlffnlenldiaaDoorP1
namespace Go.Proofs.YtojlffnlenldiaaDoor.F
open Go.RowKit Go.Proofs.YtojlffnlenldiaaDoorW.PrintWords Go.Proofs.YtojlffnlenldiaaDoorW.PrintLast Go.Proofs.YtojlffnlenldiaaDoorW.PrintMore
set_option linter.unusedVariables false
set_option linter.unusedSimpArgs false

theorem bl_extract (s : ByteArray) (a b : Nat) : bl (s.extract a b) = ((bl s).drop a).take (b - a) := by
  simp [bl, ByteArray.data_extract]
theorem extract_bs (s : ByteArray) (a b : Nat) : s.extract a b = bs (((bl s).drop a).take (b - a)) := by rw [← bl_extract]; rfl
theorem ite_n {p : Prop} [Decidable p] {α : Type} (h : ¬ p) (a b : α) : (if p then a else b) = b := if_neg h
/-! ### the cut -/
theorem l1Cut_l0 (s : ByteArray) (c : UInt8) (hs : s.size ≤ 4194304) (d : Nat) : ∀ (i j : Nat) (out : List ByteArray), i + d = s.size → j ≤ i → out.length ≤ j → c ∉ ((bl s).drop j).take (i - j) →
    Ev (fun k => spec_l1Cut.l0 k s (c.toNat : Int) out j i) (out ++ (Txt.cut c ((bl s).drop j)).map bs) := by
  induction d with
  | zero =>
    intro i j out hi hj ho hc
    refine Ev.step (fun k => rfl) ?_
    have h1 : ¬ (i : Int) < (s.size : Int) := by omega
    have h2 : (0 : Int) ≤ (j : Int) := by omega
    have h3 : (j : Int) ≤ (s.size : Int) := by omega
    have h4 : out.length < 8796093022208 := by omega
    simp only [spec_l1Cut.l0, if_neg h1, if_pos h2, if_pos h3, if_pos h4, Int.toNat_natCast, extract_bs]
    have e : ((bl s).drop j).take (s.size - j) = (bl s).drop j := List.take_of_length_le (by rw [List.length_drop, bl_len]; omega)
    have e2 : i - j = s.size - j := by omega
    rw [e2, e] at hc
    rw [e, Txt.cut_none c _ hc]
    exact Ev.now _
  | succ d ih =>
    intro i j out hi hj ho hc
    refine Ev.step (fun k => rfl) ?_
    have h1 : (i : Int) < (s.size : Int) := by omega
    have h2 : (0 : Int) ≤ (i : Int) := by omega
    have h3 : (0 : Int) ≤ (j : Int) := by omega
    have h4 : (j : Int) ≤ (i : Int) := by omega
    have h5 : (i : Int) ≤ (s.size : Int) := by omega
    have h6 : out.length < 8796093022208 := by omega
    have hl : i < (bl s).length := by rw [bl_len]; omega
    have hsplit : (bl s).drop j = ((bl s).drop j).take (i - j) ++ (bl s)[i] :: (bl s).drop (i + 1) := by
      have e := (List.take_append_drop (i - j) ((bl s).drop j)).symm
      rw [List.drop_drop, show j + (i - j) = i by omega, drop_get (bl s) i hl] at e
      exact e
    simp only [spec_l1Cut.l0, if_pos h1, if_pos h2, bt_get s i hl, w64s (show i < s.size by omega) (by omega)]
    by_cases e : (bl s)[i] = c
    · have e' : (((bl s)[i]).toNat : Int) = (c.toNat : Int) := by rw [e]
      simp only [if_pos e', if_pos h3, if_pos h4, if_pos h5, if_pos h6, Int.toNat_natCast, extract_bs]
      have h := ih (i + 1) (i + 1) (out ++ [bs (((bl s).drop j).take (i - j))]) (by omega) (Nat.le_refl _) (by rw [List.length_append, List.length_singleton]; omega) (by simp)
      have hcut : Txt.cut c ((bl s).drop j) = ((bl s).drop j).take (i - j) :: Txt.cut c ((bl s).drop (i + 1)) := by
        have e1 := Txt.cut_at c _ ((bl s).drop (i + 1)) hc
        rw [e] at hsplit
        rw [← hsplit] at e1
        exact e1
      rw [hcut, List.map_cons]
      rw [List.append_assoc] at h
      exact h
    · have e' : ¬ (((bl s)[i]).toNat : Int) = (c.toNat : Int) := by
        intro h
        exact e (UInt8.toNat_inj.1 (by omega))
      simp only [if_neg e']
      refine ih (i + 1) j out (by omega) (by omega) ho ?_
      have e2 : ((bl s).drop j).take (i + 1 - j) = ((bl s).drop j).take (i - j) ++ [(bl s)[i]] := by
        rw [show i + 1 - j = (i - j) + 1 by omega, List.take_succ_eq_append_getElem (by rw [List.length_drop]; omega)]
        congr 2
        rw [List.getElem_drop]
        congr 1
        omega
      rw [e2]
      intro hm
      rcases List.mem_append.1 hm with hm | hm
      · exact hc hm
      · exact e (by simpa using (List.mem_singleton.1 hm).symm)
theorem l1Cut_ev (s : ByteArray) (c : UInt8) (hs : s.size ≤ 4194304) : Ev (fun k => spec_l1Cut.f k s (c.toNat : Int)) ((Txt.cut c (bl s)).map bs) :=
  l1Cut_l0 s c hs s.size 0 0 [] (by omega) (Nat.le_refl _) (Nat.le_refl _) (by simp)

/-! ### equal lists of texts -/
def eqTs (a b : List ByteArray) : Bool := decide (a = b)
theorem toList_inj (a b : ByteArray) : (a.toList = b.toList) ↔ a = b := by
  rw [toList_data, toList_data]
  exact ⟨fun h => ByteArray.ext (Array.ext' h), fun h => by rw [h]⟩
theorem eqStringS_l0 (a b : List ByteArray) (hl : a.length = b.length) (hs : a.length ≤ 4611686018427387904) (d : Nat) : ∀ i : Nat, i + d = a.length → Ev (fun k => laws_eqStringS.l0 k a b i) (decide (a.drop i = b.drop i)) := by
  induction d with
  | zero =>
    intro i hi
    refine Ev.step (fun k => rfl) ?_
    have h1 : ¬ (i : Int) < (a.length : Int) := by omega
    simp only [laws_eqStringS.l0, if_neg h1, List.drop_eq_nil_of_le (show a.length ≤ i by omega), List.drop_eq_nil_of_le (show b.length ≤ i by omega), decide_true]
    exact Ev.now _
  | succ d ih =>
    intro i hi
    refine Ev.step (fun k => rfl) ?_
    have h1 : (i : Int) < (a.length : Int) := by omega
    have h2 : (0 : Int) ≤ (i : Int) := by omega
    have h3 : (i : Int) < (b.length : Int) := by omega
    have ha : i < a.length := by omega
    have hb : i < b.length := by omega
    have h := ih (i + 1) (by omega)
    rw [drop_get a i ha, drop_get b i hb]
    simp only [laws_eqStringS.l0, if_pos h1, if_pos h2, if_pos h3, rd_get a i ha, rd_get b i hb, w64s ha hs, toList_inj, List.cons.injEq]
    by_cases e : a[i] = b[i]
    · simp only [e, if_true, true_and]; exact h
    · simp only [e, if_false, false_and, decide_false]; exact Ev.now _
theorem eqStringS_ev (a b : List ByteArray) (hs : a.length ≤ 4611686018427387904) : Ev (fun k => laws_eqStringS.f k a b) (decide (a = b)) := by
  unfold laws_eqStringS.f
  by_cases hl : a.length = b.length
  · have hl' : (a.length : Int) = (b.length : Int) := by omega
    simp only [if_pos hl']
    have := eqStringS_l0 a b hl hs a.length 0 (by omega)
    simpa using this
  · have hl' : ¬ (a.length : Int) = (b.length : Int) := by omega
    simp only [if_neg hl', show decide (a = b) = false from decide_eq_false (fun h => hl (by rw [h]))]
    exact Ev.now _

/-! ### marks -/
def mkT (n : Nat) (acc : List UInt8) : List UInt8 := if h : n = 0 then 109 :: acc else mkT (n / 10) (UInt8.ofNat (48 + n % 10) :: acc)
termination_by n
decreasing_by omega
def markT (n : Nat) : ByteArray := if n = 0 then ⟨#[109, 48]⟩ else bs (mkT n [])
theorem one_dig (n : Nat) (h : n ≤ 4611686018427387904) : strOfNums [(wrap64 (48 + (Int.tmod (n : Int) 10))) % 256] = bs [UInt8.ofNat (48 + n % 10)] := by
  rw [Int.tmod_eq_emod_of_nonneg (by omega), w64 (by omega) (by omega)]
  have : (((48 : Int) + (n : Int) % 10) % 256).toNat = 48 + n % 10 := by omega
  simp [strOfNums, bs, this]
theorem markText_l0 (n : Nat) : ∀ (acc : List UInt8), acc.length + n ≤ 4611686018427387904 → Ev (fun k => laws_markText.l0 k (n : Int) (bs acc)) (bs (mkT n acc)) := by
  induction n using Nat.strongRecOn with
  | ind n ih =>
    intro acc hacc
    refine Ev.step (fun k => rfl) ?_
    rw [mkT]
    by_cases h : n = 0
    · subst h
      have h1 : ¬ (((0 : Nat) : Int) > 0) := by omega
      have h2 : 1 + (bs acc).size ≤ 9223372036854775807 := by rw [bs_size]; omega
      simp only [laws_markText.l0, if_neg h1, if_pos h2, dif_pos]
      have : (⟨#[109]⟩ : ByteArray) ++ bs acc = bs (109 :: acc) := bs_append [109] acc
      rw [this]
      exact Ev.now _
    · have h1 : ((n : Int) > 0) := by omega
      have h2 : Int.tdiv (n : Int) 10 = ((n / 10 : Nat) : Int) := by rw [Int.tdiv_eq_ediv_of_nonneg (by omega)]; omega
      have h3 : (bs [UInt8.ofNat (48 + n % 10)]).size + (bs acc).size ≤ 9223372036854775807 := by rw [bs_size, bs_size, List.length_singleton]; omega
      simp only [laws_markText.l0, if_pos h1, one_dig n (by omega), Option.bind_some, if_pos h3, h2, dif_neg h, w64 (show -9223372036854775808 ≤ ((n / 10 : Nat) : Int) by omega) (by omega), bs_append, List.singleton_append]
      exact ih (n / 10) (by omega) _ (by rw [List.length_cons]; omega)
theorem markText_ev (n : Nat) (h : n ≤ 4611686018427387904) : Ev (fun k => laws_markText.f k (n : Int)) (markT n) := by
  unfold laws_markText.f markT
  by_cases e : n = 0
  · have : (n : Int) ≤ 0 := by omega
    simp only [if_pos this, if_pos e]
    exact Ev.now _
  · have : ¬ (n : Int) ≤ 0 := by omega
    simp only [if_neg this, if_neg e]
    exact markText_l0 n [] (by simpa using h)
/-- n marks from k on. -/
def marks (k n : Nat) : List ByteArray := (List.range n).map fun i => markT (k + i)
theorem marks_len (k n : Nat) : (marks k n).length = n := by simp [marks]
theorem marks_succ (k n : Nat) : marks k (n + 1) = markT k :: marks (k + 1) n := by
  simp only [marks, List.range_succ_eq_map, List.map_cons, List.map_map]
  congr 1
  apply List.map_congr_left
  intro i _
  simp only [Function.comp]
  congr 1
  omega
theorem set_at (pre : List ByteArray) (x y : ByteArray) (r : List ByteArray) : (pre ++ x :: r).set pre.length y = pre ++ y :: r := by
  rw [List.set_append_right _ _ (Nat.le_refl _)]; simp
theorem markStringS_l0 (rest : List ByteArray) : ∀ (pre : List ByteArray) (m : Nat), pre.length + 2 * rest.length + m ≤ 4611686018427387904 →
    Ev (fun k => laws_markStringS.l0 k (pre ++ rest) (m : Int) (pre.length : Int)) (((m + rest.length : Nat) : Int), pre ++ marks m rest.length) := by
  induction rest with
  | nil =>
    intro pre m h
    refine Ev.step (fun k => rfl) ?_
    have h1 : ¬ ((pre.length : Nat) : Int) < ((pre.length : Nat) : Int) := by omega
    simp only [laws_markStringS.l0, List.length_nil, Nat.add_zero, List.append_nil, show marks m 0 = [] from rfl, if_neg h1]
    exact Ev.now _
  | cons x r ih =>
    intro pre m h
    rw [List.length_cons] at h
    refine Ev.step (fun k => rfl) ?_
    have h1 : ((pre.length : Nat) : Int) < (((pre ++ x :: r).length : Nat) : Int) := by rw [List.length_append, List.length_cons]; omega
    have h2 : (0 : Int) ≤ (pre.length : Int) := by omega
    simp only [laws_markStringS.l0, if_pos h1]
    refine Ev.bind (markText_ev m (by omega)) ?_
    simp only [if_pos h2, Int.toNat_natCast, set_at, w64s (show m < m + 1 by omega) (show m + 1 ≤ 4611686018427387904 by omega), w64s (show pre.length < pre.length + 1 by omega) (show pre.length + 1 ≤ 4611686018427387904 by omega)]
    have h3 := ih (pre ++ [markT m]) (m + 1) (by rw [List.length_append, List.length_singleton]; omega)
    rw [List.append_assoc, List.append_assoc, List.length_append, List.length_singleton, List.singleton_append, List.singleton_append] at h3
    rw [List.length_cons, marks_succ, show m + (r.length + 1) = m + 1 + r.length by omega]
    exact h3
theorem markStringS_ev (xs : List ByteArray) (m : Nat) (h : 2 * xs.length + m ≤ 4611686018427387904) : Ev (fun k => laws_markStringS.f k xs (m : Int)) (((m + xs.length : Nat) : Int), marks m xs.length) := markStringS_l0 xs [] m (by simpa using h)
theorem heldStringS_l0 (rest : List ByteArray) : ∀ (pre : List ByteArray) (m : Nat), pre.length + 2 * rest.length + m ≤ 4611686018427387904 → rest = marks m rest.length →
    Ev (fun k => laws_heldStringS.l0 k (pre ++ rest) (m : Int) (pre.length : Int)) ((m + rest.length : Nat) : Int) := by
  induction rest with
  | nil =>
    intro pre m h _
    refine Ev.step (fun k => rfl) ?_
    have h1 : ¬ ((pre.length : Nat) : Int) < ((pre.length : Nat) : Int) := by omega
    simp only [laws_heldStringS.l0, List.length_nil, Nat.add_zero, List.append_nil, if_neg h1]
    exact Ev.now _
  | cons x r ih =>
    intro pre m h he
    rw [List.length_cons] at h
    rw [List.length_cons, marks_succ] at he
    obtain ⟨e1, e2⟩ := List.cons.inj he
    refine Ev.step (fun k => rfl) ?_
    have h1 : ((pre.length : Nat) : Int) < (((pre ++ x :: r).length : Nat) : Int) := by rw [List.length_append, List.length_cons]; omega
    have h2 : (0 : Int) ≤ (pre.length : Int) := by omega
    simp only [laws_heldStringS.l0, if_pos h1, if_pos h2]
    refine Ev.bind (markText_ev m (by omega)) ?_
    have h4 : (rdOf ByteArray.empty (pre ++ x :: r) (pre.length : Int)).toList = (markT m).toList := by rw [rd_get _ _ (by simp), ← e1]; simp
    simp only [if_pos h4, w64s (show m < m + 1 by omega) (show m + 1 ≤ 4611686018427387904 by omega), w64s (show pre.length < pre.length + 1 by omega) (show pre.length + 1 ≤ 4611686018427387904 by omega)]
    have h3 := ih (pre ++ [x]) (m + 1) (by rw [List.length_append, List.length_singleton]; omega) e2
    rw [List.append_assoc, List.length_append, List.length_singleton, List.singleton_append] at h3
    rw [List.length_cons, show m + (r.length + 1) = m + 1 + r.length by omega]
    exact h3
theorem heldStringS_ev (n m : Nat) (h : 2 * n + m ≤ 4611686018427387904) : Ev (fun k => laws_heldStringS.f k (marks m n) (m : Int)) ((m + n : Nat) : Int) := by
  have := heldStringS_l0 (marks m n) [] m (by rw [marks_len]; simpa using h) (by rw [marks_len])
  rw [marks_len] at this
  exact this

end Go.Proofs.YtojlffnlenldiaaDoor.F
