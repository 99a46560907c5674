import Derived.Test.YtojlffnlenldiaaDoorP3
namespace Go.Proofs.YtojlffnlenldiaaDoor.F
open Go.RowKit Go.Proofs.YtojlffnlenldiaaDoorW.PrintWords Go.Proofs.YtojlffnlenldiaaDoorW.PrintLast Go.Proofs.YtojlffnlenldiaaDoorW.PrintMore
set_option linter.unusedVariables false
set_option linter.unusedSimpArgs false

/-! ### paths written -/
def pathF (p : List ByteArray) : List UInt8 := p.flatMap fun n => 47 :: bl n
def pathT (p : List ByteArray) : List UInt8 := if p = [] then [47] else pathF p
theorem pathF_append (a b : List ByteArray) : pathF (a ++ b) = pathF a ++ pathF b := by simp [pathF]
theorem l3Name_l0 (rest : List ByteArray) : ∀ (pre : List ByteArray), (pathF (pre ++ rest)).length ≤ 4611686018427387904 → (pre ++ rest).length ≤ 4611686018427387904 →
    Ev (fun k => spec_l3Name.l0 k (pre ++ rest) (bs (pathF pre)) (pre.length : Int)) (bs (pathT (pre ++ rest))) := by
  induction rest with
  | nil =>
    intro pre h hn
    refine Ev.step (fun k => rfl) ?_
    have h1 : ¬ ((pre.length : Nat) : Int) < ((pre.length : Nat) : Int) := by omega
    simp only [spec_l3Name.l0, List.append_nil, if_neg h1, toList_data, bs_toList]
    unfold pathT
    cases pre with
    | nil => simp [pathF]; exact Ev.now _
    | cons x r =>
      have : ¬ pathF (x :: r) = [] := by simp [pathF]
      simp only [if_neg this, if_neg (show ¬ (x :: r) = [] by simp)]
      exact Ev.now _
  | cons x r ih =>
    intro pre h hn
    refine Ev.step (fun k => rfl) ?_
    have hl : (pathF (pre ++ x :: r)).length = (pathF pre).length + 1 + x.size + (pathF r).length := by
      simp only [pathF_append, List.length_append]
      simp [pathF, bl_len]; omega
    have h1 : ((pre.length : Nat) : Int) < (((pre ++ x :: r).length : Nat) : Int) := by rw [List.length_append, List.length_cons]; omega
    have h2 : (0 : Int) ≤ (pre.length : Int) := by omega
    have h3 : (bs (pathF pre)).size + 1 ≤ 9223372036854775807 := by rw [bs_size]; omega
    have e1 : bs (pathF pre) ++ (⟨#[47]⟩ : ByteArray) = bs (pathF pre ++ [47]) := bs_append _ [47]
    have e2 : rdOf ByteArray.empty (pre ++ x :: r) (pre.length : Int) = x := by rw [rd_get _ _ (by simp)]; simp
    have h4 : (bs (pathF pre ++ [47])).size + x.size ≤ 9223372036854775807 := by rw [bs_size, List.length_append, List.length_singleton]; omega
    have e3 : bs (pathF pre ++ [47]) ++ x = bs (pathF (pre ++ [x])) := by
      rw [← bs_bl x, bs_append, pathF_append]
      simp [pathF, bl_bs]
    have hw : pre.length < 4611686018427387904 := by rw [List.length_append, List.length_cons] at hn; omega
    simp only [spec_l3Name.l0, if_pos h1, if_pos h2, if_pos h3, e1, e2, if_pos h4, e3, w64s (show pre.length < pre.length + 1 by omega) (show pre.length + 1 ≤ 4611686018427387904 by omega)]
    have h5 := ih (pre ++ [x]) (by rw [List.append_assoc]; exact h) (by rw [List.append_assoc]; exact hn)
    rw [List.append_assoc, List.length_append, List.length_singleton, List.singleton_append] at h5
    exact h5
theorem l3Name_ev (p : List ByteArray) (h : (pathF p).length ≤ 4611686018427387904) (hn : p.length ≤ 4611686018427387904) : Ev (fun k => spec_l3Name.f k p) (bs (pathT p)) := l3Name_l0 p [] h hn

/-! ### numbers written -/
theorem dd_len (n : Nat) : (Lib.decDigits n).length ≤ n + 1 := by
  induction n using Nat.strongRecOn with
  | ind n ih =>
    rw [Lib.decDigits]
    by_cases h : n < 10
    · rw [dif_pos h]; simp
    · rw [dif_neg h, List.length_append, List.length_singleton]
      have := ih (n / 10) (by omega)
      omega
theorem l1Dec_ev (n : Nat) (hn : n ≤ 4611686018427387904) : Ev (fun k => spec_l1Dec.f k (n : Int)) (bs (Lib.decDigits n)) := by
  induction n using Nat.strongRecOn with
  | ind n ih =>
    refine Ev.step (fun k => rfl) ?_
    have h1 : ¬ (n : Int) < (-9223372036854775807) := by omega
    have h2 : ¬ (n : Int) < 0 := by omega
    rw [Lib.decDigits]
    by_cases h : n < 10
    · have h3 : (n : Int) < 10 := by omega
      simp only [spec_l1Dec.f, if_neg h1, if_neg h2, if_pos h3, dif_pos h]
      have e : strOfNums [(wrap64 (48 + (n : Int))) % 256] = bs [UInt8.ofNat (48 + n)] := by
        rw [w64 (by omega) (by omega)]
        have : (((48 : Int) + (n : Int)) % 256).toNat = 48 + n := by omega
        simp [strOfNums, bs, this]
      rw [e]
      exact Ev.now _
    · have h3 : ¬ (n : Int) < 10 := by omega
      have h4 : Int.tdiv (n : Int) 10 = ((n / 10 : Nat) : Int) := by rw [Int.tdiv_eq_ediv_of_nonneg (by omega)]; omega
      simp only [spec_l1Dec.f, if_neg h1, if_neg h2, if_neg h3, dif_neg h, h4, w64 (show -9223372036854775808 ≤ ((n / 10 : Nat) : Int) by omega) (by omega), one_dig n hn, Option.bind_some]
      refine Ev.bind (ih (n / 10) (by omega) (by omega)) ?_
      have h5 : (bs (Lib.decDigits (n / 10))).size + (bs [UInt8.ofNat (48 + n % 10)]).size ≤ 9223372036854775807 := by
        rw [bs_size, bs_size, List.length_singleton]
        have := dd_len (n / 10)
        omega
      simp only [if_pos h5, bs_append]
      exact Ev.now _

/-! ### calls -/
structure Call where
  kind : Int
  path : List ByteArray
  dest : List ByteArray
  num : Int
  data : ByteArray
def between (a n b : Int) : Bool := decide (a ≤ n) && decide (n ≤ b)
def isCallB (c : Call) : Bool :=
  if c.kind = 1 ∨ c.kind = 6 then isPath 1 c.path && between 0 c.num 7
  else if c.kind = 2 ∨ c.kind = 3 then isPath 1 c.path && between 0 c.num 24
  else if c.kind = 4 then isPath 1 c.path
  else if c.kind = 5 then isPath 1 c.path && isPath 1 c.dest
  else false
theorem l2CallOk_ev (c : Call) (hp : Small c.path) (ht : Small c.dest) : Ev (fun k => spec_l2CallOk.f k c.kind c.path c.dest c.num c.data) (isCallB c) := by
  obtain ⟨kind, path, dest, num, data⟩ := c
  have nf : ¬ (false = true) := by decide
  have fin : ∀ (a b : Int), Ev (fun k => (spec_l2PathOk.f k path).bind fun t => (if t = true then ((spec_l1In.f num a b).bind fun u => (some u)) else (some false))) (isPath 1 path && between a num b) := by
    intro a b
    refine Ev.bind (l2PathOk_ev path hp) ?_
    cases isPath 1 path with
    | true => simp only [if_true, l1In_eq, Option.bind_some, Bool.true_and, between]; exact Ev.now _
    | false => simp only [if_neg nf, Bool.false_and]; exact Ev.now _
  unfold spec_l2CallOk.f isCallB
  dsimp only
  by_cases h1 : kind = 1
  · have b1 : (kind == 1) = true := beq_iff_eq.2 h1
    simp only [if_pos h1, if_pos (Or.inl h1 : kind = 1 ∨ kind = 6)]
    refine Ev.step (fun k => rfl) ?_
    simp only [spec_l2CallOk.j0, b1, if_true]
    exact fin 0 7
  · simp only [if_neg h1]
    refine Ev.step (fun k => rfl) ?_
    by_cases h6 : kind = 6
    · have b6 : (kind == 6) = true := beq_iff_eq.2 h6
      simp only [spec_l2CallOk.j0, b6, if_true, if_pos (Or.inr h6 : kind = 1 ∨ kind = 6)]
      exact fin 0 7
    · have b6 : (kind == 6) = false := beq_eq_false_iff_ne.2 h6
      have n16 : ¬ (kind = 1 ∨ kind = 6) := by rintro (h | h); exact h1 h; exact h6 h
      simp only [spec_l2CallOk.j0, b6, if_neg nf, if_neg n16]
      by_cases h2 : kind = 2
      · have b2 : (kind == 2) = true := beq_iff_eq.2 h2
        simp only [if_pos h2, if_pos (Or.inl h2 : kind = 2 ∨ kind = 3)]
        refine Ev.step (fun k => rfl) ?_
        simp only [spec_l2CallOk.j1, b2, if_true]
        exact fin 0 24
      · simp only [if_neg h2]
        refine Ev.step (fun k => rfl) ?_
        by_cases h3 : kind = 3
        · have b3 : (kind == 3) = true := beq_iff_eq.2 h3
          simp only [spec_l2CallOk.j1, b3, if_true, if_pos (Or.inr h3 : kind = 2 ∨ kind = 3)]
          exact fin 0 24
        · have b3 : (kind == 3) = false := beq_eq_false_iff_ne.2 h3
          have n23 : ¬ (kind = 2 ∨ kind = 3) := by rintro (h | h); exact h2 h; exact h3 h
          simp only [spec_l2CallOk.j1, b3, if_neg nf, if_neg n23]
          by_cases h4 : kind = 4
          · simp only [if_pos h4]
            exact Ev.bind (l2PathOk_ev path hp) (Ev.now _)
          · simp only [if_neg h4]
            by_cases h5 : kind = 5
            · simp only [if_pos h5]
              refine Ev.bind (l2PathOk_ev path hp) ?_
              cases isPath 1 path with
              | true => simp only [if_true, Bool.true_and]; exact Ev.bind (l2PathOk_ev dest ht) (Ev.now _)
              | false => simp only [if_neg nf, Bool.false_and]; exact Ev.now _
            · simp only [if_neg h5]
              exact Ev.now _
theorem isCall_ev (c : Call) (hp : Small c.path) (ht : Small c.dest) : Ev (fun k => impl_Call_isCall.f k c.kind c.path c.dest c.num c.data) (isCallB c) := by
  obtain ⟨kind, path, dest, num, data⟩ := c
  have nf : ¬ (false = true) := by decide
  unfold impl_Call_isCall.f isCallB
  dsimp only
  rw [within_eq]
  simp only [Option.bind_some]
  have stop : Ev (fun k => impl_Call_isCall.j0 k true kind path dest num data) false := by
    refine Ev.step (fun k => rfl) ?_
    simp only [impl_Call_isCall.j0, if_true]
    exact Ev.now _
  by_cases hk : 1 ≤ kind ∧ kind ≤ 6
  · have hk' : (decide (1 ≤ kind) && decide (kind ≤ 6)) = true := by simp [hk]
    simp only [hk', if_true]
    refine Ev.bind (namesOk_ev path 1 hp) ?_
    cases hP : isPath 1 path with
    | false => simp only [Bool.not_false, Bool.false_and]; simpa using stop
    | true =>
      simp only [Bool.not_true, Bool.true_and]
      refine Ev.step (fun k => rfl) ?_
      simp only [impl_Call_isCall.j0, if_neg nf]
      by_cases h16 : kind = 1 ∨ kind = 6
      · have go : Ev (fun k => impl_Call_isCall.j1 k kind true kind path dest num data) (between 0 num 7) := by
          refine Ev.step (fun k => rfl) ?_
          simp only [impl_Call_isCall.j1, if_true, impl_modeOk.f, within_eq, Option.bind_some, between]
          exact Ev.now _
        simp only [if_pos h16]
        by_cases h1 : kind = 1
        · have b1 : (kind == 1) = true := beq_iff_eq.2 h1
          simp only [if_pos h1, b1]
          exact go
        · have b6 : (kind == 6) = true := beq_iff_eq.2 (by omega)
          simp only [if_neg h1, b6]
          exact go
      · have h1 : ¬ kind = 1 := fun h => h16 (Or.inl h)
        have b6 : (kind == 6) = false := beq_eq_false_iff_ne.2 (fun h => h16 (Or.inr h))
        simp only [if_neg h16, if_neg h1, b6]
        refine Ev.step (fun k => rfl) ?_
        simp only [impl_Call_isCall.j1, if_neg nf]
        by_cases h23 : kind = 2 ∨ kind = 3
        · have go : Ev (fun k => impl_Call_isCall.j2 k kind true kind path dest num data) (between 0 num 24) := by
            refine Ev.step (fun k => rfl) ?_
            simp only [impl_Call_isCall.j2, if_true, within_eq, Option.bind_some, between]
            exact Ev.now _
          simp only [if_pos h23]
          by_cases h2 : kind = 2
          · have b2 : (kind == 2) = true := beq_iff_eq.2 h2
            simp only [if_pos h2, b2]
            exact go
          · have b3 : (kind == 3) = true := beq_iff_eq.2 (by omega)
            simp only [if_neg h2, b3]
            exact go
        · have h2 : ¬ kind = 2 := fun h => h23 (Or.inl h)
          have b3 : (kind == 3) = false := beq_eq_false_iff_ne.2 (fun h => h23 (Or.inr h))
          simp only [if_neg h23, if_neg h2, b3]
          refine Ev.step (fun k => rfl) ?_
          simp only [impl_Call_isCall.j2, if_neg nf]
          by_cases h5 : kind = 5
          · have h4 : ¬ kind = 4 := by omega
            simp only [if_pos h5, if_neg h4]
            exact Ev.bind (namesOk_ev dest 1 ht) (Ev.now _)
          · have h4 : kind = 4 := by omega
            simp only [if_neg h5, if_pos h4]
            exact Ev.now _
  · have hk' : (decide (1 ≤ kind) && decide (kind ≤ 6)) = false := by
      rw [Bool.eq_false_iff]
      intro h
      simp at h
      exact hk h
    simp only [hk', if_neg nf]
    simp only [if_neg (show ¬ (kind = 1 ∨ kind = 6) by omega), if_neg (show ¬ (kind = 2 ∨ kind = 3) by omega), if_neg (show ¬ kind = 4 by omega), if_neg (show ¬ kind = 5 by omega)]
    exact stop

/-! ### the place of a text; a prefix cut off -/
theorem Index_l0 (xs : List ByteArray) (y : ByteArray) (hs : xs.length ≤ 4611686018427387904) (d : Nat) : ∀ i : Nat, i + d = xs.length →
    Ev (fun k => slices_Index_string_string.l0 k xs y (xs.length : Int) i) (match (xs.drop i).findIdx? (fun x => decide (y = x)) with | some j => ((i + j : Nat) : Int) | none => -1) := by
  induction d with
  | zero =>
    intro i hi
    refine Ev.step (fun k => rfl) ?_
    have h1 : ¬ (i : Int) < (xs.length : Int) := by omega
    simp only [slices_Index_string_string.l0, if_neg h1, List.drop_eq_nil_of_le (show xs.length ≤ i by omega), List.findIdx?_nil]
    exact Ev.now _
  | succ d ih =>
    intro i hi
    refine Ev.step (fun k => rfl) ?_
    have h1 : (i : Int) < (xs.length : Int) := by omega
    have h2 : (0 : Int) ≤ (i : Int) := by omega
    have hl : i < xs.length := by omega
    have h := ih (i + 1) (by omega)
    rw [drop_get xs i hl]
    simp only [slices_Index_string_string.l0, if_pos h1, if_pos h2, rd_get xs i hl, toList_inj, w64s hl hs, List.findIdx?_cons]
    by_cases e : y = xs[i]
    · simp only [if_pos e, decide_eq_true e, if_true, Nat.add_zero]
      exact Ev.now _
    · simp only [if_neg e, decide_eq_false e, if_neg (show ¬ (false = true) by decide)]
      cases hf : (xs.drop (i + 1)).findIdx? (fun x => decide (y = x)) with
      | none => rw [hf] at h; exact h
      | some j =>
        rw [hf] at h
        simp only [Option.map_some]
        have : ((i + 1 + j : Nat) : Int) = ((i + (j + 1) : Nat) : Int) := by omega
        rw [← this]
        exact h
def idxOf (xs : List ByteArray) (y : ByteArray) : Int := match xs.findIdx? (fun x => decide (y = x)) with | some j => (j : Int) | none => -1
theorem Index_ev (xs : List ByteArray) (y : ByteArray) (hs : xs.length ≤ 4611686018427387904) : Ev (fun k => slices_Index_string_string.f k xs y) (idxOf xs y) := by
  have h := Index_l0 xs y hs xs.length 0 (by omega)
  simp only [List.drop_zero, Nat.zero_add] at h
  exact h
theorem take_one {α : Type} (l : List α) (h : 0 < l.length) : l.take 1 = [l[0]] := by
  cases l with
  | nil => simp at h
  | cons a r => simp
/-- Without a '/' ahead. -/
def noSlash (s : List UInt8) : List UInt8 := if s.head? = some 47 then s.tail else s
theorem TrimPrefix_eq (s : ByteArray) : strings_TrimPrefix.f s ⟨#[47]⟩ = some (bs (noSlash (bl s))) := by
  unfold strings_TrimPrefix.f stringslite_TrimPrefix.f stringslite_HasPrefix.f
  have hsz : (⟨#[47]⟩ : ByteArray).size = 1 := rfl
  rw [hsz]
  by_cases h : (s.size : Int) ≥ ((1 : Nat) : Int)
  · have h0 : (0 : Int) ≤ ((1 : Nat) : Int) := by omega
    have h1 : ((1 : Nat) : Int) ≤ (s.size : Int) := h
    have l0 : 0 < (bl s).length := by rw [bl_len]; omega
    have e0 : (s.extract 0 (((1 : Nat) : Int)).toNat).toList = [(bl s)[0]] := by
      rw [toList_data, show (s.extract 0 (((1 : Nat) : Int)).toNat).data.toList = ((bl s).drop 0).take 1 from bl_extract s 0 1, List.drop_zero]
      exact take_one (bl s) l0
    have e1 : (⟨#[47]⟩ : ByteArray).toList = [47] := by rw [toList_data]
    have e2 : s.extract (((1 : Nat) : Int)).toNat s.size = bs (bl s).tail := by
      rw [extract_bs, List.take_of_length_le (by rw [List.length_drop, bl_len]; omega)]
      simp
    have hh : (bl s).head? = some (bl s)[0] := by rw [List.head?_eq_getElem?, List.getElem?_eq_getElem l0]
    simp only [if_pos h, if_pos h0, if_pos h1, Option.bind_some, e0, e1, e2]
    unfold noSlash
    rw [hh]
    by_cases z : (bl s)[0] = 47
    · have : ([(bl s)[0]] == ([47] : List UInt8)) = true := by rw [z]; rfl
      simp only [this, if_true, Option.bind_some, z]
      rfl
    · have : ([(bl s)[0]] == ([47] : List UInt8)) = false := by simpa using z
      simp only [this, if_neg (show ¬ (false = true) by decide), Option.some.injEq, if_neg z]
      rfl
  · have e : bl s = [] := List.eq_nil_of_length_eq_zero (by rw [bl_len]; omega)
    simp only [if_neg h, Option.bind_some, if_neg (show ¬ (false = true) by decide), noSlash, e]
    have : s = bs [] := by rw [← e]; rfl
    rw [this]
    rfl

end Go.Proofs.YtojlffnlenldiaaDoor.F
