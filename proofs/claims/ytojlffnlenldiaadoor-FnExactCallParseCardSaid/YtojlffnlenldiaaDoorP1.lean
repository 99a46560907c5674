import Derived.Test.YtojlffnlenldiaaDoorH2
import Derived.Test.YtojlffnlenldiaaDoorB
import Derived.Test.YtojlffnlenldiaaDoorC
namespace Go.Proofs.YtojlffnlenldiaaDoor.F
open Go.RowKit Go.Proofs.YtojlffnlenldiaaDoorW.PrintWords Go.Proofs.YtojlffnlenldiaaDoorW.PrintLast Go.Proofs.YtojlffnlenldiaaDoorW.PrintMore
set_option linter.unusedVariables false
set_option linter.unusedSimpArgs false

theorem w64 {n : Int} (h0 : -9223372036854775808 ≤ n) (h1 : n ≤ 9223372036854775807) : wrap64 n = n := by unfold wrap64; omega
/-- The bytes. -/
abbrev bl (s : ByteArray) : List UInt8 := s.data.toList
theorem bl_len (s : ByteArray) : (bl s).length = s.size := by rw [Array.length_toList]; rfl
theorem bl_bs (l : List UInt8) : bl (bs l) = l := by simp [bs]
theorem bs_bl (s : ByteArray) : bs (bl s) = s := rfl
theorem bt_get (s : ByteArray) (i : Nat) (h : i < (bl s).length) : bt s i = ((bl s)[i]).toNat := by
  unfold bt
  rw [dif_pos (by rw [bl_len] at h; simpa using h)]
  rfl
theorem drop_get {α : Type} (l : List α) (i : Nat) (h : i < l.length) : l.drop i = l[i] :: l.drop (i + 1) := List.drop_eq_getElem_cons h
theorem rd_get (xs : List ByteArray) (i : Nat) (h : i < xs.length) : rdOf ByteArray.empty xs i = xs[i] := by
  simp [rdOf, List.getD_eq_getElem?_getD, List.getElem?_eq_getElem h]
theorem w64s {i n : Nat} (h : i < n) (hn : n ≤ 4611686018427387904) : wrap64 ((i : Int) + 1) = ((i + 1 : Nat) : Int) := by rw [w64 (by omega) (by omega)]; omega

/-! ### names and paths -/
def isCh (b : UInt8) : Bool := (97 ≤ b.toNat && b.toNat ≤ 122) || (48 ≤ b.toNat && b.toNat ≤ 57)
def isName (l : List UInt8) : Bool := l.all isCh && (decide (1 ≤ l.length) && decide (l.length ≤ 5))
def isPath (least : Nat) (p : List ByteArray) : Bool := p.all (fun n => isName (bl n)) && (decide (least ≤ p.length) && decide (p.length ≤ 4))

theorem l1In_eq (a b c : Int) : spec_l1In.f a b c = some (decide (b ≤ a) && decide (a ≤ c)) := by
  unfold spec_l1In.f
  by_cases h : b ≤ a <;> simp [h]
theorem within_eq (a b c : Int) : impl_within.f a b c = some (decide (b ≤ a) && decide (a ≤ c)) := by
  unfold impl_within.f
  by_cases h : b ≤ a <;> simp [h]
theorem dec_nat (a b : Nat) : decide ((a : Int) ≤ (b : Int)) = decide (a ≤ b) := by simp
theorem nameLen (s : ByteArray) : (decide ((1 : Int) ≤ (s.size : Int)) && decide ((s.size : Int) ≤ 5)) = (decide (1 ≤ (bl s).length) && decide ((bl s).length ≤ 5)) := by
  rw [bl_len, show (1 : Int) = ((1 : Nat) : Int) from rfl, show (5 : Int) = ((5 : Nat) : Int) from rfl, dec_nat, dec_nat]

theorem l1NameOk_l0 (s : ByteArray) (hs : s.size ≤ 4611686018427387904) (d : Nat) : ∀ i : Nat, i + d = s.size → Ev (fun k => spec_l1NameOk.l0 k s i) (((bl s).drop i).all isCh && (decide (1 ≤ (bl s).length) && decide ((bl s).length ≤ 5))) := by
  induction d with
  | zero =>
    intro i hi
    refine Ev.step (fun k => rfl) ?_
    have h1 : ¬ (i : Int) < (s.size : Int) := by omega
    rw [List.drop_eq_nil_of_le (by rw [bl_len]; omega)]
    simp only [spec_l1NameOk.l0, if_neg h1, l1In_eq, Option.bind_some, nameLen]
    exact Ev.now _
  | succ d ih =>
    intro i hi
    refine Ev.step (fun k => rfl) ?_
    have h1 : (i : Int) < (s.size : Int) := by omega
    have h2 : (0 : Int) ≤ (i : Int) := by omega
    have hl : i < (bl s).length := by rw [bl_len]; omega
    have h := ih (i + 1) (by omega)
    rw [drop_get (bl s) i hl]
    simp only [spec_l1NameOk.l0, if_pos h1, if_pos h2, bt_get s i hl, w64s (show i < s.size by omega) hs, List.all_cons]
    generalize (bl s)[i] = b
    by_cases a1 : (97 : Int) ≤ b.toNat
    · by_cases a2 : (b.toNat : Int) ≤ 122
      · simp only [ge_iff_le, if_pos a1, if_pos a2]
        have : isCh b = true := by simp [isCh]; omega
        simp only [this, Bool.true_and]
        exact h
      · have a3 : (48 : Int) ≤ b.toNat := by omega
        have a4 : ¬ (b.toNat : Int) ≤ 57 := by omega
        simp only [ge_iff_le, if_pos a1, if_neg a2, if_pos a3, if_neg a4]
        have : isCh b = false := by simp [isCh]; omega
        simp only [this, Bool.false_and]
        exact Ev.now _
    · by_cases a3 : (48 : Int) ≤ b.toNat
      · by_cases a4 : (b.toNat : Int) ≤ 57
        · simp only [ge_iff_le, if_neg a1, if_pos a3, if_pos a4]
          have : isCh b = true := by simp [isCh]; omega
          simp only [this, Bool.true_and]
          exact h
        · simp only [ge_iff_le, if_neg a1, if_pos a3, if_neg a4]
          have : isCh b = false := by simp [isCh]; omega
          simp only [this, Bool.false_and]
          exact Ev.now _
      · simp only [ge_iff_le, if_neg a1, if_neg a3]
        have : isCh b = false := by simp [isCh]; omega
        simp only [this, Bool.false_and]
        exact Ev.now _
theorem l1NameOk_ev (s : ByteArray) (hs : s.size ≤ 4611686018427387904) : Ev (fun k => spec_l1NameOk.f k s) (isName (bl s)) := by
  have := l1NameOk_l0 s hs s.size 0 (by omega)
  exact this

theorem nameOk_l0 (s : ByteArray) (hs : s.size ≤ 4611686018427387904) (d : Nat) : ∀ i : Nat, i + d = s.size → Ev (fun k => impl_nameOk.l0 k s (s.size : Int) i) (((bl s).drop i).all isCh && (decide (1 ≤ (bl s).length) && decide ((bl s).length ≤ 5))) := by
  induction d with
  | zero =>
    intro i hi
    refine Ev.step (fun k => rfl) ?_
    have h1 : ¬ (i : Int) < (s.size : Int) := by omega
    rw [List.drop_eq_nil_of_le (by rw [bl_len]; omega)]
    simp only [impl_nameOk.l0, if_neg h1, within_eq, Option.bind_some, nameLen]
    exact Ev.now _
  | succ d ih =>
    intro i hi
    refine Ev.step (fun k => rfl) ?_
    have h1 : (i : Int) < (s.size : Int) := by omega
    have h2 : (0 : Int) ≤ (i : Int) := by omega
    have hl : i < (bl s).length := by rw [bl_len]; omega
    have h := ih (i + 1) (by omega)
    rw [drop_get (bl s) i hl]
    simp only [impl_nameOk.l0, if_pos h1, if_pos h2, bt_get s i hl, w64s (show i < s.size by omega) hs, List.all_cons]
    generalize (bl s)[i] = b
    by_cases hc : isCh b = true
    · simp only [hc, Bool.true_and]
      simp [isCh] at hc
      by_cases a1 : (b.toNat : Int) < 97
      · have a3 : ¬ (b.toNat : Int) < 48 := by omega
        have a4 : ¬ (b.toNat : Int) > 57 := by omega
        simp only [if_pos a1, if_neg a3, if_neg a4]
        exact h
      · have a2 : ¬ (b.toNat : Int) > 122 := by omega
        simp only [if_neg a1, if_neg a2]
        exact h
    · have hc' : isCh b = false := by simpa using hc
      simp only [hc', Bool.false_and]
      simp [isCh] at hc'
      by_cases a1 : (b.toNat : Int) < 97
      · by_cases a3 : (b.toNat : Int) < 48
        · simp only [if_pos a1, if_pos a3]
          exact Ev.now _
        · have a4 : (b.toNat : Int) > 57 := by omega
          simp only [if_pos a1, if_neg a3, if_pos a4]
          exact Ev.now _
      · have a2 : (b.toNat : Int) > 122 := by omega
        have a3 : ¬ (b.toNat : Int) < 48 := by omega
        have a4 : (b.toNat : Int) > 57 := by omega
        simp only [if_neg a1, if_pos a2, if_neg a3, if_pos a4]
        exact Ev.now _
theorem nameOk_ev (s : ByteArray) (hs : s.size ≤ 4611686018427387904) : Ev (fun k => impl_nameOk.f k s) (isName (bl s)) := nameOk_l0 s hs s.size 0 (by omega)

/-- Sizes that can be reckoned with. -/
def Small (p : List ByteArray) : Prop := p.length ≤ 4611686018427387904 ∧ ∀ s ∈ p, s.size ≤ 4611686018427387904

theorem l2PathOk_l0 (p : List ByteArray) (hp : Small p) (d : Nat) : ∀ i : Nat, i + d = p.length → Ev (fun k => spec_l2PathOk.l0 k p i) ((p.drop i).all (fun n => isName (bl n)) && (decide (1 ≤ p.length) && decide (p.length ≤ 4))) := by
  induction d with
  | zero =>
    intro i hi
    refine Ev.step (fun k => rfl) ?_
    have h1 : ¬ (i : Int) < (p.length : Int) := by omega
    rw [List.drop_eq_nil_of_le (by omega)]
    simp only [spec_l2PathOk.l0, if_neg h1, l1In_eq, Option.bind_some, show (1 : Int) = ((1 : Nat) : Int) from rfl, show (4 : Int) = ((4 : Nat) : Int) from rfl, dec_nat]
    exact Ev.now _
  | succ d ih =>
    intro i hi
    refine Ev.step (fun k => rfl) ?_
    have h1 : (i : Int) < (p.length : Int) := by omega
    have h2 : (0 : Int) ≤ (i : Int) := by omega
    have hl : i < p.length := by omega
    have h := ih (i + 1) (by omega)
    rw [drop_get p i hl]
    simp only [spec_l2PathOk.l0, if_pos h1, if_pos h2, rd_get p i hl, w64s hl hp.1, List.all_cons]
    refine Ev.bind (l1NameOk_ev _ (hp.2 _ (List.getElem_mem hl))) ?_
    cases isName (bl p[i]) with
    | true => simp only [if_true, Bool.true_and]; exact h
    | false => simp only [Bool.false_and, if_neg (show ¬ (false = true) by decide)]; exact Ev.now _
theorem l2PathOk_ev (p : List ByteArray) (hp : Small p) : Ev (fun k => spec_l2PathOk.f k p) (isPath 1 p) := l2PathOk_l0 p hp p.length 0 (by omega)

theorem namesOk_l0 (p : List ByteArray) (least : Nat) (hp : Small p) (d : Nat) : ∀ i : Nat, i + d = p.length → Ev (fun k => impl_namesOk.l0 k p (least : Int) p (p.length : Int) i) ((p.drop i).all (fun n => isName (bl n)) && (decide (least ≤ p.length) && decide (p.length ≤ 4))) := by
  induction d with
  | zero =>
    intro i hi
    refine Ev.step (fun k => rfl) ?_
    have h1 : ¬ (i : Int) < (p.length : Int) := by omega
    rw [List.drop_eq_nil_of_le (by omega)]
    simp only [impl_namesOk.l0, if_neg h1, within_eq, Option.bind_some, show (4 : Int) = ((4 : Nat) : Int) from rfl, dec_nat]
    exact Ev.now _
  | succ d ih =>
    intro i hi
    refine Ev.step (fun k => rfl) ?_
    have h1 : (i : Int) < (p.length : Int) := by omega
    have h2 : (0 : Int) ≤ (i : Int) := by omega
    have hl : i < p.length := by omega
    have h := ih (i + 1) (by omega)
    rw [drop_get p i hl]
    simp only [impl_namesOk.l0, if_pos h1, if_pos h2, rd_get p i hl, w64s hl hp.1, List.all_cons]
    refine Ev.bind (nameOk_ev _ (hp.2 _ (List.getElem_mem hl))) ?_
    cases isName (bl p[i]) with
    | true => simp only [if_true, Bool.true_and]; exact h
    | false => simp only [Bool.false_and, if_neg (show ¬ (false = true) by decide)]; exact Ev.now _
theorem namesOk_ev (p : List ByteArray) (least : Nat) (hp : Small p) : Ev (fun k => impl_namesOk.f k p (least : Int)) (isPath least p) := namesOk_l0 p least hp p.length 0 (by omega)

end Go.Proofs.YtojlffnlenldiaaDoor.F
