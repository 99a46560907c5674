import Derived.Test.YtojlffnlenldiaaDoorP2
namespace Go.Proofs.YtojlffnlenldiaaDoor.F
open Go.RowKit Go.Proofs.YtojlffnlenldiaaDoorW.PrintWords Go.Proofs.YtojlffnlenldiaaDoorW.PrintLast Go.Proofs.YtojlffnlenldiaaDoorW.PrintMore
set_option linter.unusedVariables false
set_option linter.unusedSimpArgs false

/-! ### figures read -/
def nib (b : UInt8) : Int := if 48 ≤ b.toNat ∧ b.toNat ≤ 57 then b.toNat - 48 else if 97 ≤ b.toNat ∧ b.toNat ≤ 102 then b.toNat - 87 else if 65 ≤ b.toNat ∧ b.toNat ≤ 70 then b.toNat - 55 else -1
theorem nib_le (b : UInt8) : -1 ≤ nib b ∧ nib b ≤ 15 := by unfold nib; (repeat' split) <;> omega
theorem nibble_ev (b : UInt8) : Ev (fun k => impl_nibble.f k (b.toNat : Int)) (nib b) := by
  have hb := b.toNat_lt
  unfold impl_nibble.f
  by_cases a : (b.toNat : Int) ≥ 48
  · simp only [if_pos a]
    refine Ev.step (fun k => rfl) ?_
    by_cases c : (b.toNat : Int) ≤ 57
    · simp only [impl_nibble.j0, decide_eq_true c, if_true]
      have : nib b = ((b.toNat : Int) - 48) % 256 := by unfold nib; rw [if_pos (by omega)]; omega
      rw [this]; exact Ev.now _
    · simp only [impl_nibble.j0, decide_eq_false c, if_neg (show ¬ (false = true) by decide)]
      by_cases d : (b.toNat : Int) ≥ 97
      · simp only [if_pos d]
        refine Ev.step (fun k => rfl) ?_
        by_cases e : (b.toNat : Int) ≤ 102
        · simp only [impl_nibble.j1, decide_eq_true e, if_true]
          have : nib b = (((b.toNat : Int) - 97) % 256) + 10 := by unfold nib; rw [if_neg (by omega), if_pos (by omega)]; omega
          rw [this]; exact Ev.now _
        · have f : ¬ (b.toNat : Int) ≤ 70 := by omega
          have g : (b.toNat : Int) ≥ 65 := by omega
          simp only [impl_nibble.j1, decide_eq_false e, if_neg (show ¬ (false = true) by decide), if_pos g, if_neg f]
          have : nib b = -1 := by unfold nib; rw [if_neg (by omega), if_neg (by omega), if_neg (by omega)]
          rw [this]; exact Ev.now _
      · simp only [if_neg d]
        refine Ev.step (fun k => rfl) ?_
        by_cases g : (b.toNat : Int) ≥ 65
        · by_cases f : (b.toNat : Int) ≤ 70
          · simp only [impl_nibble.j1, if_neg (show ¬ (false = true) by decide), if_pos g, if_pos f]
            have : nib b = (((b.toNat : Int) - 65) % 256) + 10 := by unfold nib; rw [if_neg (by omega), if_neg (by omega), if_pos (by omega)]; omega
            rw [this]; exact Ev.now _
          · simp only [impl_nibble.j1, if_neg (show ¬ (false = true) by decide), if_pos g, if_neg f]
            have : nib b = -1 := by unfold nib; rw [if_neg (by omega), if_neg (by omega), if_neg (by omega)]
            rw [this]; exact Ev.now _
        · simp only [impl_nibble.j1, if_neg (show ¬ (false = true) by decide), if_neg g]
          have : nib b = -1 := by unfold nib; rw [if_neg (by omega), if_neg (by omega), if_neg (by omega)]
          rw [this]; exact Ev.now _
  · simp only [if_neg a]
    refine Ev.step (fun k => rfl) ?_
    have d : ¬ (b.toNat : Int) ≥ 97 := by omega
    simp only [impl_nibble.j0, if_neg (show ¬ (false = true) by decide), if_neg d]
    refine Ev.step (fun k => rfl) ?_
    have g : ¬ (b.toNat : Int) ≥ 65 := by omega
    simp only [impl_nibble.j1, if_neg (show ¬ (false = true) by decide), if_neg g]
    have : nib b = -1 := by unfold nib; rw [if_neg (by omega), if_neg (by omega), if_neg (by omega)]
    rw [this]; exact Ev.now _

def unhexL : List UInt8 → List UInt8
  | a :: b :: r => if 0 ≤ nib a ∧ 0 ≤ nib b then UInt8.ofNat (16 * nib a + nib b).toNat :: unhexL r else []
  | _ => []
theorem unhex_l0 (s : ByteArray) (hs : s.size ≤ 4194304) (d : Nat) : ∀ (i : Nat) (out : List UInt8), s.size ≤ i + d → i ≤ s.size + 1 → out.length ≤ i → Ev (fun k => impl_unhex.l0 k s (ints out) i) (bs (out ++ unhexL ((bl s).drop i))) := by
  induction d using Nat.strongRecOn with
  | ind d ih =>
    intro i out hi hi2 ho
    have stop : Ev (fun k => impl_unhex.j1 k s (ints out) i false) (bs (out ++ [])) := by
      refine Ev.step (fun k => rfl) ?_
      simp only [impl_unhex.j1, if_neg (show ¬ (false = true) by decide), strOf_ints, List.append_nil]
      exact Ev.now _
    refine Ev.step (fun k => rfl) ?_
    by_cases h : i + 1 < s.size
    · have w1 : wrap64 ((i : Int) + 1) = ((i + 1 : Nat) : Int) := w64s (show i < s.size by omega) (by omega)
      have h1 : ((i + 1 : Nat) : Int) < (s.size : Int) := by omega
      have h2 : (0 : Int) ≤ (i : Int) := by omega
      have h3 : (i : Int) < (s.size : Int) := by omega
      have h4 : (0 : Int) ≤ ((i + 1 : Nat) : Int) := by omega
      have l0 : i < (bl s).length := by rw [bl_len]; omega
      have l1 : i + 1 < (bl s).length := by rw [bl_len]; omega
      rw [drop_get (bl s) i l0, drop_get (bl s) (i + 1) l1]
      simp only [impl_unhex.l0, w1, if_pos h1, if_pos h2, if_pos h3, if_pos h4, bt_get s i l0, bt_get s (i + 1) l1]
      generalize hA : (bl s)[i] = A at *
      generalize hB : (bl s)[i + 1] = B at *
      refine Ev.bind (nibble_ev A) ?_
      by_cases ha : 0 ≤ nib A
      · simp only [ge_iff_le, if_pos ha]
        refine Ev.bind (nibble_ev B) ?_
        by_cases hb : 0 ≤ nib B
        · simp only [decide_eq_true hb]
          have hc : (ints out).length < 140737488355328 := by rw [ints_len]; omega
          have na := nib_le A
          have nb := nib_le B
          have w2 : wrap64 ((i : Int) + 2) = ((i + 2 : Nat) : Int) := by rw [w64 (by omega) (by omega)]; omega
          have w3 : (wrap64 ((wrap64 (16 * nib A)) + nib B)) % 256 = 16 * nib A + nib B := by rw [w64 (n := 16 * nib A) (by omega) (by omega), w64 (by omega) (by omega)]; omega
          refine Ev.step (fun k => rfl) ?_
          simp only [impl_unhex.j1, if_true, if_pos h2, if_pos h3, w1, if_pos h4, if_pos h1, bt_get s i l0, bt_get s (i + 1) l1, hA, hB]
          refine Ev.bind (nibble_ev A) ?_
          refine Ev.bind (nibble_ev B) ?_
          simp only [if_pos hc, w2, w3]
          have e : ints out ++ [16 * nib A + nib B] = ints (out ++ [UInt8.ofNat (16 * nib A + nib B).toNat]) := by
            simp only [ints, List.map_append, List.map_cons, List.map_nil]
            congr 2
            rw [UInt8.toNat_ofNat']
            have : (16 * nib A + nib B).toNat < 256 := by omega
            omega
          rw [e]
          have h5 := ih (d - 2) (by omega) (i + 2) (out ++ [UInt8.ofNat (16 * nib A + nib B).toNat]) (by omega) (by omega) (by rw [List.length_append, List.length_singleton]; omega)
          rw [unhexL, if_pos ⟨ha, hb⟩]
          rw [List.append_assoc, List.singleton_append] at h5
          exact h5
        · simp only [decide_eq_false hb]
          rw [unhexL, if_neg (fun h => hb h.2)]
          exact stop
      · simp only [ge_iff_le, if_neg ha]
        rw [unhexL, if_neg (fun h => ha h.1)]
        exact stop
    · have h1 : ¬ (wrap64 ((i : Int) + 1) < (s.size : Int)) := by rw [w64 (by omega) (by omega)]; omega
      have hu : unhexL ((bl s).drop i) = [] := by
        have hl : ((bl s).drop i).length ≤ 1 := by rw [List.length_drop, bl_len]; omega
        rcases h' : (bl s).drop i with _ | ⟨a, _ | ⟨b, r⟩⟩
        · rfl
        · rfl
        · rw [h'] at hl; simp at hl
      rw [hu]
      simp only [impl_unhex.l0, if_neg h1]
      exact stop
theorem unhex_ev (s : ByteArray) (hs : s.size ≤ 4194304) : Ev (fun k => impl_unhex.f k s) (bs (unhexL (bl s))) := unhex_l0 s hs s.size 0 [] (by omega) (by omega) (Nat.le_refl _)
theorem dataRead_ev (s : ByteArray) (hs : s.size ≤ 4194304) : Ev (fun k => impl_dataRead.f k s) (bs (unhexL (bl s))) := by
  unfold impl_dataRead.f
  exact Ev.bind (unhex_ev s hs) (Ev.now _)


/-! ### the reference's figures -/
def digV (b : UInt8) : Int := if 48 ≤ b.toNat ∧ b.toNat ≤ 57 then b.toNat - 48 else if 97 ≤ b.toNat ∧ b.toNat ≤ 102 then b.toNat - 87 else 99
theorem digV_le (b : UInt8) : 0 ≤ digV b ∧ digV b ≤ 99 := by unfold digV; (repeat' split) <;> omega
theorem l1Digit_ev (b : UInt8) : Ev (fun k => spec_l1Digit.f k (b.toNat : Int)) (digV b) := by
  have hb := b.toNat_lt
  unfold spec_l1Digit.f
  by_cases a : (b.toNat : Int) ≥ 48
  · simp only [if_pos a]
    refine Ev.step (fun k => rfl) ?_
    by_cases c : (b.toNat : Int) ≤ 57
    · simp only [spec_l1Digit.j0, decide_eq_true c, if_true]
      have : digV b = ((b.toNat : Int) - 48) % 256 := by unfold digV; rw [if_pos (by omega)]; omega
      rw [this]; exact Ev.now _
    · simp only [spec_l1Digit.j0, decide_eq_false c, if_neg (show ¬ (false = true) by decide)]
      by_cases d : (b.toNat : Int) ≥ 97
      · by_cases e : (b.toNat : Int) ≤ 102
        · simp only [if_pos d, if_pos e]
          have : digV b = (((b.toNat : Int) - 97) % 256) + 10 := by unfold digV; rw [if_neg (by omega), if_pos (by omega)]; omega
          rw [this]; exact Ev.now _
        · simp only [if_pos d, if_neg e]
          have : digV b = 99 := by unfold digV; rw [if_neg (by omega), if_neg (by omega)]
          rw [this]; exact Ev.now _
      · simp only [if_neg d]
        have : digV b = 99 := by unfold digV; rw [if_neg (by omega), if_neg (by omega)]
        rw [this]; exact Ev.now _
  · have d : ¬ (b.toNat : Int) ≥ 97 := by omega
    simp only [if_neg a]
    refine Ev.step (fun k => rfl) ?_
    simp only [spec_l1Digit.j0, if_neg (show ¬ (false = true) by decide), if_neg d]
    have : digV b = 99 := by unfold digV; rw [if_neg (by omega), if_neg (by omega)]
    rw [this]; exact Ev.now _
/-- Bytes of figures. -/
def bytesGo : List UInt8 → List UInt8 → List UInt8 × Bool
  | out, a :: b :: r => if 15 < digV a then ([], false) else if 15 < digV b then ([], false) else bytesGo (out ++ [UInt8.ofNat (16 * digV a + digV b).toNat]) r
  | out, _ => (out, true)
def bytesL (s : List UInt8) : List UInt8 × Bool := if s = [45] then ([], true) else if s.length % 2 = 1 ∨ s = [] then ([], false) else bytesGo [] s
theorem l1Bytes_l0 (s : ByteArray) (hs : s.size ≤ 4194304) (he : s.size % 2 = 0) (d : Nat) : ∀ (i : Nat) (out : List UInt8), s.size = i + 2 * d → out.length ≤ i →
    Ev (fun k => spec_l1Bytes.l0 k s (ints out) i) (bs (bytesGo out ((bl s).drop i)).1, (bytesGo out ((bl s).drop i)).2) := by
  induction d with
  | zero =>
    intro i out hi ho
    refine Ev.step (fun k => rfl) ?_
    have h1 : ¬ (i : Int) < (s.size : Int) := by omega
    have e : (bl s).drop i = [] := List.drop_eq_nil_of_le (by rw [bl_len]; omega)
    simp only [spec_l1Bytes.l0, if_neg h1, e, bytesGo, strOf_ints]
    exact Ev.now _
  | succ d ih =>
    intro i out hi ho
    refine Ev.step (fun k => rfl) ?_
    have w1 : wrap64 ((i : Int) + 1) = ((i + 1 : Nat) : Int) := w64s (show i < s.size by omega) (by omega)
    have h1 : ((i + 1 : Nat) : Int) < (s.size : Int) := by omega
    have h2 : (0 : Int) ≤ (i : Int) := by omega
    have h3 : (i : Int) < (s.size : Int) := by omega
    have h4 : (0 : Int) ≤ ((i + 1 : Nat) : Int) := by omega
    have l0 : i < (bl s).length := by rw [bl_len]; omega
    have l1 : i + 1 < (bl s).length := by rw [bl_len]; omega
    rw [drop_get (bl s) i l0, drop_get (bl s) (i + 1) l1]
    simp only [spec_l1Bytes.l0, w1, if_pos h1, if_pos h2, if_pos h3, if_pos h4, bt_get s i l0, bt_get s (i + 1) l1]
    generalize (bl s)[i] = A at *
    generalize (bl s)[i + 1] = B at *
    refine Ev.bind (l1Digit_ev A) ?_
    refine Ev.bind (l1Digit_ev B) ?_
    have na := digV_le A
    have nb := digV_le B
    rw [bytesGo]
    by_cases ha : 15 < digV A
    · simp only [gt_iff_lt, if_pos ha]
      exact Ev.now _
    · by_cases hb : 15 < digV B
      · simp only [gt_iff_lt, if_neg ha, if_pos hb]
        exact Ev.now _
      · have hc : (ints out).length < 140737488355328 := by rw [ints_len]; omega
        have w2 : wrap64 ((i : Int) + 2) = ((i + 2 : Nat) : Int) := by rw [w64 (by omega) (by omega)]; omega
        have w3 : (wrap64 ((wrap64 (16 * digV A)) + digV B)) % 256 = 16 * digV A + digV B := by rw [w64 (n := 16 * digV A) (by omega) (by omega), w64 (by omega) (by omega)]; omega
        have e : ints out ++ [16 * digV A + digV B] = ints (out ++ [UInt8.ofNat (16 * digV A + digV B).toNat]) := by
          simp only [ints, List.map_append, List.map_cons, List.map_nil]
          congr 2
          rw [UInt8.toNat_ofNat']
          have : (16 * digV A + digV B).toNat < 256 := by omega
          omega
        simp only [gt_iff_lt, if_neg ha, if_neg hb, if_pos hc, w2, w3, e]
        exact ih (i + 2) (out ++ [UInt8.ofNat (16 * digV A + digV B).toNat]) (by omega) (by rw [List.length_append, List.length_singleton]; omega)
theorem l1Bytes_ev (s : ByteArray) (hs : s.size ≤ 4194304) : Ev (fun k => spec_l1Bytes.f k s) (bs (bytesL (bl s)).1, (bytesL (bl s)).2) := by
  unfold spec_l1Bytes.f bytesL
  simp only [Option.bind_some, toList_data]
  by_cases h : bl s = [45]
  · have h' : s.data.toList = [45] := h
    simp only [if_pos h', if_pos h]
    exact Ev.now _
  · have h' : ¬ s.data.toList = [45] := h
    simp only [if_neg h', if_neg h, bl_len]
    by_cases e : s.size % 2 = 1
    · have e' : (s.size : Int) % 2 = 1 := by omega
      simp only [if_pos e', if_pos (Or.inl e : s.size % 2 = 1 ∨ bl s = [])]
      refine Ev.step (fun k => rfl) ?_
      simp only [spec_l1Bytes.j0, if_true]
      exact Ev.now _
    · have e' : ¬ (s.size : Int) % 2 = 1 := by omega
      simp only [if_neg e']
      refine Ev.step (fun k => rfl) ?_
      by_cases g : bl s = []
      · have g' : (s.data.toList == ([] : List UInt8)) = true := beq_iff_eq.2 g
        simp only [spec_l1Bytes.j0, g', if_true, if_pos (Or.inr g : s.size % 2 = 1 ∨ bl s = [])]
        exact Ev.now _
      · have g' : (s.data.toList == ([] : List UInt8)) = false := beq_eq_false_iff_ne.2 g
        have ng : ¬ (s.size % 2 = 1 ∨ bl s = []) := by rintro (h | h); exact e h; exact g h
        simp only [spec_l1Bytes.j0, g', if_neg (show ¬ (false = true) by decide), if_neg ng]
        have := l1Bytes_l0 s hs (by omega) (s.size / 2) 0 [] (by omega) (Nat.le_refl _)
        exact this

/-! ### numbers -/
def numGo : Int → List UInt8 → Int
  | n, [] => n
  | n, b :: r => if b.toNat < 48 ∨ 57 < b.toNat then -1 else numGo (n * 10 + (b.toNat - 48)) r
def num22 (s : List UInt8) : Int := if 1 ≤ s.length ∧ s.length ≤ 5 then (if 1 < s.length ∧ s.head? = some 48 then -1 else numGo 0 s) else -1
theorem l22Num_l0 (s : ByteArray) (hs : s.size ≤ 5) (d : Nat) : ∀ (i : Nat) (n : Int), i + d = s.size → 0 ≤ n → n < 10 ^ i → Ev (fun k => spec_l22Num.l0 k s n i) (numGo n ((bl s).drop i)) := by
  induction d with
  | zero =>
    intro i n hi h0 h1
    refine Ev.step (fun k => rfl) ?_
    have h1 : ¬ (i : Int) < (s.size : Int) := by omega
    rw [List.drop_eq_nil_of_le (by rw [bl_len]; omega)]
    simp only [spec_l22Num.l0, if_neg h1, numGo]
    exact Ev.now _
  | succ d ih =>
    intro i n hi h0 h10
    refine Ev.step (fun k => rfl) ?_
    have h1 : (i : Int) < (s.size : Int) := by omega
    have h2 : (0 : Int) ≤ (i : Int) := by omega
    have l0 : i < (bl s).length := by rw [bl_len]; omega
    rw [drop_get (bl s) i l0]
    simp only [spec_l22Num.l0, if_pos h1, if_pos h2, bt_get s i l0, w64s (show i < s.size by omega) (by omega), numGo]
    generalize (bl s)[i] = b
    have hb := b.toNat_lt
    by_cases a : (b.toNat : Int) < 48
    · have a' : b.toNat < 48 ∨ 57 < b.toNat := by omega
      simp only [if_pos a, if_pos a']
      exact Ev.now _
    · by_cases c : (b.toNat : Int) > 57
      · have a' : b.toNat < 48 ∨ 57 < b.toNat := by omega
        simp only [if_neg a, if_pos c, if_pos a']
        exact Ev.now _
      · have a' : ¬ (b.toNat < 48 ∨ 57 < b.toNat) := by omega
        have hp : (10 : Int) ^ i ≤ 100000 := by
          have hi4 : i = 0 ∨ i = 1 ∨ i = 2 ∨ i = 3 ∨ i = 4 := by omega
          rcases hi4 with h | h | h | h | h <;> (rw [h]; decide)
        have e : wrap64 ((wrap64 (n * 10)) + (((b.toNat : Int) - 48) % 256)) = n * 10 + ((b.toNat : Int) - 48) := by
          rw [w64 (n := n * 10) (by omega) (by omega), w64 (by omega) (by omega)]; omega
        simp only [if_neg a, if_neg c, if_neg a', e]
        refine ih (i + 1) _ (by omega) (by omega) ?_
        rw [Int.pow_succ]
        omega
theorem l22Num_ev (s : ByteArray) (hs : s.size ≤ 4194304) : Ev (fun k => spec_l22Num.f k s) (num22 (bl s)) := by
  have hin : spec_l21In.f (s.size : Int) 1 5 = some (decide (1 ≤ s.size ∧ s.size ≤ 5)) := by
    unfold spec_l21In.f
    by_cases a : (s.size : Int) ≥ 1
    · by_cases b : s.size ≤ 5
      · have : ((s.size : Int) ≤ 5) := by omega
        simp only [if_pos a, decide_eq_true this, decide_eq_true (show 1 ≤ s.size ∧ s.size ≤ 5 by omega)]
      · have : ¬ ((s.size : Int) ≤ 5) := by omega
        simp only [if_pos a, decide_eq_false this, decide_eq_false (show ¬ (1 ≤ s.size ∧ s.size ≤ 5) by omega)]
    · simp only [if_neg a, decide_eq_false (show ¬ (1 ≤ s.size ∧ s.size ≤ 5) by omega)]
  unfold spec_l22Num.f num22
  rw [hin, bl_len]
  simp only [Option.bind_some]
  by_cases h : 1 ≤ s.size ∧ s.size ≤ 5
  · have run := l22Num_l0 s h.2 s.size 0 0 (by omega) (by omega) (by omega)
    simp only [decide_eq_true h, if_true, if_pos h]
    by_cases g : 1 < s.size
    · have g' : (s.size : Int) > 1 := by omega
      have g0 : (0 : Int) < (s.size : Int) := by omega
      have l0 : 0 < (bl s).length := by rw [bl_len]; omega
      have hb0 : bt s 0 = ((bl s)[0].toNat : Int) := bt_get s 0 l0
      have hh : (bl s).head? = some (bl s)[0] := by rw [List.head?_eq_getElem?, List.getElem?_eq_getElem l0]
      simp only [if_pos g', if_pos g0, hb0, hh, Option.some.injEq]
      refine Ev.step (fun k => rfl) ?_
      by_cases z : (bl s)[0] = 48
      · have z' : (((bl s)[0].toNat : Int) == 48) = true := by rw [z]; rfl
        simp only [spec_l22Num.j0, z', if_true, if_pos (And.intro g z)]
        exact Ev.now _
      · have z' : (((bl s)[0].toNat : Int) == 48) = false := by
          rw [beq_eq_false_iff_ne]
          intro h
          exact z (UInt8.toNat_inj.1 (by have : (48 : UInt8).toNat = 48 := rfl; omega))
        simp only [spec_l22Num.j0, z', if_neg (show ¬ (false = true) by decide), if_neg (fun h : 1 < s.size ∧ (bl s)[0] = 48 => z h.2)]
        exact run
    · have g' : ¬ (s.size : Int) > 1 := by omega
      simp only [if_neg g', if_neg (fun h : 1 < s.size ∧ (bl s).head? = some 48 => g h.1)]
      refine Ev.step (fun k => rfl) ?_
      simp only [spec_l22Num.j0, if_neg (show ¬ (false = true) by decide)]
      exact run
  · simp only [decide_eq_false h, if_neg (show ¬ (false = true) by decide), if_neg h]
    refine Ev.step (fun k => rfl) ?_
    simp only [spec_l22Num.j0, if_true]
    exact Ev.now _

end Go.Proofs.YtojlffnlenldiaaDoor.F
