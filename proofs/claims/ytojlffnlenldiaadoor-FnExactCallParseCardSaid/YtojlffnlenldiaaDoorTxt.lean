import Derived.Lib.SplitLaws
import Derived.Lib.ItoaNum
import Derived.Lib.AtoiAll
import Derived.Lib.Join
namespace Go.Proofs.YtojlffnlenldiaaDoor.Txt
open Go

/-- A text cut at each c. -/
def cut (c : UInt8) : List UInt8 → List (List UInt8)
  | [] => [[]]
  | b :: s => if b = c then [] :: cut c s else (b :: (cut c s).headD []) :: (cut c s).tail

theorem cut_ne (c : UInt8) (s : List UInt8) : cut c s ≠ [] := by
  cases s with
  | nil => simp [cut]
  | cons b s => unfold cut; split <;> simp

theorem cut_eta (c : UInt8) (s : List UInt8) : cut c s = (cut c s).headD [] :: (cut c s).tail := by
  have := cut_ne c s
  cases h : cut c s with
  | nil => exact absurd h this
  | cons a r => simp

theorem cut_none (c : UInt8) : ∀ (s : List UInt8), c ∉ s → cut c s = [s]
  | [], _ => rfl
  | b :: s, h => by
    have hb : b ≠ c := fun e => h (by simp [e])
    have hs : c ∉ s := fun e => h (by simp [e])
    rw [cut, if_neg hb, cut_none c s hs]
    rfl

theorem cut_at (c : UInt8) : ∀ (u s : List UInt8), c ∉ u → cut c (u ++ c :: s) = u :: cut c s
  | [], s, _ => by show cut c (c :: s) = _; rw [cut, if_pos rfl]
  | b :: u, s, h => by
    have hb : b ≠ c := fun e => h (by simp [e])
    have hs : c ∉ u := fun e => h (by simp [e])
    show cut c (b :: (u ++ c :: s)) = _
    rw [cut, if_neg hb, cut_at c u s hs]
    rfl

/-- The shelf's cut at one byte is this one. -/
theorem index_one_miss (c : UInt8) : ∀ s : List UInt8, c ∉ s → Lib.index s [c] = -1
  | [], _ => rfl
  | b :: s, h => by
    have hb : b ≠ c := fun e => h (by simp [e])
    have hs : c ∉ s := fun e => h (by simp [e])
    unfold Lib.index
    rw [if_neg (by simp [List.isPrefixOf, Ne.symm hb]), index_one_miss c s hs]
    rfl

theorem index_one_hit (c : UInt8) : ∀ u s : List UInt8, c ∉ u → Lib.index (u ++ c :: s) [c] = u.length
  | [], s, _ => by show Lib.index (c :: s) [c] = _; unfold Lib.index; rw [if_pos (by simp [List.isPrefixOf])]; rfl
  | b :: u, s, h => by
    have hb : b ≠ c := fun e => h (by simp [e])
    have hs : c ∉ u := fun e => h (by simp [e])
    show Lib.index (b :: (u ++ c :: s)) [c] = _
    unfold Lib.index
    rw [if_neg (by simp [List.isPrefixOf, Ne.symm hb]), index_one_hit c u s hs]
    have : (((u.length : Nat) : Int) == -1) = false := by rw [beq_eq_false_iff_ne]; omega
    rw [this]
    simp

theorem split_mem (c : UInt8) (s : List UInt8) (h : c ∈ s) : ∃ u r, s = u ++ c :: r ∧ c ∉ u := by
  induction s with
  | nil => simp at h
  | cons b s ih =>
    by_cases e : b = c
    · exact ⟨[], s, by simp [e], by simp⟩
    · obtain ⟨u, r, hs, hu⟩ := ih (by simpa [Ne.symm e] using h)
      exact ⟨b :: u, r, by simp [hs], by simp [Ne.symm e, hu]⟩

theorem splitK_cut (c : UInt8) : ∀ (n : Nat) (s : List UInt8), s.count c = n → Lib.splitK [c] 0 n s = cut c s
  | 0, s, h => by
    have : c ∉ s := List.count_eq_zero.1 h
    rw [cut_none c s this]
    rfl
  | n + 1, s, h => by
    have hm : c ∈ s := by
      apply List.count_pos_iff.1
      omega
    obtain ⟨u, r, rfl, hu⟩ := split_mem c s hm
    have hi := index_one_hit c u r hu
    rw [cut_at c u r hu]
    unfold Lib.splitK
    rw [hi]
    have : (((u.length : Nat) : Int) == -1) = false := by rw [beq_eq_false_iff_ne]; omega
    rw [this]
    have hc : r.count c = n := by
      simp [List.count_append, List.count_eq_zero.2 hu] at h
      omega
    simp [splitK_cut c n r hc]

theorem split_cut (c : UInt8) (s : List UInt8) : Lib.split s [c] = cut c s := by
  unfold Lib.split
  rw [Lib.count_one]
  exact splitK_cut c _ s rfl

/-! ### figures -/
def fig (n : Nat) : UInt8 := if n < 10 then UInt8.ofNat (48 + n) else UInt8.ofNat (87 + n)
/-- Two figures for each byte. -/
def hex (s : List UInt8) : List UInt8 := s.flatMap fun b => [fig (b.toNat / 16), fig (b.toNat % 16)]
/-- The value of a figure, 99 of any other byte. -/
def val (b : UInt8) : Nat := if 48 ≤ b.toNat ∧ b.toNat ≤ 57 then b.toNat - 48 else if 97 ≤ b.toNat ∧ b.toNat ≤ 102 then b.toNat - 87 else 99

theorem val_fig (n : Nat) (h : n < 16) : val (fig n) = n := by
  have : ∀ m : Fin 16, val (fig m.val) = m.val := by decide
  exact this ⟨n, h⟩
theorem fig_val (b : UInt8) (h : val b < 16) : fig (val b) = b := by
  have : ∀ m : Fin 256, val (UInt8.ofNat m.val) < 16 → fig (val (UInt8.ofNat m.val)) = UInt8.ofNat m.val := by decide +kernel
  have h2 := this ⟨b.toNat, b.toNat_lt⟩
  simp at h2
  exact h2 h
theorem fig_range (n : Nat) (h : n < 16) : (48 ≤ (fig n).toNat ∧ (fig n).toNat ≤ 57) ∨ (97 ≤ (fig n).toNat ∧ (fig n).toNat ≤ 102) := by
  have : ∀ m : Fin 16, (48 ≤ (fig m.val).toNat ∧ (fig m.val).toNat ≤ 57) ∨ (97 ≤ (fig m.val).toNat ∧ (fig m.val).toNat ≤ 102) := by decide
  exact this ⟨n, h⟩

theorem hex_cons (b : UInt8) (s : List UInt8) : hex (b :: s) = fig (b.toNat / 16) :: fig (b.toNat % 16) :: hex s := rfl
theorem hex_len (s : List UInt8) : (hex s).length = 2 * s.length := by
  induction s with
  | nil => rfl
  | cons b s ih => rw [hex_cons]; simp [ih]; omega
theorem hex_mem (s : List UInt8) (c : UInt8) (h : c ∈ hex s) : (48 ≤ c.toNat ∧ c.toNat ≤ 57) ∨ (97 ≤ c.toNat ∧ c.toNat ≤ 102) := by
  unfold hex at h
  obtain ⟨b, _, hb⟩ := List.mem_flatMap.1 h
  have := b.toNat_lt
  simp at hb
  rcases hb with rfl | rfl
  · exact fig_range _ (by omega)
  · exact fig_range _ (by omega)

end Go.Proofs.YtojlffnlenldiaaDoor.Txt
