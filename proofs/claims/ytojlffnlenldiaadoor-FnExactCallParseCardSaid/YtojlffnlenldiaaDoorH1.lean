import Derived.Test.YtojlffnlenldiaaDoorProg
import Derived.Test.YtojlffnlenldiaaDoorTxt
import Derived.WalkKit
import Derived.Outline
import Derived.Deep.LoopGhost
import Derived.WalkSpells
import Derived.WalkLawsBesides
import Derived.Lib.Hide
import Derived.Deep.QuietTactic
import Derived.BigQuiet
namespace Go.Proofs.YtojlffnlenldiaaDoor.F
open Go.RowKit
set_option linter.unusedVariables false
set_option linter.unusedSimpArgs false

def bs (l : List UInt8) : ByteArray := ⟨l.toArray⟩
theorem bs_size (l : List UInt8) : (bs l).size = l.length := by simp [bs, ByteArray.size]
theorem bs_toList (l : List UInt8) : (bs l).data.toList = l := by simp [bs]
theorem bs_append (a b : List UInt8) : bs a ++ bs b = bs (a ++ b) := by
  apply ByteArray.ext
  simp [bs]
theorem take_snoc (s : ByteArray) (k : Nat) (h : k < s.size) : s.data.toList.take (k + 1) = s.data.toList.take k ++ [s[k]] := by
  rw [List.take_succ_eq_append_getElem (by simpa using h)]; rfl
def figs : ByteArray := { data := #[48, 49, 50, 51, 52, 53, 54, 55, 56, 57, 97, 98, 99, 100, 101, 102] }
theorem figs_cut (n : Nat) (h : n < 16) : figs.extract n (n + 1) = bs [Txt.fig n] := by
  have : ∀ m : Fin 16, (figs.extract m.val (m.val + 1)).data.toList = [Txt.fig m.val] := by decide +kernel
  apply ByteArray.ext
  apply Array.ext'
  rw [this ⟨n, h⟩]
  simp [bs]
def hexTo (s : ByteArray) (k : Nat) : ByteArray := bs (Txt.hex (s.data.toList.take k))
theorem hexTo_size (s : ByteArray) (k : Nat) (h : k ≤ s.size) : (hexTo s k).size = 2 * k := by
  unfold hexTo
  rw [bs_size, Txt.hex_len, List.length_take, Array.length_toList]
  have : s.data.size = s.size := rfl
  omega
theorem hexTo_zero (s : ByteArray) : hexTo s 0 = { data := #[] } := rfl
theorem hex_append (a b : List UInt8) : Txt.hex (a ++ b) = Txt.hex a ++ Txt.hex b := by simp [Txt.hex]
theorem hexTo_succ (s : ByteArray) (k : Nat) (h : k < s.size) : hexTo s k ++ figs.extract (s[k].toNat / 16) (s[k].toNat / 16 + 1) ++ figs.extract (s[k].toNat % 16) (s[k].toNat % 16 + 1) = hexTo s (k + 1) := by
  have hb := (s[k]).toNat_lt
  rw [figs_cut _ (by omega), figs_cut _ (by omega)]
  unfold hexTo
  rw [take_snoc s k h, hex_append, bs_append, bs_append, List.append_assoc]
  rfl
/-- Two figures for each byte, or '-'. -/
def hexL (s : List UInt8) : List UInt8 := if s = [] then [45] else Txt.hex s
theorem toList_data (s : ByteArray) : s.toList = s.data.toList := ByteArray.toList_eq s
theorem take_all (s : ByteArray) : s.data.toList.take s.size = s.data.toList := List.take_of_length_le (by rw [Array.length_toList]; exact Nat.le_refl _)

set_option maxHeartbeats 400000 in
set_option maxRecDepth 100000 in
theorem l1Hex_calls (s : ByteArray) (w : World) (hs : s.size ≤ 4194304) :
    Calls Tryd.prog 30 #[.string s] w fun e w' => e = .returned (.string (bs (hexL s.data.toList))) ∧ ∃ n, w' = w.drewN n := by
  go_enter Tryd.func30, Tryd.ntmps30
  go_wp2
  go_loopg [3, 4] s.size (fun g o i w' => ∃ k n : Nat, k ≤ s.size ∧ s.size - k ≤ g ∧ i = .int .i64 k ∧ o = .string (hexTo s k) ∧ w' = w.drewN n)
  case atStart => exact ⟨0, 0, Nat.zero_le _, by omega, rfl, rfl, rfl⟩
  case round =>
    obtain ⟨k, n, hk, hg, rfl, rfl, rfl⟩ := hrel
    have hz := hexTo_size s k hk
    have hz1 : (hexTo s k).size ≤ 8388608 := by omega
    clear hz
    by_cases hlt : k < s.size
    · have hb := (s[k]).toNat_lt
      have h0 : (0 : Int) ≤ k := by omega
      have h1 : (k : Int) < (s.size : Int) := by omega
      have HS := Lib.hid (hexTo_succ s k hlt)
      go_wp2_with fail
      go_quiet (fail)
      go_wp2
      go_roundg (s.size - (k + 1))
      case measure => omega
      case rel => exact ⟨k + 1, _, by omega, by omega, by go_num, congrArg Value.string HS.out, rfl⟩
    · obtain rfl : k = s.size := by omega
      by_cases he : s.data.toList = []
      · have h3 : (hexTo s s.size).toList.isEmpty = true := by rw [toList_data, hexTo, bs_toList, take_all, he]; rfl
        have HF := Lib.hid (show bs (hexL s.data.toList) = { data := #[45] } by unfold hexL; rw [if_pos he]; rfl)
        clear he
        go_wp2
        go_ret
        exact ⟨congrArg (fun x => Ending.returned (Value.string x)) HF.out.symm, n, rfl⟩
      · have h3 : (hexTo s s.size).toList.isEmpty = false := by
          rw [toList_data, hexTo, bs_toList, take_all, List.isEmpty_eq_false_iff]
          intro h
          have := congrArg List.length h
          rw [Txt.hex_len] at this
          simp only [List.length_nil] at this
          exact he (List.eq_nil_of_length_eq_zero (by omega))
        have HF := Lib.hid (show bs (hexL s.data.toList) = hexTo s s.size by unfold hexL hexTo; rw [if_neg he, take_all])
        clear he
        go_wp2
        go_ret
        exact ⟨congrArg (fun x => Ending.returned (Value.string x)) HF.out.symm, n, rfl⟩
end Go.Proofs.YtojlffnlenldiaaDoor.F
