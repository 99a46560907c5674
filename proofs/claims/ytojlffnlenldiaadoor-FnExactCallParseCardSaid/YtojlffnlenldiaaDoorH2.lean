import Derived.Test.YtojlffnlenldiaaDoorH1
import Derived.Test.YtojlffnlenldiaaDoorA
import Derived.StillTailTactics
import Derived.Deep.RegionHeld3
import Derived.Deep.AppendLies
namespace Go.Proofs.YtojlffnlenldiaaDoor.F
open Go.RowKit Go.Proofs.YtojlffnlenldiaaDoorW.PrintWords
set_option linter.unusedVariables false
set_option linter.unusedSimpArgs false

def ints (l : List UInt8) : List Int := l.map fun b => (b.toNat : Int)
theorem figs_at (n : Nat) (h : n < figs.size) : figs[n] = Txt.fig n := by
  have h' : n < 16 := h
  have : ∀ m : Fin 16, figs.data.toList[m.val]? = some (Txt.fig m.val) := by decide +kernel
  have h2 := this ⟨n, h'⟩
  have h3 : figs.data.toList[n]? = some figs[n] := by
    rw [List.getElem?_eq_getElem (show n < figs.data.toList.length from h')]
    rfl
  rw [h3] at h2
  exact Option.some.inj h2

theorem strOf_ints (l : List UInt8) : strOfNums (ints l) = bs l := by simp [strOfNums, ints, bs, Function.comp_def]
theorem ints_len (l : List UInt8) : (ints l).length = l.length := by simp [ints]
theorem hex_step (s : ByteArray) (k : Nat) (h : k < s.size) :
    nums .u8 (ints (Txt.hex (s.data.toList.take k))) ++ [.int .u8 (({ data := #[48, 49, 50, 51, 52, 53, 54, 55, 56, 57, 97, 98, 99, 100, 101, 102] } : ByteArray)[((s[k].toNat : Int) / 16).toNat]'(by have := (s[k]).toNat_lt; show _ < 16; omega)).toNat, .int .u8 (({ data := #[48, 49, 50, 51, 52, 53, 54, 55, 56, 57, 97, 98, 99, 100, 101, 102] } : ByteArray)[(Int.tmod (s[k].toNat : Int) 16).toNat]'(by have := (s[k]).toNat_lt; rw [Int.tmod_eq_emod_of_nonneg (by omega)]; show _ < 16; omega)).toNat] = nums .u8 (ints (Txt.hex (s.data.toList.take (k + 1)))) ∧ (ints (Txt.hex (s.data.toList.take k))).length + 2 = (ints (Txt.hex (s.data.toList.take (k + 1)))).length := by
  have hb := (s[k]).toNat_lt
  have e1 : ((s[k].toNat : Int) / 16).toNat = s[k].toNat / 16 := by omega
  have e2 : (Int.tmod (s[k].toNat : Int) 16).toNat = s[k].toNat % 16 := by rw [Int.tmod_eq_emod_of_nonneg (by omega)]; omega
  have f1 := figs_at (s[k].toNat / 16) (by show _ < 16; omega)
  have f2 := figs_at (s[k].toNat % 16) (by show _ < 16; omega)
  unfold figs at f1 f2
  simp only [e1, e2, f1, f2, take_snoc s k h, hex_append]
  simp [ints, nums, Txt.hex]
set_option maxHeartbeats 400000 in
set_option maxRecDepth 100000 in
theorem hexOf_calls (s : ByteArray) (w : World) (hs : s.size ≤ 4194304) :
    Calls Tryd.prog 54 #[.string s] w fun e w' => e = .returned (.string (bs (Txt.hex s.data.toList))) ∧ Below w.heap.size w w' := by
  go_enter Tryd.func54, Tryd.ntmps54
  go_wp2
  go_loopg [3, 4] s.size (fun g o i w' => ∃ k : Nat, k ≤ s.size ∧ s.size - k ≤ g ∧ i = .int .i64 k ∧ Aside0 (w'.ownsRow w.heap.size 5 1 o (ints (Txt.hex (s.data.toList.take k))).length (nums .u8 (ints (Txt.hex (s.data.toList.take k))))) ∧ Aside0 (Below w.heap.size w w'))
  case atStart => exact ⟨0, Nat.zero_le _, by omega, rfl, ⟨own_lit w _ 5 .u8 [] (Nat.le_refl _) (by simp)⟩, ⟨(Below.refl _ _).alloc (Nat.le_refl _) _⟩⟩
  case round =>
    obtain ⟨k, hk, hg, rfl, HO, HB⟩ := hrel
    by_cases hlt : k < s.size
    · have hb := (s[k]).toNat_lt
      have h0 : (0 : Int) ≤ k := by omega
      have h1 : (k : Int) < (s.size : Int) := by omega
      go_wp2_with fail
      have hq : IntKind.u8.wrap ((s[k].toNat : Int) / 16) = ((s[k].toNat / 16 : Nat) : Int) := by unfold IntKind.wrap; simp [IntKind.bits, IntKind.signed]; omega
      have hq2 : (0 : Int) ≤ (s[k].toNat : Int) / 16 := by omega
      have hq3 : (s[k].toNat : Int) / 16 < 16 := by omega
      have hr2 : (0 : Int) ≤ (s[k].toNat : Int) % 16 := by omega
      have hr3 : (s[k].toNat : Int) % 16 < 16 := by omega
      have htm : Int.tmod (s[k].toNat : Int) 16 = (s[k].toNat : Int) % 16 := Int.tmod_eq_emod_of_nonneg (by omega)
      have hr4 : (0 : Int) ≤ Int.tmod (s[k].toNat : Int) 16 := by omega
      have hr5 : Int.tmod (s[k].toNat : Int) 16 < 16 := by omega
      clear htm
      obtain ⟨i0, hi0, hz0, hz1, hz2⟩ := info_parts info5
      have hown := HO.out
      have hbel := HB.out
      have hlen : (ints (Txt.hex (List.take k s.data.toList))).length ≤ 8388608 := by rw [ints_len, Txt.hex_len, List.length_take]; omega
      have hbase : w.heap.size ≤ wr.heap.size := hbel.size
      go_region_held3 (fun w' => True) (trivial)
        ((go_loud (refine step_append_lies _ (by rfl) _ _ _ (by rfl) w.heap.size 5 i0 _ 1 1 Tryd.underlying46 hi0 hz0 hz1 hz2 rfl (by omega) u3 _ _ (by rfl) ((hown.alloc _).drew) ⟨wr.heap.size, 0, none⟩ 2 2 [.int .u8 (({ data := #[48, 49, 50, 51, 52, 53, 54, 55, 56, 57, 97, 98, 99, 100, 101, 102] } : ByteArray)[((s[k].toNat : Int) / 16).toNat]'(by show _ < 16; omega)).toNat, .int .u8 (({ data := #[48, 49, 50, 51, 52, 53, 54, 55, 56, 57, 97, 98, 99, 100, 101, 102] } : ByteArray)[(Int.tmod (s[k].toNat : Int) 16).toNat]'(by show _ < 16; omega)).toNat] (by rfl) (by rfl) (World.news_of_block (heap_alloc_new wr _)) (by simp [Value.oneCell']) (by omega) (by unfold maxLen; omega) (by omega) (by simp; omega) (wr.heap.size + 1) (by simp) ?_); intro gg cap w1 hown1 hgrow hat hlt1))
      all_goals
        have hb1 : Below w.heap.size w w1 := ((hbel.alloc hbase _).drew).grown hgrow (by simp; omega) (fun b h => own_base hown b h)
        have HO1 : Aside0 (w1.ownsRow w.heap.size 5 1 (.slice (some ⟨gg, 0, none⟩) ((ints (Txt.hex (List.take k s.data.toList))).length + 2) cap) (ints (Txt.hex (s.data.toList.take (k + 1)))).length (nums .u8 (ints (Txt.hex (s.data.toList.take (k + 1)))))) := ⟨by
          have e := hex_step s k hlt
          rw [← e.1, ← e.2]
          exact hown1⟩
        have HB1 := Aside0.mk hb1
        clear hown hbel hown1 hgrow hat hlt1 hb1 hi0 hz0 hz1 hz2
        go_wp2
        go_roundg (s.size - (k + 1))
        case measure => omega
        case rel => exact ⟨k + 1, by omega, by omega, by go_num, HO1, HB1⟩
    · obtain rfl : k = s.size := by omega
      have hcv := own_string (P := Tryd.prog) (src := 46) (dst := 9) Tryd.underlying46 Tryd.underlying5 Tryd.underlying9 HO.out
      rw [strOf_ints, take_all] at hcv
      go_wp2
      go_ret
      exact ⟨rfl, HB.out⟩
end Go.Proofs.YtojlffnlenldiaaDoor.F
