import Derived.Test.YtojlffnlenldiaaDoorP4
import Derived.Test.YtojlffnlenldiaaDoorShelf
namespace Go.Proofs.YtojlffnlenldiaaDoor.F
open Go.RowKit Go.Proofs.YtojlffnlenldiaaDoorW.PrintWords Go.Proofs.YtojlffnlenldiaaDoorW.PrintLast Go.Proofs.YtojlffnlenldiaaDoorW.PrintMore
set_option linter.unusedVariables false
set_option linter.unusedSimpArgs false

/-- The words of calls. -/
def WORDS : List (List UInt8) := [[], [109, 107, 100, 105, 114], [119, 114, 105, 116, 101], [116, 114, 117, 110, 99, 97, 116, 101], [114, 101, 109, 111, 118, 101], [114, 101, 110, 97, 109, 101], [99, 104, 109, 111, 100]]
/-- What the package-level variables hold that are read. -/
structure Env (w : World) : Prop where
  len : ∃ m, w.cell? ⟨1, 0, none⟩ = some (.int .i64 m)
  syn : ∃ te pe, w.cell? ⟨2, 0, none⟩ = some (.iface te pe)
  rng : ∃ te pe, w.cell? ⟨3, 0, none⟩ = some (.iface te pe)
  words : ∃ b o c, w.cell? ⟨0, 0, none⟩ = some (.slice (some ⟨b, o, none⟩) 7 c) ∧ 7 ≤ c ∧ ∀ (j : Nat) x, WORDS[j]? = some x → w.cell? ⟨b, o + j, none⟩ = some (.string (bs x))
theorem cell_of {w w' : World} (h : Below w.heap.size w w') {a : Addr} {v : Value} (hc : w.cell? a = some v) : w'.cell? a = some v := pw_cell_below h hc
theorem Env.below {w w' : World} (h : Env w) (hb : Below w.heap.size w w') : Env w' := by
  obtain ⟨⟨m, h1⟩, ⟨t2, p2, h2⟩, ⟨t3, p3, h3⟩, ⟨b, o, c, h4, h5, h6⟩⟩ := h
  exact ⟨⟨m, cell_of hb h1⟩, ⟨t2, p2, cell_of hb h2⟩, ⟨t3, p3, cell_of hb h3⟩, ⟨b, o, c, cell_of hb h4, h5, fun j x hx => cell_of hb (h6 j x hx)⟩⟩

/-! ### numRead -/
def atoiN (l : List UInt8) : Int := match Lib.atoiAll l with | .ok v => v | .range => Lib.atoiSat l | _ => 0
set_option maxHeartbeats 400000 in
theorem numRead_calls (s : ByteArray) (w : World) (hE : Env w) (hs : s.size ≤ 4194304) :
    Calls Tryd.prog 18 #[.string s] w fun e w' => e = .returned (.int .i64 (atoiN (bl s))) ∧ Below w.heap.size w w' := by
  obtain ⟨_, ⟨t2, p2, h2⟩, ⟨t3, p3, h3⟩, _⟩ := hE
  unfold atoiN
  cases ha : Lib.atoiAll (bl s) with
  | ok v =>
    have HA := Lib.hid ha
    clear ha
    go_enter Tryd.func18, Tryd.ntmps18
    go_wp2_with fail
    refine (Tryd.strconv_Atoi_ok s (by omega) v HA.out w).mono ?_
    rintro e w' ⟨rfl, hw⟩
    have hb : Below w.heap.size w w' := by
      rcases hw with rfl | ⟨t, rfl⟩
      · exact Below.refl _ _
      · exact bytes_below (Below.refl _ _) (Nat.le_refl _) 5 t
    clear hw
    go_wp2
    go_ret
    exact ⟨rfl, hb⟩
  | range =>
    have HA := Lib.hid ha
    clear ha
    go_enter Tryd.func18, Tryd.ntmps18
    go_wp2_with fail
    refine (Tryd.strconv_Atoi_range s (by omega) HA.out _ w h3 (Or.inr ⟨_, _, rfl⟩)).mono ?_
    rintro e w' ⟨N, rfl, _, _, hb⟩
    go_wp2
    go_ret
    exact ⟨rfl, hb⟩
  | _ =>
    have HA := Lib.hid ha
    clear ha
    go_enter Tryd.func18, Tryd.ntmps18
    go_wp2_with fail
    refine (Tryd.strconv_Atoi_syntax s (by omega) HA.out _ w h2 (Or.inr ⟨_, _, rfl⟩)).mono ?_
    rintro e w' ⟨N, rfl, _, _, hb⟩
    go_wp2
    go_ret
    exact ⟨rfl, hb⟩

/-! ### pathRead -/
def pathRd (l : List UInt8) : List ByteArray := if noSlash l = [] then [] else (Txt.cut 47 (noSlash l)).map bs
theorem split_cut (s : ByteArray) (c : UInt8) : Lib.splitB ⟨#[c]⟩ 0 (Lib.countB s ⟨#[c]⟩) s = (Txt.cut c (bl s)).map bs := by
  have h := Lib.splitB_data ⟨#[c]⟩ 0 (Lib.countB s ⟨#[c]⟩) s
  have h2 : Lib.splitK [c] 0 (Lib.count (bl s) [c]) (bl s) = Txt.cut c (bl s) := Txt.split_cut c (bl s)
  have h3 : (Lib.splitB ⟨#[c]⟩ 0 (Lib.countB s ⟨#[c]⟩) s).map (·.data.toList) = Txt.cut c (bl s) := h.trans h2
  rw [← h3, List.map_map]
  exact (List.map_id _).symm
theorem split_len (s : ByteArray) (c : UInt8) : Lib.countB s ⟨#[c]⟩ + 1 = ((Txt.cut c (bl s)).map bs).length := by
  rw [← split_cut, Lib.splitB_all _ (by show 1 ≤ 1; omega) 0 _ s rfl]
theorem cut_length (c : UInt8) (l : List UInt8) : (Txt.cut c l).length ≤ l.length + 1 := by
  induction l with
  | nil => simp [Txt.cut]
  | cons b l ih =>
    rw [Txt.cut]
    split
    · simp; omega
    · have := Txt.cut_ne c l
      cases h : Txt.cut c l with
      | nil => exact absurd h this
      | cons a r => rw [h] at ih; simp at ih ⊢; omega
/-- What strings.Split hands back. -/
theorem split_row (w : World) (s : ByteArray) (c : UInt8) (hs : s.size ≤ 4194304) (base : Nat) (hb : base ≤ w.heap.size) :
    Kd.R Kd.string 9 (w.alloc (.cells ((Lib.splitB ⟨#[c]⟩ 0 (Lib.countB s ⟨#[c]⟩) s).map Value.string).toArray 9)) base (fun _ => True) (.slice (some ⟨w.heap.size, 0, none⟩) (Lib.countB s ⟨#[c]⟩ + 1) (Lib.countB s ⟨#[c]⟩ + 1)) ((Txt.cut c (bl s)).map bs) := by
  rw [split_cut, split_len]
  have hl := cut_length c (bl s)
  rw [bl_len] at hl
  have h := World.ownsRow_lit (base := base) (e := 9) (size := 1) w (((Txt.cut c (bl s)).map bs).map Value.string).toArray ((Txt.cut c (bl s)).map bs).length hb (by unfold maxLen; rw [List.length_map]; omega) (by simp)
  exact Kd.R_of_own (by simpa [encs] using h) (fun _ _ => trivial)
set_option maxHeartbeats 400000 in
theorem pathRead_calls (s : ByteArray) (w : World) (hE : Env w) (hs : s.size ≤ 4194304) :
    Calls Tryd.prog 17 #[.string s] w fun e w' => ∃ v, e = .returned v ∧ Kd.R Kd.string 9 w' w.heap.size (fun _ => True) v (pathRd (bl s)) ∧ Below w.heap.size w w' := by
  obtain ⟨⟨m, hm⟩, _, _, _⟩ := hE
  have hsz : (noSlash (bl s)).length ≤ 4194304 := by
    unfold noSlash
    split
    · rw [List.length_tail, bl_len]; omega
    · rw [bl_len]; omega
  go_enter Tryd.func17, Tryd.ntmps17
  go_wp2_with fail
  refine (strings_TrimPrefix.calls s ⟨#[47]⟩ _ _ (TrimPrefix_eq s)).mono ?_
  rintro e w' ⟨rfl, ⟨nd, rfl⟩⟩
  by_cases he : noSlash (bl s) = []
  · have h3 : (bs (noSlash (bl s))).toList.isEmpty = true := by rw [toList_data, bs_toList, he]; rfl
    have HP := Lib.hid (show pathRd (bl s) = [] by unfold pathRd; rw [if_pos he])
    clear he
    go_wp2
    go_ret
    refine ⟨_, rfl, ?_, ((pw_below_drewN (Below.refl _ _) nd).alloc (by simp) _)⟩
    rw [HP.out]
    exact Kd.R_of_own (by simpa [encs] using World.ownsRow_lit (base := w.heap.size) (e := 9) (size := 1) (w.drewN nd) #[] 0 (by simp) (by simp) (by simp)) (fun _ _ => trivial)
  · have h3 : (bs (noSlash (bl s))).toList.isEmpty = false := by rw [toList_data, bs_toList, List.isEmpty_eq_false_iff]; exact he
    have HP := Lib.hid (show pathRd (bl s) = (Txt.cut 47 (noSlash (bl s))).map bs by unfold pathRd; rw [if_neg he])
    clear he
    go_wp2_with fail
    refine (Tryd.strings_Split (bs (noSlash (bl s))) ⟨#[47]⟩ m _ (by rw [bs_size]; omega) (by simpa using hm) (by show 1 ≤ 1; omega)).mono ?_
    rintro e w' ⟨rfl, rfl⟩
    go_wp2
    go_ret
    refine ⟨_, rfl, ?_, ((pw_below_drewN (Below.refl _ _) nd).alloc (by simp) _)⟩
    rw [HP.out]
    have h := split_row (w.drewN nd) (bs (noSlash (bl s))) 47 (by rw [bs_size]; omega) w.heap.size (by simp)
    rw [bl_bs] at h
    simpa using h
end Go.Proofs.YtojlffnlenldiaaDoor.F
