import Derived.Test.YtojlffnlenldiaaDoorW1
namespace Go.Proofs.YtojlffnlenldiaaDoor.F
open Go.RowKit Go.Proofs.YtojlffnlenldiaaDoorW.PrintWords Go.Proofs.YtojlffnlenldiaaDoorW.PrintLast Go.Proofs.YtojlffnlenldiaaDoorW.PrintMore
set_option linter.unusedVariables false
set_option linter.unusedSimpArgs false

/-! ### pathText -/
theorem pathF_join (x : ByteArray) (r : List ByteArray) : 47 :: Lib.join ((x :: r).map (·.data.toList)) [47] = pathF (x :: r) := by
  rw [List.map_cons, Lib.join_cons]
  simp only [Lib.joinTail, pathF, List.flatMap_cons, List.cons_append]
  congr 2
  simp [List.flatMap_def, List.map_map]
  congr 1
theorem join_small (p : List ByteArray) : (Lib.join (p.map (·.data.toList)) [47]).length ≤ (pathF p).length := by
  cases p with
  | nil => simp [Lib.join_nil]
  | cons x r => rw [← pathF_join]; simp
theorem plain_addr {w : World} {ad : Addr} {v : Value} (h : w.cell? ad = some v) : ad = ⟨ad.block, ad.off, none⟩ := by
  obtain ⟨b, o, sp⟩ := ad
  unfold World.cell? at h
  cases sp with
  | none => rfl
  | some s =>
    exfalso
    revert h
    split <;> simp
/-- The cells of a list of texts that is read. -/
theorem C_cells {w : World} {A : Option Addr} {p : List ByteArray} (h : Kd.C Kd.string w A p.length p) (hp : p ≠ []) :
    ∃ b o, A = some ⟨b, o, none⟩ ∧ b < w.heap.size ∧ ∀ (j : Nat) x, p[j]? = some x → w.cell? ⟨b, o + j, none⟩ = some (.string x) := by
  have hn : 0 < p.length := List.length_pos_iff.2 hp
  obtain ⟨ad, e, hc⟩ := (Kd.reads_of_C (d := ByteArray.empty) h).2.2 hn
  have h0 := hc 0 hn
  have ha : ad.add 0 = ad := by simp [Addr.add]
  rw [ha] at h0
  have hp := plain_addr h0
  refine ⟨ad.block, ad.off, by rw [e, ← hp], World.block_lt_of_cell? w _ h0, fun j x hx => ?_⟩
  obtain ⟨hl, hx'⟩ := List.getElem?_eq_some_iff.1 hx
  have hj := hc j hl
  rw [hp, List.getD_eq_getElem?_getD, hx] at hj
  have : (⟨ad.block, ad.off, none⟩ : Addr).add j = ⟨ad.block, ad.off + j, none⟩ := by
    unfold Addr.add
    by_cases e : j = 0
    · rw [if_pos e, e]; rfl
    · rw [if_neg e]
  rw [this] at hj
  exact hj
set_option maxHeartbeats 400000 in
theorem pathText_calls (A : Option Addr) (c : Nat) (p : List ByteArray) (w : World) (hr : Kd.C Kd.string w A p.length p) (hc : p.length ≤ c) (hs : (pathF p).length ≤ 140737488355327) (hn : p.length ≤ 140737488355328) :
    Calls Tryd.prog 36 #[.slice A p.length c] w fun e w' => e = .returned (.string (bs (pathT p))) ∧ Below w.heap.size w w' := by
  have HC := Lib.hid hc
  clear hc
  cases p with
  | nil =>
    clear hr hs hn
    go_enter Tryd.func36, Tryd.ntmps36
    go_wp2
    go_ret
    exact ⟨rfl, Below.refl _ _⟩
  | cons x r =>
    obtain ⟨b, o, rfl, hb, hcell⟩ := C_cells hr (by simp)
    have HX := Lib.hid hcell
    clear hr hcell
    have hl0 : ((((x :: r).length : Nat) : Int) == 0) = false := by rw [beq_eq_false_iff_ne]; simp; omega
    have hj := join_small (x :: r)
    have HF := Lib.hid (show (⟨#[47]⟩ : ByteArray) ++ ⟨(Lib.join ((x :: r).map (·.data.toList)) [47]).toArray⟩ = bs (pathT (x :: r)) by
      have e : (⟨#[47]⟩ : ByteArray) ++ ⟨(Lib.join ((x :: r).map (·.data.toList)) [47]).toArray⟩ = bs (47 :: Lib.join ((x :: r).map (·.data.toList)) [47]) := bs_append [47] _
      rw [e, pathF_join, pathT, if_neg (by simp)])
    generalize hp : x :: r = p at *
    clear hp
    have hz : (⟨(Lib.join (p.map (·.data.toList)) [47]).toArray⟩ : ByteArray).size ≤ 140737488355328 := by show (bs _).size ≤ _; rw [bs_size]; omega
    go_enter Tryd.func36, Tryd.ntmps36
    go_wp2_with fail
    refine (Tryd.strings_Join b o c p ⟨#[47]⟩ _ HX.out hb hn HC.out (Nat.le_trans hj (by omega))).mono ?_
    rintro e w' ⟨rfl, hbel⟩
    go_wp2
    go_ret
    exact ⟨by rw [HF.out]; rfl, hbel⟩

/-! ### dataText -/
set_option maxHeartbeats 400000 in
theorem dataText_calls (s : ByteArray) (w : World) (hs : s.size ≤ 4194304) :
    Calls Tryd.prog 38 #[.string s] w fun e w' => e = .returned (.string (bs (hexL (bl s)))) ∧ Below w.heap.size w w' := by
  by_cases he : bl s = []
  · have h3 : s.toList.isEmpty = true := by rw [toList_data]; show (bl s).isEmpty = true; rw [he]; rfl
    have HF := Lib.hid (show bs (hexL (bl s)) = ⟨#[45]⟩ by unfold hexL; rw [if_pos he]; rfl)
    clear he
    go_enter Tryd.func38, Tryd.ntmps38
    go_wp2
    go_ret
    exact ⟨by rw [HF.out]; rfl, Below.refl _ _⟩
  · have h3 : s.toList.isEmpty = false := by rw [toList_data, List.isEmpty_eq_false_iff]; exact he
    have HF := Lib.hid (show bs (hexL (bl s)) = bs (Txt.hex (bl s)) by unfold hexL; rw [if_neg he])
    clear he
    go_enter Tryd.func38, Tryd.ntmps38
    go_wp2_with fail
    refine (hexOf_calls s _ hs).mono ?_
    rintro e w' ⟨rfl, hbel⟩
    go_wp2
    go_ret
    exact ⟨by rw [HF.out]; rfl, hbel⟩
end Go.Proofs.YtojlffnlenldiaaDoor.F
