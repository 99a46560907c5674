import Derived.Test.YtojlffnlenldiaaDoorV2
namespace Go.Proofs.YtojlffnlenldiaaDoor.F
open Go.RowKit Go.Proofs.YtojlffnlenldiaaDoorW.PrintWords Go.Proofs.YtojlffnlenldiaaDoorW.PrintLast Go.Proofs.YtojlffnlenldiaaDoorW.PrintMore
set_option linter.unusedVariables false
set_option linter.unusedSimpArgs false

def pathOfL (l : List UInt8) : List ByteArray × Bool :=
  if l = [47] then ([], true) else if l.head? = some 47 then (((Txt.cut 47 l).map bs).tail, isPath 1 ((Txt.cut 47 l).map bs).tail) else ([], false)
theorem C_none (w : World) (A : Option Addr) : Kd.C Kd.string w A 0 [] := ⟨rfl, by omega, fun h => absurd h (by omega)⟩
theorem C_tail {w : World} {b o : Nat} {x : ByteArray} {r : List ByteArray} (hl : (x :: r).length ≤ 9223372036854775807) (hcell : ∀ (j : Nat) y, (x :: r)[j]? = some y → w.cell? ⟨b, o + j, none⟩ = some (.string y)) : Kd.C Kd.string w (some ⟨b, o + 1, none⟩) r.length r := by
  refine Kd.C_of_reads (d := ByteArray.empty) ⟨rfl, by simp at hl; omega, fun hn => ⟨_, rfl, fun j hj => ?_⟩⟩
  have h := hcell (j + 1) r[j] (by rw [List.getElem?_cons_succ]; exact List.getElem?_eq_getElem hj)
  have e : (⟨b, o + 1, none⟩ : Addr).add j = ⟨b, o + (j + 1), none⟩ := by
    unfold Addr.add
    by_cases e : j = 0
    · rw [if_pos e, e]
    · rw [if_neg e]; simp; omega
  rw [e, List.getD_eq_getElem?_getD, List.getElem?_eq_getElem hj]
  exact h
theorem cut_mem_len (c : UInt8) (l : List UInt8) : ∀ x ∈ Txt.cut c l, x.length ≤ l.length := by
  induction l with
  | nil => intro x hx; simp [Txt.cut] at hx; simp [hx]
  | cons b l ih =>
    intro x hx
    rw [Txt.cut] at hx
    split at hx
    · rcases List.mem_cons.1 hx with rfl | hx
      · simp
      · have := ih x hx; simp; omega
    · rcases List.mem_cons.1 hx with rfl | hx
      · rw [Txt.cut_eta c l] at ih
        have := ih _ List.mem_cons_self
        simp at this ⊢; omega
      · have := ih x (List.mem_of_mem_tail hx); simp; omega
theorem cut_small (c : UInt8) (l : List UInt8) (h : l.length ≤ 4194304) : Small ((Txt.cut c l).map bs) := by
  refine ⟨?_, fun s hs => ?_⟩
  · rw [List.length_map]; have := cut_length c l; omega
  · obtain ⟨x, hx, rfl⟩ := List.mem_map.1 hs
    rw [bs_size]
    have := cut_mem_len c l x hx
    omega
set_option maxHeartbeats 400000 in
theorem l41PathOf_calls (s : ByteArray) (w : World) (hs : s.size ≤ 4194304) :
    Calls Tryd.prog 11 #[.string s] w fun e w' => ∃ A c, e = .returned (.tuple #[.slice A (pathOfL (bl s)).1.length c, .bool (pathOfL (bl s)).2]) ∧ Kd.C Kd.string w' A (pathOfL (bl s)).1.length (pathOfL (bl s)).1 ∧ (pathOfL (bl s)).1.length ≤ c ∧ Below w.heap.size w w' := by
  by_cases h47 : bl s = [47]
  · have h1 : (s.toList == [47]) = true := by rw [toList_data]; exact beq_iff_eq.2 h47
    have HP := Lib.hid (show pathOfL (bl s) = ([], true) by unfold pathOfL; rw [if_pos h47])
    clear h47
    go_enter Tryd.func11, Tryd.ntmps11
    go_wp2
    go_ret2
    rw [HP.out]
    exact ⟨_, _, rfl, C_none _ _, Nat.le_refl _, (Below.refl _ _).alloc (by simp) _⟩
  · have h1 : (s.toList == [47]) = false := by rw [toList_data]; exact beq_eq_false_iff_ne.2 h47
    by_cases he : bl s = []
    · have h2 : s.toList.isEmpty = true := by rw [toList_data]; show (bl s).isEmpty = true; rw [he]; rfl
      have HP := Lib.hid (show pathOfL (bl s) = ([], false) by unfold pathOfL; rw [if_neg h47, he]; rfl)
      clear he h47
      go_enter Tryd.func11, Tryd.ntmps11
      go_wp2
      go_ret2
      rw [HP.out]
      exact ⟨_, _, rfl, C_none _ _, Nat.le_refl _, (Below.refl _ _).alloc (by simp) _⟩
    · have h2 : s.toList.isEmpty = false := by rw [toList_data, List.isEmpty_eq_false_iff]; exact he
      have hsz : 0 < s.size := by
        have := List.length_pos_iff.2 he
        rw [bl_len] at this
        exact this
      have l0 : 0 < (bl s).length := by rw [bl_len]; exact hsz
      have hh : (bl s).head? = some s[0] := by rw [List.head?_eq_getElem?, List.getElem?_eq_getElem l0]; rfl
      by_cases hs0 : s[0] = 47
      · have t1 : ((s[0].toNat : Int) == 47) = true := by rw [hs0]; rfl
        have t2 : ((s[0].toNat : Int) != 47) = false := by rw [hs0]; rfl
        obtain ⟨r, hr⟩ : ∃ r, bl s = 47 :: r := by
          cases hb : bl s with
          | nil => exact absurd hb he
          | cons a r => rw [hb] at hh; simp at hh; exact ⟨r, by rw [hh, hs0]⟩
        have hcut : (Txt.cut 47 (bl s)).map bs = bs [] :: (Txt.cut 47 r).map bs := by rw [hr, Txt.cut, if_pos rfl, List.map_cons]
        have hne : (Txt.cut 47 r).map bs ≠ [] := by simpa using Txt.cut_ne 47 r
        have hlen : ((Txt.cut 47 r).map bs).length ≤ 4194305 := by
          rw [List.length_map]
          have := cut_length 47 r
          have e : (bl s).length = r.length + 1 := by rw [hr]; rfl
          rw [bl_len] at e
          omega
        have hpos : 0 < ((Txt.cut 47 r).map bs).length := List.length_pos_iff.2 hne
        have hsm : Small ((Txt.cut 47 r).map bs) := cut_small 47 r (by have e : (bl s).length = r.length + 1 := by rw [hr]; rfl
                                                                       rw [bl_len] at e; omega)
        obtain ⟨k1, hk1⟩ := (l1Cut_ev s 47 hs).rounds
        obtain ⟨k2, hk2⟩ := (l2PathOk_ev _ hsm).rounds
        have HP := Lib.hid (show pathOfL (bl s) = ((Txt.cut 47 r).map bs, isPath 1 ((Txt.cut 47 r).map bs)) by unfold pathOfL; rw [if_neg h47, hh, hs0, if_pos rfl, hcut]; rfl)
        rw [hcut] at hk1
        generalize (Txt.cut 47 r).map bs = q at *
        have HK1 := Lib.hid hk1
        have HK2 := Lib.hid hk2
        clear hk1 hk2 hcut hr hs0 hh h47 he hne hsm
        go_enter Tryd.func11, Tryd.ntmps11
        go_wp2_with fail
        refine (spec_l1Cut.calls k1 s 47 _ _ HK1.out).mono ?_
        rintro e w1 ⟨v, rfl, hR, hb1⟩
        obtain ⟨A, c, hv, hc, hC⟩ := Kd.R_reads hR
        obtain ⟨b, o, rfl, hbl, hcell⟩ := C_cells hC (by simp)
        have hC2 := C_tail (by simp; omega) hcell
        have hv2 : v = .slice (some ⟨b, o, none⟩) (q.length + 1) c := hv
        have hc2 : q.length + 1 ≤ c := hc
        have HC2 := Lib.hid hC2
        clear hR hC hv hc hcell hC2
        rw [hv2]
        clear hv2
        go_wp2_with fail
        refine (spec_l2PathOk.calls k2 (some ⟨b, o + 1, none⟩) (c - 1) q _ w1 HC2.out (by omega) HK2.out).mono ?_
        rintro e w2 ⟨rfl, ⟨nd, rfl⟩⟩
        go_wp2
        go_ret2
        rw [HP.out]
        exact ⟨_, _, rfl, by have := HC2.out; exact Kd.C_drewN this nd, (by show q.length ≤ c - 1; omega), pw_below_drewN hb1 nd⟩
      · have t1 : ((s[0].toNat : Int) == 47) = false := by
          rw [beq_eq_false_iff_ne]
          intro h
          exact hs0 (UInt8.toNat_inj.1 (by have : (47 : UInt8).toNat = 47 := rfl; omega))
        have t2 : ((s[0].toNat : Int) != 47) = true := by rw [bne, t1]; rfl
        have HP := Lib.hid (show pathOfL (bl s) = ([], false) by unfold pathOfL; rw [if_neg h47, hh, if_neg (by simpa using hs0)])
        clear hs0 hh h47 he
        go_enter Tryd.func11, Tryd.ntmps11
        go_wp2
        go_ret2
        rw [HP.out]
        exact ⟨_, _, rfl, C_none _ _, Nat.le_refl _, (Below.refl _ _).alloc (by simp) _⟩
end Go.Proofs.YtojlffnlenldiaaDoor.F
