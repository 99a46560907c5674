import Derived.Test.YtojlffnlenldiaaDoorV5
import Derived.Test.YtojlffnlenldiaaDoorV6
namespace Go.Proofs.YtojlffnlenldiaaDoor.F
open Go.RowKit Go.Proofs.YtojlffnlenldiaaDoorW.PrintWords Go.Proofs.YtojlffnlenldiaaDoorW.PrintLast Go.Proofs.YtojlffnlenldiaaDoorW.PrintMore
set_option linter.unusedVariables false
set_option linter.unusedSimpArgs false

theorem cell_far {w wn : World} {g : Nat} {cs : Array Value} (h : Stored w wn g cs) {a : Addr} {v : Value} (ha : a.block ≠ g) (hc : w.cell? a = some v) : wn.cell? a = some v := by
  have hl := World.block_lt_of_cell? w _ hc
  have e : wn.heap[a.block]? = w.heap[a.block]? := by rw [Array.getElem?_eq_getElem hl]; exact h.far _ _ ha (Array.getElem?_eq_getElem hl)
  unfold World.cell? at hc ⊢
  rw [e]
  exact hc
theorem C_far {w wn : World} {g : Nat} {cs : Array Value} (h : Stored w wn g cs) {A : Option Addr} {p : List ByteArray} (hC : Kd.C Kd.string w A p.length p) (hf : ∀ ad, A = some ad → 0 < p.length → ad.block ≠ g) : Kd.C Kd.string wn A p.length p := by
  by_cases hp : p = []
  · subst hp; exact C_none _ _
  · obtain ⟨b, o, rfl, _, hcell⟩ := C_cells hC hp
    exact C_mk (Kd.C_max hC) (fun j y hj => cell_far h (show b ≠ g from hf ⟨b, o, none⟩ rfl (List.length_pos_iff.2 hp)) (hcell j y hj))
set_option maxHeartbeats 400000 in
theorem l41PathOf_far (s : ByteArray) (w : World) (hs : s.size ≤ 4194304) :
    Calls Tryd.prog 11 #[.string s] w fun e w' => ∃ A c, e = .returned (.tuple #[.slice A (pathOfL (bl s)).1.length c, .bool (pathOfL (bl s)).2]) ∧ Kd.C Kd.string w' A (pathOfL (bl s)).1.length (pathOfL (bl s)).1 ∧ (pathOfL (bl s)).1.length ≤ c ∧ Below w.heap.size w w' ∧ (∀ ad, A = some ad → 0 < (pathOfL (bl s)).1.length → w.heap.size ≤ ad.block) := by
  by_cases h47 : bl s = [47]
  · have h1 : (s.toList == [47]) = true := by rw [toList_data]; exact beq_iff_eq.2 h47
    have HP := Lib.hid (show pathOfL (bl s) = ([], true) by unfold pathOfL; rw [if_pos h47])
    clear h47
    go_enter Tryd.func11, Tryd.ntmps11
    go_wp2
    go_ret2
    rw [HP.out]
    exact ⟨_, _, rfl, C_none _ _, Nat.le_refl _, (Below.refl _ _).alloc (by simp) _, fun ad h h0 => absurd h0 (by simp)⟩
  · have h1 : (s.toList == [47]) = false := by rw [toList_data]; exact beq_eq_false_iff_ne.2 h47
    by_cases he : bl s = []
    · have h2 : s.toList.isEmpty = true := by rw [toList_data]; show (bl s).isEmpty = true; rw [he]; rfl
      have HP := Lib.hid (show pathOfL (bl s) = ([], false) by unfold pathOfL; rw [if_neg h47, he]; rfl)
      clear he h47
      go_enter Tryd.func11, Tryd.ntmps11
      go_wp2
      go_ret2
      rw [HP.out]
      exact ⟨_, _, rfl, C_none _ _, Nat.le_refl _, (Below.refl _ _).alloc (by simp) _, fun ad h h0 => absurd h0 (by simp)⟩
    · have h2 : s.toList.isEmpty = false := by rw [toList_data, List.isEmpty_eq_false_iff]; exact he
      have hsz : 0 < s.size := by
        have := List.length_pos_iff.2 he
        rw [bl_len] at this
        exact this
      have l0 : 0 < (bl s).length := by rw [bl_len]; exact hsz
      have hh : (bl s).head? = some s[0] := by rw [List.head?_eq_getElem?, List.getElem?_eq_getElem l0]; rfl
      by_cases hs0 : s[0] = 47
      · have t1 : ((s[0].toNat : Int) == 47) = true := by rw [hs0]; rfl
        have t2 : ((s[0].toNat : Int) != 47) = false := by rw [hs0]; rfl
        obtain ⟨r, hr⟩ : ∃ r, bl s = 47 :: r := by
          cases hb : bl s with
          | nil => exact absurd hb he
          | cons a r => rw [hb] at hh; simp at hh; exact ⟨r, by rw [hh, hs0]⟩
        have hcut : (Txt.cut 47 (bl s)).map bs = bs [] :: (Txt.cut 47 r).map bs := by rw [hr, Txt.cut, if_pos rfl, List.map_cons]
        have hne : (Txt.cut 47 r).map bs ≠ [] := by simpa using Txt.cut_ne 47 r
        have hlen : ((Txt.cut 47 r).map bs).length ≤ 4194305 := by
          rw [List.length_map]
          have := cut_length 47 r
          have e : (bl s).length = r.length + 1 := by rw [hr]; rfl
          rw [bl_len] at e
          omega
        have hpos : 0 < ((Txt.cut 47 r).map bs).length := List.length_pos_iff.2 hne
        have hsm : Small ((Txt.cut 47 r).map bs) := cut_small 47 r (by have e : (bl s).length = r.length + 1 := by rw [hr]; rfl
                                                                       rw [bl_len] at e; omega)
        obtain ⟨k1, hk1⟩ := (l1Cut_ev s 47 hs).rounds
        obtain ⟨k2, hk2⟩ := (l2PathOk_ev _ hsm).rounds
        have HP := Lib.hid (show pathOfL (bl s) = ((Txt.cut 47 r).map bs, isPath 1 ((Txt.cut 47 r).map bs)) by unfold pathOfL; rw [if_neg h47, hh, hs0, if_pos rfl, hcut]; rfl)
        rw [hcut] at hk1
        generalize (Txt.cut 47 r).map bs = q at *
        have HK1 := Lib.hid hk1
        have HK2 := Lib.hid hk2
        clear hk1 hk2 hcut hr hs0 hh h47 he hne hsm
        go_enter Tryd.func11, Tryd.ntmps11
        go_wp2_with fail
        refine (spec_l1Cut.calls k1 s 47 _ _ HK1.out).mono ?_
        rintro e w1 ⟨v, rfl, hR, hb1⟩
        obtain ⟨A, c, hv, hc, hC⟩ := Kd.R_reads hR
        obtain ⟨b, o, rfl, hbl, hcell⟩ := C_cells hC (by simp)
        have hbase : w.heap.size ≤ b := ((Kd.R_bound hR).1 b (by rw [hv]; rfl)).2.1
        have hC2 := C_tail (by simp; omega) hcell
        have hv2 : v = .slice (some ⟨b, o, none⟩) (q.length + 1) c := hv
        have hc2 : q.length + 1 ≤ c := hc
        have HC2 := Lib.hid hC2
        clear hR hC hv hc hcell hC2
        rw [hv2]
        clear hv2
        go_wp2_with fail
        refine (spec_l2PathOk.calls k2 (some ⟨b, o + 1, none⟩) (c - 1) q _ w1 HC2.out (by omega) HK2.out).mono ?_
        rintro e w2 ⟨rfl, ⟨nd, rfl⟩⟩
        go_wp2
        go_ret2
        rw [HP.out]
        exact ⟨_, _, rfl, by have := HC2.out; exact Kd.C_drewN this nd, (by show q.length ≤ c - 1; omega), pw_below_drewN hb1 nd, fun ad h h0 => by injection h with h; rw [← h]; exact hbase⟩
      · have t1 : ((s[0].toNat : Int) == 47) = false := by
          rw [beq_eq_false_iff_ne]
          intro h
          exact hs0 (UInt8.toNat_inj.1 (by have : (47 : UInt8).toNat = 47 := rfl; omega))
        have t2 : ((s[0].toNat : Int) != 47) = true := by rw [bne, t1]; rfl
        have HP := Lib.hid (show pathOfL (bl s) = ([], false) by unfold pathOfL; rw [if_neg h47, hh, if_neg (by simpa using hs0)])
        clear hs0 hh h47 he
        go_enter Tryd.func11, Tryd.ntmps11
        go_wp2
        go_ret2
        rw [HP.out]
        exact ⟨_, _, rfl, C_none _ _, Nat.le_refl _, (Below.refl _ _).alloc (by simp) _, fun ad h h0 => absurd h0 (by simp)⟩

def kAt (x : ByteArray) : Nat → Int
  | 0 => 0
  | i + 1 => if 1 ≤ i ∧ bs (WORDS.getD i []) = x then (i : Int) else kAt x i
theorem kAt_succ (x : ByteArray) (k : Nat) (h : 1 ≤ k) : kAt x (k + 1) = if bs (WORDS.getD k []) = x then (k : Int) else kAt x k := by
  show (if 1 ≤ k ∧ bs (WORDS.getD k []) = x then (k : Int) else kAt x k) = _
  simp only [h, true_and]
def wS (l : List UInt8) (j : Nat) : ByteArray := ((Txt.cut 32 l).map bs).getD j ⟨#[]⟩
def kindS (l : List UInt8) : Int := kAt (wS l 0) 7
def lenS (l : List UInt8) : Nat := (Txt.cut 32 l).length
def destS (l : List UInt8) : List ByteArray := if kindS l = 5 ∧ 2 < lenS l then (pathOfL (bl (wS l 2))).1 else []
def numS (l : List UInt8) : Int := if kindS l ≠ 5 ∧ kindS l ≠ 4 ∧ 2 < lenS l then num22 (bl (wS l 2)) else 0
def dataS (l : List UInt8) : ByteArray := if kindS l = 2 ∧ 3 < lenS l then bs (bytesL (bl (wS l 3))).1 else ⟨#[]⟩
def candS (l : List UInt8) : Call := ⟨kindS l, (pathOfL (bl (wS l 1))).1, destS l, numS l, dataS l⟩
def okS (l : List UInt8) : Bool := decide (kindS l ≠ 0 ∧ 2 ≤ lenS l ∧ (pathOfL (bl (wS l 1))).2 = true ∧ callT (candS l) = l)
def resS (l : List UInt8) : Call := if okS l = true then candS l else ⟨0, [], [], 0, ⟨#[]⟩⟩
theorem wS_get (l : List UInt8) (j : Nat) (h : j < lenS l) : ((Txt.cut 32 l).map bs)[j]? = some (wS l j) := by
  have h' : j < ((Txt.cut 32 l).map bs).length := by rw [List.length_map]; exact h
  unfold wS
  rw [List.getD_eq_getElem?_getD, List.getElem?_eq_getElem h']
  rfl
theorem wS_size (l : List UInt8) (j : Nat) : (wS l j).size ≤ l.length := by
  by_cases h : j < lenS l
  · have h1 := wS_get l j h
    rw [List.getElem?_map] at h1
    obtain ⟨x, hx, e⟩ := Option.map_eq_some_iff.1 h1
    rw [← e, bs_size]
    exact cut_mem_len 32 l x (List.mem_of_getElem? hx)
  · unfold wS
    rw [List.getD_eq_getElem?_getD, List.getElem?_eq_none (by rw [List.length_map]; exact Nat.le_of_not_lt h)]
    exact Nat.zero_le _
theorem pathOfL_small (l : List UInt8) (h : l.length ≤ 4194304) : Small (pathOfL l).1 := by
  have h1 := cut_small 47 l h
  unfold pathOfL
  split
  · exact ⟨by simp, by simp⟩
  · split
    · refine ⟨?_, fun x hx => h1.2 x (List.mem_of_mem_tail hx)⟩
      have := h1.1
      simp only [List.length_tail] at *
      omega
    · exact ⟨by simp, by simp⟩
theorem candS_num (l : List UInt8) (h : isCallB (candS l) = true) : 0 ≤ (candS l).num ∧ (candS l).num < 100 := by
  unfold isCallB at h
  split at h
  · simp only [between, Bool.and_eq_true, decide_eq_true_eq] at h; omega
  · rename_i k1
    split at h
    · simp only [between, Bool.and_eq_true, decide_eq_true_eq] at h; omega
    · rename_i k2
      have e : (candS l).kind = kindS l := rfl
      rw [e] at k1 k2 h
      have : (candS l).num = 0 := by
        show numS l = 0
        unfold numS
        rw [if_neg]
        intro hh
        rw [if_neg hh.2.1, if_neg hh.1] at h
        cases h
      omega
set_option maxRecDepth 100000 in
set_option maxHeartbeats 2000000 in
theorem parseS_calls (s : ByteArray) (w : World) (hs : s.size ≤ 1048576) :
    Calls Tryd.prog 4 #[.string s] w fun e w' => ∃ (A1 : Option Addr) (c1 : Nat) (A2 : Option Addr) (c2 : Nat), e = .returned (.tuple #[.agg #[.int .i64 (resS (bl s)).kind, .slice A1 (resS (bl s)).path.length c1, .slice A2 (resS (bl s)).dest.length c2, .int .i64 (resS (bl s)).num, .string (resS (bl s)).data], .bool (okS (bl s))]) ∧ Kd.C Kd.string w' A1 (resS (bl s)).path.length (resS (bl s)).path ∧ (resS (bl s)).path.length ≤ c1 ∧ Kd.C Kd.string w' A2 (resS (bl s)).dest.length (resS (bl s)).dest ∧ (resS (bl s)).dest.length ≤ c2 ∧ Below w.heap.size w w' := by
  obtain ⟨kq, hkq⟩ := (l1Cut_ev s 32 (by omega)).rounds
  obtain ⟨W1, hW1⟩ : ∃ W1, W1 = w.alloc (.cells zc 24) := ⟨_, rfl⟩
  have hb1 : Below w.heap.size w W1 := by rw [hW1]; exact (Below.refl _ _).alloc (Nat.le_refl _) _
  have hg1 : W1.heap[w.heap.size]? = some (.cells zc 24 (0, 0)) := by rw [hW1]; exact blk_new _ _
  have HQ := Lib.hid hkq
  have HW1 := Lib.hid hW1
  have HB1 := Lib.hid hb1
  have HG1 := Lib.hid hg1
  clear hkq hW1 hb1 hg1
  go_enter Tryd.func4, Tryd.ntmps4
  go_wp2_with fail
  unfold zc at HW1
  rw [← HW1.out]
  refine (spec_l1Cut.calls kq s 32 _ _ HQ.out).mono ?_
  rintro e w4 ⟨v4, rfl, hr4, hb4⟩
  obtain ⟨A4, c4, e4⟩ := Kd.R_slice hr4
  subst e4
  obtain ⟨_, hc4, hC4⟩ := Kd.R_reads' hr4
  have hne : (Txt.cut 32 (bl s)).map bs ≠ [] := by simpa using Txt.cut_ne 32 (bl s)
  obtain ⟨b4, o4, rfl, _, hcell⟩ := C_cells hC4 hne
  rw [List.length_map] at hc4
  rw [List.length_map]
  have hn : 0 < lenS (bl s) := by unfold lenS; exact List.length_pos_iff.2 (Txt.cut_ne 32 (bl s))
  change lenS (bl s) ≤ c4 at hc4
  rw [show (Txt.cut 32 (bl s)).length = lenS (bl s) from rfl]
  have u0 : w4.cell? ⟨b4, o4, none⟩ = some (.string (wS (bl s) 0)) := hcell 0 _ (wS_get _ 0 hn)
  have HU := Lib.hid (show ∀ j, j < lenS (bl s) → w4.cell? ⟨b4, o4 + j, none⟩ = some (.string (wS (bl s) j)) from fun j hj => hcell j _ (wS_get _ j hj))
  have HBW := Lib.hid (show Below w.heap.size w w4 from HB1.out.trans (hb4.mono HB1.out.size))
  have HG4 := Lib.hid (blk_below HG1.out hb4)
  clear hr4 hb4 hC4 hcell hne HB1 HG1 HW1 HQ
  go_upto_region 3 with ((with_reducible refine gate_dst (N := 5) rfl ?_); refine box_event ?hg (N := 5) ?hd (cs := #[.int .i64 0, .slice none 0 0, .slice none 0 0, .int .i64 0, .string ⟨#[]⟩]) (t := 24) ?hr ?_; (case hd => rfl); (case hg => rfl); (case hr => first | (go_simp; done) | (go_simp; rfl)); intro gc hgc w5 hbox hb5; have GE := Lib.hid (Nat.le_of_eq hgc.symm); clear hgc; have z0 : w5.cell? ⟨gc, 0, none⟩ = some (.int .i64 0) := (blk_cell hbox 0).trans rfl; have y0 := blk_frozen hbox 0; have z1 : w5.cell? ⟨gc, 1, none⟩ = some (.slice none 0 0) := (blk_cell hbox 1).trans rfl; have y1 := blk_frozen hbox 1; have z2 : w5.cell? ⟨gc, 2, none⟩ = some (.slice none 0 0) := (blk_cell hbox 2).trans rfl; have y2 := blk_frozen hbox 2; have z3 : w5.cell? ⟨gc, 3, none⟩ = some (.int .i64 0) := (blk_cell hbox 3).trans rfl; have y3 := blk_frozen hbox 3; have z4 : w5.cell? ⟨gc, 4, none⟩ = some (.string ⟨#[]⟩) := (blk_cell hbox 4).trans rfl; have y4 := blk_frozen hbox 4)
  have ST := stored5 hbox rfl (.int .i64 0) (.slice none 0 0) (.slice none 0 0) (.int .i64 0) (.string ⟨#[]⟩)
  generalize hwn : (((((w5.setCell ⟨gc, 0, none⟩ (.int .i64 0)).setCell ⟨gc, 1, none⟩ (.slice none 0 0)).setCell ⟨gc, 2, none⟩ (.slice none 0 0)).setCell ⟨gc, 3, none⟩ (.int .i64 0)).setCell ⟨gc, 4, none⟩ (.string ⟨#[]⟩)) = wn at ST ⊢
  have BX := Lib.hid ST.box
  have HBn := Lib.hid (ST.keep w4 GE.out hb5)
  clear hwn ST hbox hb5 z0 y0 z1 y1 z2 y2 z3 y3 z4 y4
  go_upto_block 0 with (fail)
  go_cut [6] from 9 (fun v6 wc => wc.heap[gc]? = some (.cells (cc (kindS (bl s)) (.slice none 0 0) (.slice none 0 0) 0 ⟨#[]⟩) 24 (0, 0)) ∧ Below w4.heap.size w4 wc)
  case first =>
    go_wp2_with fail
    go_loopg [6] 7 (fun g i w' => ∃ k : Nat, 1 ≤ k ∧ k ≤ 7 ∧ 7 - k ≤ g ∧ i = .int .i64 k ∧ Aside0 (w'.heap[gc]? = some (.cells (cc (kAt (wS (bl s) 0) k) (.slice none 0 0) (.slice none 0 0) 0 ⟨#[]⟩) 24 (0, 0))) ∧ Aside0 (Below w4.heap.size w4 w'))
    case atStart => exact ⟨1, by omega, by omega, by omega, rfl, ⟨BX.out⟩, ⟨HBn.out⟩⟩
    case round =>
      obtain ⟨k, hk1, hk7, hg, rfl, BK, HB⟩ := hrel
      go_wp2_with fail
      refine (l42Words_calls _).mono ?_
      rintro e w2 ⟨rfl, hw2⟩
      have hb2 : Below wr.heap.size wr w2 := by rw [← hw2]; exact below_alloc (Below.refl _ _) _
      have BK2 := Lib.hid (blk_below BK.out hb2)
      have HB2 := Lib.hid (HB.out.trans (hb2.mono HB.out.size))
      clear hw2 hb2
      by_cases hlt : k < 7
      · have i0 : (0 : Int) ≤ (k : Int) := by omega
        have i1 : (k : Int) < 7 := by omega
        obtain ⟨W, hW⟩ : ∃ W, W = bs (WORDS.getD k []) := ⟨_, rfl⟩
        have hww : ∀ u : World, (u.alloc (.cells wordsRow 9)).cell? ⟨u.heap.size, k, none⟩ = some (.string W) := fun u => by rw [hW]; exact wordsRow_at k hlt u
        have HWW := Lib.hid hww
        have HKS := Lib.hid (show kAt (wS (bl s) 0) (k + 1) = if W = wS (bl s) 0 then (k : Int) else kAt (wS (bl s) 0) k by rw [hW]; exact kAt_succ _ k hk1)
        have hu2 := cell_of HB2.out u0
        clear hW hww BK HB
        go_upto_region 6 with (fail)
        refine start_ (n := 8) (S := fun w' => w'.cell? ⟨b4, o4, none⟩ = some (.string (wS (bl s) 0))) (ds := []) #[false, false, false, false, false, false, false, false] (by kernel_rfl) rfl rfl hu2 (fun hHeld => ?_)
        refine pure_ (i := 1) (N := (some 19)) (v := ?_) (a' := ?_) #[false, true, false, false, false, false, false, false] rfl rfl (by kernel_rfl) (fun _ _ _ h => h) (Or.inl ⟨by rfl, ?_⟩) ?_ ?_
        rotate_left
        · intro w'
          go_simp
          with_reducible rfl
        rotate_left
        · simp only [Act.put, List.setIfInBounds_toArray, List.set_cons_zero, List.set_cons_succ, i64_w, i32_w]
          rfl
        refine pure_ (i := 4) (N := (some 22)) (v := ?_) (a' := ?_) #[false, true, false, false, true, false, false, false] rfl rfl (by kernel_rfl) (fun _ _ _ h => h) (Or.inl ⟨by rfl, ?_⟩) ?_ ?_
        rotate_left
        · intro w'
          go_simp
          with_reducible rfl
        rotate_left
        · simp only [Act.put, List.setIfInBounds_toArray, List.set_cons_zero, List.set_cons_succ, i64_w, i32_w]
          rfl
        refine pure_ (i := 5) (N := (some 23)) (v := ?_) (a' := ?_) #[false, true, false, false, true, true, false, false] rfl rfl (by kernel_rfl) (fun _ _ _ h => h) (Or.inl ⟨by rfl, ?_⟩) ?_ ?_
        rotate_left
        · intro w'
          go_simp
          with_reducible rfl
        rotate_left
        · simp only [Act.put, List.setIfInBounds_toArray, List.set_cons_zero, List.set_cons_succ, i64_w, i32_w]
          rfl
        refine take_ (i := 6) (N := (some 24)) (v := ?_) (a' := ?_) #[false, true, false, false, true, true, true, false] rfl rfl (by kernel_rfl) (fun _ _ _ h => h) (Or.inl ⟨by rfl, ?_⟩) hHeld ?_ ?_
        rotate_left
        · rintro w' s0
          go_simp
          with_reducible rfl
        rotate_left
        · simp only [Act.put, List.setIfInBounds_toArray, List.set_cons_zero, List.set_cons_succ, i64_w, i32_w]
          rfl
        refine one_ (i := 0) (N := (some 18)) #[true, true, false, false, true, true, true, false] rfl rfl (by kernel_rfl) (by decide) (fun K hK => ?_)
        refine goes_ Tryd.func10 (by kernel_rfl) rfl #[] (by rfl) rfl rfl (by (try simp only [List.map_toArray, List.map_cons, List.map_nil]); first | done | rfl) ?_
        refine (l42Words_calls _).mono ?_
        rintro e w3 ⟨rfl, hw3⟩
        refine ⟨_, rfl, ?_⟩
        have hb3 : Below w2.heap.size w2 w3 := by rw [← hw3]; exact below_alloc (below_drew1 (Below.refl _ _)) _
        have hcw : w3.cell? ⟨w2.heap.size, k, none⟩ = some (.string W) := by rw [← hw3]; exact HWW.out w2.drew
        have HB3 := Lib.hid (HB2.out.trans (hb3.mono HB2.out.size))
        have BK3 := Lib.hid (blk_below BK2.out hb3)
        clear hw3 hb3
        refine hK.out _ _ (cell_of HB3.out u0) (fun hHeld => ?_)
        clear hK K
        refine norm_ (a' := ?_) ?_ ?_
        rotate_left
        · show Act.put _ (some 18) _ = _
          simp only [Act.put, List.setIfInBounds_toArray, List.set_cons_zero, List.set_cons_succ, i64_w, i32_w]
          rfl
        refine pure_ (i := 2) (N := (some 20)) (v := ?_) (a' := ?_) #[true, true, true, false, true, true, true, false] rfl rfl (by kernel_rfl) (fun _ _ _ h => h) (Or.inl ⟨by rfl, ?_⟩) ?_ ?_
        rotate_left
        · intro w'
          go_simp
          with_reducible rfl
        rotate_left
        · simp only [Act.put, List.setIfInBounds_toArray, List.set_cons_zero, List.set_cons_succ, i64_w, i32_w]
          rfl
        refine one_ (i := 3) (N := (some 21)) #[true, true, true, true, true, true, true, false] rfl rfl (by kernel_rfl) (by decide) (fun K hK => ?_)
        refine value_ (w1 := ?_) (v := ?_) (by rfl) rfl ?_ ?_
        rotate_left 2
        · go_simp
          constructor
          · rfl
          · rfl
        refine hK.out _ _ hHeld (fun hHeld => ?_)
        clear hK K
        refine norm_ (a' := ?_) ?_ ?_
        rotate_left
        · show Act.put _ (some 21) _ = _
          simp only [Act.put, List.setIfInBounds_toArray, List.set_cons_zero, List.set_cons_succ, i64_w, i32_w]
          rfl
        have z0 : w3.cell? ⟨gc, 0, none⟩ = some (.int .i64 (kAt (wS (bl s) 0) k)) := (blk_cell BK3.out 0).trans rfl
        have y0 := blk_frozen BK3.out 0
        clear hu2 hHeld HWW hcw
        by_cases he : W = wS (bl s) 0
        · have t1 : (W.toList == (wS (bl s) 0).toList) = true := beq_iff_eq.2 (by rw [he])
          have HKS2 := Lib.hid (show kAt (wS (bl s) 0) (k + 1) = (k : Int) by rw [HKS.out, if_pos he])
          clear he
          refine pure_ (i := 7) (N := (some 25)) (v := ?_) (a' := ?_) #[true, true, true, true, true, true, true, true] rfl rfl (by kernel_rfl) (fun _ _ _ h => h) (Or.inl ⟨by rfl, ?_⟩) ?_ ?_
          rotate_left
          · intro w'
            go_simp
            with_reducible rfl
          rotate_left
          · simp only [Act.put, List.setIfInBounds_toArray, List.set_cons_zero, List.set_cons_succ, i64_w, i32_w]
            rfl
          refine done_ (by kernel_rfl) ?_
          go_wp2
          go_roundg (7 - (k + 1))
          case measure => omega
          case rel =>
            have ST := stored1 (Stored.refl BK3.out) 0 (.int .i64 (k : Int)) (cc (k : Int) (.slice none 0 0) (.slice none 0 0) 0 ⟨#[]⟩) rfl
            exact ⟨k + 1, by omega, by omega, by omega, by go_num, ⟨by rw [HKS2.out]; exact ST.box⟩, ⟨ST.keep w4 GE.out HB3.out⟩⟩
        · have t1 : (W.toList == (wS (bl s) 0).toList) = false := beq_eq_false_iff_ne.2 (fun h => he ((toList_inj _ _).1 h))
          have HKS2 := Lib.hid (show kAt (wS (bl s) 0) (k + 1) = kAt (wS (bl s) 0) k by rw [HKS.out, if_neg he])
          clear he
          refine pure_ (i := 7) (N := (some 25)) (v := ?_) (a' := ?_) #[true, true, true, true, true, true, true, true] rfl rfl (by kernel_rfl) (fun _ _ _ h => h) (Or.inl ⟨by rfl, ?_⟩) ?_ ?_
          rotate_left
          · intro w'
            go_simp
            with_reducible rfl
          rotate_left
          · simp only [Act.put, List.setIfInBounds_toArray, List.set_cons_zero, List.set_cons_succ, i64_w, i32_w]
            rfl
          refine done_ (by kernel_rfl) ?_
          go_wp2
          go_roundg (7 - (k + 1))
          case measure => omega
          case rel =>
            exact ⟨k + 1, by omega, by omega, by omega, by go_num, ⟨by rw [HKS2.out]; exact BK3.out⟩, ⟨HB3.out⟩⟩
      · obtain rfl : k = 7 := by omega
        go_wp2
        go_meet
        case rel => exact ⟨BK2.out, HB2.out⟩
  case rest =>
    obtain ⟨wp, hwp⟩ : ∃ u, u = wc := ⟨wc, rfl⟩
    subst hwp
    obtain ⟨hbox, hbc⟩ := hcut
    have hres : wp.heap[w.heap.size]? = some (.cells zc 24 (0, 0)) := blk_below HG4.out hbc
    have z0 : wp.cell? ⟨gc, 0, none⟩ = some (.int .i64 (kindS (bl s))) := (blk_cell hbox 0).trans rfl
    have HBP := Lib.hid (show Below w.heap.size w wp from HBW.out.trans (hbc.mono HBW.out.size))
    have HRES := Lib.hid hres
    have HBC := Lib.hid hbc
    have HBOX := Lib.hid hbox
    clear hres hbox hbc BX HBn u0
    by_cases k0 : kindS (bl s) = 0
    · have t0 : (kindS (bl s) == 0) = true := beq_iff_eq.2 k0
      have HO := Lib.hid (show okS (bl s) = false by unfold okS; rw [decide_eq_false_iff_not]; exact fun h => h.1 k0)
      clear k0
      have r0 : wp.cell? ⟨w.heap.size, 0, none⟩ = some (.int .i64 0) := (blk_cell HRES.out 0).trans rfl
      have f0 := blk_frozen HRES.out 0
      have r1 : wp.cell? ⟨w.heap.size, 1, none⟩ = some (.slice none 0 0) := (blk_cell HRES.out 1).trans rfl
      have f1 := blk_frozen HRES.out 1
      have r2 : wp.cell? ⟨w.heap.size, 2, none⟩ = some (.slice none 0 0) := (blk_cell HRES.out 2).trans rfl
      have f2 := blk_frozen HRES.out 2
      have r3 : wp.cell? ⟨w.heap.size, 3, none⟩ = some (.int .i64 0) := (blk_cell HRES.out 3).trans rfl
      have f3 := blk_frozen HRES.out 3
      have r4 : wp.cell? ⟨w.heap.size, 4, none⟩ = some (.string ⟨#[]⟩) := (blk_cell HRES.out 4).trans rfl
      have f4 := blk_frozen HRES.out 4
      go_wp2
      have ST := Lib.hid (stored5 HRES.out rfl (.int .i64 0) (.slice none 0 0) (.slice none 0 0) (.int .i64 0) (.string ⟨#[]⟩))
      (try simp only [Exit.inBlock, Exit.then])
      refine bodyPost_ret (v := .tuple #[.agg #[.int .i64 0, .slice none 0 0, .slice none 0 0, .int .i64 0, .string ⟨#[]⟩], .bool false]) ?_ rfl ?_
      · rw [results_cell_tmp rfl]
        go_simp
      have hres0 : resS (bl s) = ⟨0, [], [], 0, ⟨#[]⟩⟩ := by unfold resS; rw [if_neg (by rw [HO.out]; decide)]
      rw [HO.out, hres0]
      exact ⟨none, 0, none, 0, rfl, C_none _ _, Nat.le_refl _, C_none _ _, Nat.le_refl _, ST.out.keep w (Nat.le_refl _) HBP.out⟩
    · have t0 : (kindS (bl s) == 0) = false := beq_eq_false_iff_ne.2 k0
      have HK0 := Lib.hid k0
      clear k0
      by_cases hl : lenS (bl s) < 2
      · have hl' : (lenS (bl s) : Int) < 2 := by omega
        have HO := Lib.hid (show okS (bl s) = false by unfold okS; rw [decide_eq_false_iff_not]; exact fun h => absurd h.2.1 (by omega))
        have r0 : wp.cell? ⟨w.heap.size, 0, none⟩ = some (.int .i64 0) := (blk_cell HRES.out 0).trans rfl
        have f0 := blk_frozen HRES.out 0
        have r1 : wp.cell? ⟨w.heap.size, 1, none⟩ = some (.slice none 0 0) := (blk_cell HRES.out 1).trans rfl
        have f1 := blk_frozen HRES.out 1
        have r2 : wp.cell? ⟨w.heap.size, 2, none⟩ = some (.slice none 0 0) := (blk_cell HRES.out 2).trans rfl
        have f2 := blk_frozen HRES.out 2
        have r3 : wp.cell? ⟨w.heap.size, 3, none⟩ = some (.int .i64 0) := (blk_cell HRES.out 3).trans rfl
        have f3 := blk_frozen HRES.out 3
        have r4 : wp.cell? ⟨w.heap.size, 4, none⟩ = some (.string ⟨#[]⟩) := (blk_cell HRES.out 4).trans rfl
        have f4 := blk_frozen HRES.out 4
        go_wp2
        have ST := Lib.hid (stored5 HRES.out rfl (.int .i64 0) (.slice none 0 0) (.slice none 0 0) (.int .i64 0) (.string ⟨#[]⟩))
        (try simp only [Exit.inBlock, Exit.then])
        refine bodyPost_ret (v := .tuple #[.agg #[.int .i64 0, .slice none 0 0, .slice none 0 0, .int .i64 0, .string ⟨#[]⟩], .bool false]) ?_ rfl ?_
        · rw [results_cell_tmp rfl]
          go_simp
        have hres0 : resS (bl s) = ⟨0, [], [], 0, ⟨#[]⟩⟩ := by unfold resS; rw [if_neg (by rw [HO.out]; decide)]
        rw [HO.out, hres0]
        exact ⟨none, 0, none, 0, rfl, C_none _ _, Nat.le_refl _, C_none _ _, Nat.le_refl _, ST.out.keep w (Nat.le_refl _) HBP.out⟩
      · have hl' : ¬ (lenS (bl s) : Int) < 2 := by omega
        have l1 : (1 : Int) < (lenS (bl s) : Int) := by omega
        have m1 : 1 < lenS (bl s) := by omega
        have u1 := cell_of HBC.out (HU.out 1 m1)
        have q1 := wS_size (bl s) 1
        have q2 := wS_size (bl s) 2
        have q3 := wS_size (bl s) 3
        rw [bl_len] at q1 q2 q3
        go_wp2_with fail
        refine (l41PathOf_far (wS (bl s) 1) _ (by omega)).mono ?_
        rintro e w6 ⟨A1, c1, rfl, hC1, hc1, hb6, hf1⟩
        have hb6' : Below w4.heap.size w4 w6 := HBC.out.trans (hb6.mono HBC.out.size)
        have BX6 := Lib.hid (blk_below HBOX.out hb6)
        have z06 : w6.cell? ⟨gc, 0, none⟩ = some (.int .i64 (kindS (bl s))) := (blk_cell BX6.out 0).trans rfl
        have z1 : w6.cell? ⟨gc, 1, none⟩ = some (.slice none 0 0) := (blk_cell BX6.out 1).trans rfl
        have y1 := blk_frozen BX6.out 1
        have HF1 := Lib.hid (show ∀ ad, A1 = some ad → 0 < (pathOfL (bl (wS (bl s) 1))).1.length → ad.block ≠ gc from fun ad h h0 => by have := hf1 ad h h0; have := blk_lt HBOX.out; omega)
        have HF1w := Lib.hid (show ∀ ad, A1 = some ad → 0 < (pathOfL (bl (wS (bl s) 1))).1.length → ad.block ≠ w.heap.size from fun ad h h0 => by have := hf1 ad h h0; have := blk_lt HRES.out; omega)
        have HC1 := Lib.hid hC1
        have HCC1 := Lib.hid hc1
        have HB6 := Lib.hid hb6'
        have HR6 := Lib.hid (blk_below HRES.out hb6)
        clear hC1 hc1 hb6 hb6' hf1 z0 u1 t0
        go_upto_block 2 with (fail)
        have ST := stored1 (Stored.refl BX6.out) 1 (.slice A1 (pathOfL (bl (wS (bl s) 1))).1.length c1) (cc (kindS (bl s)) (.slice A1 (pathOfL (bl (wS (bl s) 1))).1.length c1) (.slice none 0 0) 0 ⟨#[]⟩) rfl
        generalize hw7 : w6.setCell ⟨gc, 1, none⟩ (.slice A1 (pathOfL (bl (wS (bl s) 1))).1.length c1) = w7 at ST ⊢
        have HC7 := Lib.hid (C_far ST HC1.out HF1.out)
        have HB7 := Lib.hid (ST.keep w4 GE.out HB6.out)
        have BX7 := Lib.hid ST.box
        have hng : w.heap.size ≠ gc := by have := blk_lt HG4.out; have := GE.out; omega
        have HR7 := Lib.hid (ST.far _ _ hng HR6.out)
        have HLT := Lib.hid (blk_lt ST.box)
        clear hw7 ST z06 z1 y1 BX6 HC1 HB6 HR6 HBOX HRES HBC HBP hng
        go_cut [8] from 9 (fun v8 wd => v8 = .bool (pathOfL (bl (wS (bl s) 1))).2 ∧ ∃ A2 c2, wd.heap[gc]? = some (.cells (cc (kindS (bl s)) (.slice A1 (pathOfL (bl (wS (bl s) 1))).1.length c1) (.slice A2 (destS (bl s)).length c2) (numS (bl s)) (dataS (bl s))) 24 (0, 0)) ∧ Kd.C Kd.string wd A1 (pathOfL (bl (wS (bl s) 1))).1.length (pathOfL (bl (wS (bl s) 1))).1 ∧ Kd.C Kd.string wd A2 (destS (bl s)).length (destS (bl s)) ∧ (destS (bl s)).length ≤ c2 ∧ (∀ ad, A2 = some ad → 0 < (destS (bl s)).length → ad.block ≠ w.heap.size) ∧ wd.heap[w.heap.size]? = some (.cells zc 24 (0, 0)) ∧ Below w4.heap.size w4 wd)
        case first =>
          have z0 : w7.cell? ⟨gc, 0, none⟩ = some (.int .i64 (kindS (bl s))) := (blk_cell BX7.out 0).trans rfl
          have hng : w.heap.size ≠ gc := by have := blk_lt HG4.out; have := GE.out; omega
          have HNG := Lib.hid hng
          clear hng
          by_cases h2 : 2 < lenS (bl s)
          · have l2 : (2 : Int) < (lenS (bl s) : Int) := by omega
            have u2 := cell_of HB7.out (HU.out 2 h2)
            by_cases k5 : kindS (bl s) = 5
            · have HD := Lib.hid (show destS (bl s) = (pathOfL (bl (wS (bl s) 2))).1 by unfold destS; rw [if_pos (by omega)])
              have HN := Lib.hid (show numS (bl s) = 0 by unfold numS; rw [if_neg (by omega)])
              have HDA := Lib.hid (show dataS (bl s) = ⟨#[]⟩ by unfold dataS; rw [if_neg (by omega)])
              have t5 : (kindS (bl s) == 5) = true := beq_iff_eq.2 (by omega)
              have t4 : (kindS (bl s) == 4) = false := beq_eq_false_iff_ne.2 (by omega)
              clear k5 h2
              go_wp2_with fail
              refine (l41PathOf_far (wS (bl s) 2) _ (by omega)).mono ?_
              rintro e w8 ⟨A2, c2, rfl, hC2, hc2, hb8, hf2⟩
              have BX8 := Lib.hid (blk_below BX7.out hb8)
              have z2 : w8.cell? ⟨gc, 2, none⟩ = some (.slice none 0 0) := (blk_cell BX8.out 2).trans rfl
              have y2 := blk_frozen BX8.out 2
              have HF2 := Lib.hid (show ∀ ad, A2 = some ad → 0 < (pathOfL (bl (wS (bl s) 2))).1.length → ad.block ≠ gc from fun ad h h0 => by have := hf2 ad h h0; have := HLT.out; omega)
              have HF2w := Lib.hid (show ∀ ad, A2 = some ad → 0 < (pathOfL (bl (wS (bl s) 2))).1.length → ad.block ≠ w.heap.size from fun ad h h0 => by have := hf2 ad h h0; have := blk_lt HR7.out; omega)
              have HC2 := Lib.hid hC2
              have HCC2 := Lib.hid hc2
              have HB8 := Lib.hid hb8
              clear hC2 hc2 hb8 hf2
              go_wp2
              go_meet
              case rel =>
                refine ⟨rfl, A2, c2, ?_⟩
                rw [HD.out, HN.out, HDA.out]
                have ST := stored1 (Stored.refl BX8.out) 2 (.slice A2 (pathOfL (bl (wS (bl s) 2))).1.length c2) (cc (kindS (bl s)) (.slice A1 (pathOfL (bl (wS (bl s) 1))).1.length c1) (.slice A2 (pathOfL (bl (wS (bl s) 2))).1.length c2) 0 ⟨#[]⟩) rfl
                exact ⟨ST.box, C_far ST (Kd.C_below HC7.out HB8.out) HF1.out, C_far ST HC2.out HF2.out, HCC2.out, HF2w.out, ST.far _ _ HNG.out (blk_below HR7.out HB8.out), ST.keep w4 GE.out (HB7.out.trans (HB8.out.mono HB7.out.size))⟩
            · by_cases k4 : kindS (bl s) = 4
              · have HD := Lib.hid (show destS (bl s) = [] by unfold destS; rw [if_neg (by omega)])
                have HN := Lib.hid (show numS (bl s) = 0 by unfold numS; rw [if_neg (by omega)])
                have HDA := Lib.hid (show dataS (bl s) = ⟨#[]⟩ by unfold dataS; rw [if_neg (by omega)])
                have t4 : (kindS (bl s) == 4) = true := beq_iff_eq.2 (by omega)
                have t5 : (kindS (bl s) == 5) = false := beq_eq_false_iff_ne.2 (by omega)
                clear k4 k5 h2
                go_wp2
                go_meet
                case rel =>
                  refine ⟨rfl, none, 0, ?_⟩
                  rw [HD.out, HN.out, HDA.out]
                  exact ⟨BX7.out, HC7.out, C_none _ _, Nat.le_refl _, (fun ad h _ => by cases h), HR7.out, HB7.out⟩
              · have HN := Lib.hid (show numS (bl s) = num22 (bl (wS (bl s) 2)) by unfold numS; rw [if_pos (by omega)])
                have HD := Lib.hid (show destS (bl s) = [] by unfold destS; rw [if_neg (by omega)])
                have t5 : (kindS (bl s) == 5) = false := beq_eq_false_iff_ne.2 (by omega)
                have t4 : (kindS (bl s) == 4) = false := beq_eq_false_iff_ne.2 (by omega)
                obtain ⟨kn, hkn⟩ := (l22Num_ev (wS (bl s) 2) (by omega)).rounds
                have HKN := Lib.hid hkn
                clear hkn
                go_wp2_with fail
                refine (spec_l22Num.calls kn (wS (bl s) 2) _ _ HKN.out).mono ?_
                rintro e w8 ⟨rfl, ⟨nd, rfl⟩⟩
                have z3 : w7.cell? ⟨gc, 3, none⟩ = some (.int .i64 0) := (blk_cell BX7.out 3).trans rfl
                have y3 := blk_frozen BX7.out 3
                go_upto_region 15 with (fail)
                have ST := stored1 (Stored.refl (blk_drewN BX7.out nd)) 3 (.int .i64 (num22 (bl (wS (bl s) 2)))) (cc (kindS (bl s)) (.slice A1 (pathOfL (bl (wS (bl s) 1))).1.length c1) (.slice none 0 0) (num22 (bl (wS (bl s) 2))) ⟨#[]⟩) rfl
                generalize hw9 : (w7.drewN nd).setCell ⟨gc, 3, none⟩ (.int .i64 (num22 (bl (wS (bl s) 2)))) = w9 at ST ⊢
                have HC9 := Lib.hid (C_far ST (Kd.C_drewN HC7.out nd) HF1.out)
                have HB9 := Lib.hid (ST.keep w4 GE.out (pw_below_drewN HB7.out nd))
                have BX9 := Lib.hid ST.box
                have HR9 := Lib.hid (ST.far _ _ HNG.out (blk_drewN HR7.out nd))
                have z09 : w9.cell? ⟨gc, 0, none⟩ = some (.int .i64 (kindS (bl s))) := (blk_cell ST.box 0).trans rfl
                clear hw9 ST z0 z3 y3 BX7 HC7 HB7 HR7 u2
                by_cases h3 : 3 < lenS (bl s)
                · have l3 : (3 : Int) < (lenS (bl s) : Int) := by omega
                  by_cases k2 : kindS (bl s) = 2
                  · have t2 : (kindS (bl s) == 2) = true := beq_iff_eq.2 k2
                    have HDA := Lib.hid (show dataS (bl s) = bs (bytesL (bl (wS (bl s) 3))).1 by unfold dataS; rw [if_pos (by omega)])
                    have u3 := cell_of HB9.out (HU.out 3 h3)
                    obtain ⟨kb, hkb⟩ := (l1Bytes_ev (wS (bl s) 3) (by omega)).rounds
                    have HKB := Lib.hid hkb
                    clear hkb k2 h3 k4 k5 h2
                    go_wp2_with fail
                    refine (spec_l1Bytes.calls kb (wS (bl s) 3) _ _ _ HKB.out).mono ?_
                    rintro e wb ⟨rfl, hbb⟩
                    have BXb := Lib.hid (blk_below BX9.out hbb)
                    have HBb := Lib.hid hbb
                    have z4 : wb.cell? ⟨gc, 4, none⟩ = some (.string ⟨#[]⟩) := (blk_cell BXb.out 4).trans rfl
                    have y4 := blk_frozen BXb.out 4
                    clear hbb
                    go_wp2
                    go_meet
                    case rel =>
                      refine ⟨rfl, none, 0, ?_⟩
                      rw [HD.out, HN.out, HDA.out]
                      have ST := stored1 (Stored.refl BXb.out) 4 (.string (bs (bytesL (bl (wS (bl s) 3))).1)) (cc (kindS (bl s)) (.slice A1 (pathOfL (bl (wS (bl s) 1))).1.length c1) (.slice none 0 0) (num22 (bl (wS (bl s) 2))) (bs (bytesL (bl (wS (bl s) 3))).1)) rfl
                      exact ⟨ST.box, C_far ST (Kd.C_below HC9.out HBb.out) HF1.out, C_none _ _, Nat.le_refl _, (fun ad h _ => by cases h), ST.far _ _ HNG.out (blk_below HR9.out HBb.out), ST.keep w4 GE.out (HB9.out.trans (HBb.out.mono HB9.out.size))⟩
                  · have t2 : (kindS (bl s) == 2) = false := beq_eq_false_iff_ne.2 k2
                    have HDA := Lib.hid (show dataS (bl s) = ⟨#[]⟩ by unfold dataS; rw [if_neg (by omega)])
                    clear k2 h3 k4 k5 h2
                    go_wp2
                    go_meet
                    case rel =>
                      refine ⟨rfl, none, 0, ?_⟩
                      rw [HD.out, HN.out, HDA.out]
                      exact ⟨BX9.out, HC9.out, C_none _ _, Nat.le_refl _, (fun ad h _ => by cases h), HR9.out, HB9.out⟩
                · have l3 : ¬ (3 : Int) < (lenS (bl s) : Int) := by omega
                  have HDA := Lib.hid (show dataS (bl s) = ⟨#[]⟩ by unfold dataS; rw [if_neg (by omega)])
                  clear h3 k4 k5 h2
                  go_wp2
                  go_meet
                  case rel =>
                    refine ⟨rfl, none, 0, ?_⟩
                    rw [HD.out, HN.out, HDA.out]
                    exact ⟨BX9.out, HC9.out, C_none _ _, Nat.le_refl _, (fun ad h _ => by cases h), HR9.out, HB9.out⟩
          · have l2 : ¬ (2 : Int) < (lenS (bl s) : Int) := by omega
            have l3 : ¬ (3 : Int) < (lenS (bl s) : Int) := by omega
            have HD := Lib.hid (show destS (bl s) = [] by unfold destS; rw [if_neg (by omega)])
            have HN := Lib.hid (show numS (bl s) = 0 by unfold numS; rw [if_neg (by omega)])
            have HDA := Lib.hid (show dataS (bl s) = ⟨#[]⟩ by unfold dataS; rw [if_neg (by omega)])
            by_cases k5 : kindS (bl s) = 5
            · have t5 : (kindS (bl s) == 5) = true := beq_iff_eq.2 (by omega)
              have t4 : (kindS (bl s) == 4) = false := beq_eq_false_iff_ne.2 (by omega)
              clear k5 h2
              go_wp2
              go_meet
              case rel =>
                refine ⟨rfl, none, 0, ?_⟩
                rw [HD.out, HN.out, HDA.out]
                exact ⟨BX7.out, HC7.out, C_none _ _, Nat.le_refl _, (fun ad h _ => by cases h), HR7.out, HB7.out⟩
            · by_cases k4 : kindS (bl s) = 4
              · have t4 : (kindS (bl s) == 4) = true := beq_iff_eq.2 (by omega)
                have t5 : (kindS (bl s) == 5) = false := beq_eq_false_iff_ne.2 (by omega)
                clear k4 k5 h2
                go_wp2
                go_meet
                case rel =>
                  refine ⟨rfl, none, 0, ?_⟩
                  rw [HD.out, HN.out, HDA.out]
                  exact ⟨BX7.out, HC7.out, C_none _ _, Nat.le_refl _, (fun ad h _ => by cases h), HR7.out, HB7.out⟩
              · have t4 : (kindS (bl s) == 4) = false := beq_eq_false_iff_ne.2 (by omega)
                have t5 : (kindS (bl s) == 5) = false := beq_eq_false_iff_ne.2 (by omega)
                clear k4 k5 h2
                go_wp2
                go_meet
                case rel =>
                  refine ⟨rfl, none, 0, ?_⟩
                  rw [HD.out, HN.out, HDA.out]
                  exact ⟨BX7.out, HC7.out, C_none _ _, Nat.le_refl _, (fun ad h _ => by cases h), HR7.out, HB7.out⟩
        case rest =>
          have HF0 := HF1
          obtain ⟨rfl, A2, c2, hbox, hCa, hCb, hc2, hf2w, hres, hbd⟩ := hcut
          have HF2w := Lib.hid hf2w
          have HBX := Lib.hid hbox
          have HCA := Lib.hid hCa
          have HCB := Lib.hid hCb
          have HCC2 := Lib.hid hc2
          have HRS := Lib.hid hres
          have HBD := Lib.hid (show Below w.heap.size w wc from HBW.out.trans (hbd.mono HBW.out.size))
          have HS1 := Lib.hid (show Small (pathOfL (bl (wS (bl s) 1))).1 from pathOfL_small _ (by rw [bl_len]; omega))
          have HS2 := Lib.hid (show Small (destS (bl s)) by
            unfold destS
            split
            · exact pathOfL_small _ (by rw [bl_len]; omega)
            · exact ⟨by simp, by simp⟩)
          have HM1 := Lib.hid (show 2 ≤ lenS (bl s) from m1)
          have z0 : wc.cell? ⟨gc, 0, none⟩ = some (.int .i64 (kindS (bl s))) := (blk_cell hbox 0).trans rfl
          have z1 : wc.cell? ⟨gc, 1, none⟩ = some (.slice A1 (pathOfL (bl (wS (bl s) 1))).1.length c1) := (blk_cell hbox 1).trans rfl
          have z2 : wc.cell? ⟨gc, 2, none⟩ = some (.slice A2 (destS (bl s)).length c2) := (blk_cell hbox 2).trans rfl
          have z3 : wc.cell? ⟨gc, 3, none⟩ = some (.int .i64 (numS (bl s))) := (blk_cell hbox 3).trans rfl
          have z4 : wc.cell? ⟨gc, 4, none⟩ = some (.string (dataS (bl s))) := (blk_cell hbox 4).trans rfl
          clear hbox hCa hCb hc2 hf2w hres hbd BX7 HC7 HB7 HR7 hl hl' l1 m1 q1 q2 q3
          cases hpo : (pathOfL (bl (wS (bl s) 1))).2 with
          | false =>
            have HO := Lib.hid (show okS (bl s) = false by unfold okS; rw [decide_eq_false_iff_not]; exact fun h => by rw [hpo] at h; exact absurd h.2.2.1 (by decide))
            clear hpo
            have r0 : wc.cell? ⟨w.heap.size, 0, none⟩ = some (.int .i64 0) := (blk_cell HRS.out 0).trans rfl
            have f0 := blk_frozen HRS.out 0
            have r1 : wc.cell? ⟨w.heap.size, 1, none⟩ = some (.slice none 0 0) := (blk_cell HRS.out 1).trans rfl
            have f1 := blk_frozen HRS.out 1
            have r2 : wc.cell? ⟨w.heap.size, 2, none⟩ = some (.slice none 0 0) := (blk_cell HRS.out 2).trans rfl
            have f2 := blk_frozen HRS.out 2
            have r3 : wc.cell? ⟨w.heap.size, 3, none⟩ = some (.int .i64 0) := (blk_cell HRS.out 3).trans rfl
            have f3 := blk_frozen HRS.out 3
            have r4 : wc.cell? ⟨w.heap.size, 4, none⟩ = some (.string ⟨#[]⟩) := (blk_cell HRS.out 4).trans rfl
            have f4 := blk_frozen HRS.out 4
            go_wp2
            have ST := Lib.hid (stored5 HRS.out rfl (.int .i64 0) (.slice none 0 0) (.slice none 0 0) (.int .i64 0) (.string ⟨#[]⟩))
            (try simp only [Exit.inBlock, Exit.then])
            refine bodyPost_ret (v := .tuple #[.agg #[.int .i64 0, .slice none 0 0, .slice none 0 0, .int .i64 0, .string ⟨#[]⟩], .bool false]) ?_ rfl ?_
            · rw [results_cell_tmp rfl]
              go_simp
            have hres0 : resS (bl s) = ⟨0, [], [], 0, ⟨#[]⟩⟩ := by unfold resS; rw [if_neg (by rw [HO.out]; decide)]
            rw [HO.out, hres0]
            exact ⟨none, 0, none, 0, rfl, C_none _ _, Nat.le_refl _, C_none _ _, Nat.le_refl _, ST.out.keep w (Nat.le_refl _) HBD.out⟩
          | true =>
            by_cases hc : callT (candS (bl s)) = bl s
            · have h5 : ((bs (callT (candS (bl s)))).toList == s.toList) = true := by rw [toList_data, toList_data, beq_iff_eq]; show bl (bs _) = bl s; rw [bl_bs, hc]
              have HO := Lib.hid (show okS (bl s) = true by unfold okS; rw [decide_eq_true_eq]; exact ⟨HK0.out, HM1.out, hpo, hc⟩)
              clear hpo hc
              go_wp2_with fail
              refine (sCallText_calls A1 A2 c1 c2 (candS (bl s)) _ HCA.out HCC1.out HCB.out HCC2.out (candS_num _) HS1.out HS2.out).mono ?_
              rintro e w9 ⟨rfl, hb9⟩
              have HBOX9 := Lib.hid (blk_below HBX.out hb9)
              have HRES9 := Lib.hid (blk_below HRS.out hb9)
              have HB9 := Lib.hid hb9
              have HBW9 := Lib.hid (show Below w.heap.size w w9 from HBD.out.trans (hb9.mono HBD.out.size))
              clear hb9 z0 z1 z2 z3 z4
              have r0 : w9.cell? ⟨w.heap.size, 0, none⟩ = some (.int .i64 0) := (blk_cell HRES9.out 0).trans rfl
              have f0 := blk_frozen HRES9.out 0
              have r1 : w9.cell? ⟨w.heap.size, 1, none⟩ = some (.slice none 0 0) := (blk_cell HRES9.out 1).trans rfl
              have f1 := blk_frozen HRES9.out 1
              have r2 : w9.cell? ⟨w.heap.size, 2, none⟩ = some (.slice none 0 0) := (blk_cell HRES9.out 2).trans rfl
              have f2 := blk_frozen HRES9.out 2
              have r3 : w9.cell? ⟨w.heap.size, 3, none⟩ = some (.int .i64 0) := (blk_cell HRES9.out 3).trans rfl
              have f3 := blk_frozen HRES9.out 3
              have r4 : w9.cell? ⟨w.heap.size, 4, none⟩ = some (.string ⟨#[]⟩) := (blk_cell HRES9.out 4).trans rfl
              have f4 := blk_frozen HRES9.out 4
              have x0 : w9.cell? ⟨gc, 0, none⟩ = some (.int .i64 (kindS (bl s))) := (blk_cell HBOX9.out 0).trans rfl
              have x1 : w9.cell? ⟨gc, 1, none⟩ = some (.slice A1 (pathOfL (bl (wS (bl s) 1))).1.length c1) := (blk_cell HBOX9.out 1).trans rfl
              have x2 : w9.cell? ⟨gc, 2, none⟩ = some (.slice A2 (destS (bl s)).length c2) := (blk_cell HBOX9.out 2).trans rfl
              have x3 : w9.cell? ⟨gc, 3, none⟩ = some (.int .i64 (numS (bl s))) := (blk_cell HBOX9.out 3).trans rfl
              have x4 : w9.cell? ⟨gc, 4, none⟩ = some (.string (dataS (bl s))) := (blk_cell HBOX9.out 4).trans rfl
              go_wp2
              have ST := Lib.hid (stored5 HRES9.out rfl (.int .i64 (kindS (bl s))) (.slice A1 (pathOfL (bl (wS (bl s) 1))).1.length c1) (.slice A2 (destS (bl s)).length c2) (.int .i64 (numS (bl s))) (.string (dataS (bl s))))
              (try simp only [Exit.inBlock, Exit.then])
              refine bodyPost_ret (v := .tuple #[.agg #[.int .i64 (kindS (bl s)), .slice A1 (pathOfL (bl (wS (bl s) 1))).1.length c1, .slice A2 (destS (bl s)).length c2, .int .i64 (numS (bl s)), .string (dataS (bl s))], .bool true]) ?_ rfl ?_
              · rw [results_cell_tmp rfl]
                go_simp
              have hres0 : resS (bl s) = candS (bl s) := by unfold resS; rw [if_pos HO.out]
              rw [HO.out, hres0]
              exact ⟨A1, c1, A2, c2, rfl, C_far ST.out (Kd.C_below HCA.out HB9.out) HF1w.out, HCC1.out, C_far ST.out (Kd.C_below HCB.out HB9.out) HF2w.out, HCC2.out, ST.out.keep w (Nat.le_refl _) HBW9.out⟩
            · have h5 : ((bs (callT (candS (bl s)))).toList == s.toList) = false := by rw [toList_data, toList_data, beq_eq_false_iff_ne]; show ¬ bl (bs _) = bl s; rw [bl_bs]; exact hc
              have HO := Lib.hid (show okS (bl s) = false by unfold okS; rw [decide_eq_false_iff_not]; exact fun h => hc h.2.2.2)
              clear hpo hc
              go_wp2_with fail
              refine (sCallText_calls A1 A2 c1 c2 (candS (bl s)) _ HCA.out HCC1.out HCB.out HCC2.out (candS_num _) HS1.out HS2.out).mono ?_
              rintro e w9 ⟨rfl, hb9⟩
              have HBOX9 := Lib.hid (blk_below HBX.out hb9)
              have HRES9 := Lib.hid (blk_below HRS.out hb9)
              have HB9 := Lib.hid hb9
              have HBW9 := Lib.hid (show Below w.heap.size w w9 from HBD.out.trans (hb9.mono HBD.out.size))
              clear hb9 z0 z1 z2 z3 z4
              have r0 : w9.cell? ⟨w.heap.size, 0, none⟩ = some (.int .i64 0) := (blk_cell HRES9.out 0).trans rfl
              have f0 := blk_frozen HRES9.out 0
              have r1 : w9.cell? ⟨w.heap.size, 1, none⟩ = some (.slice none 0 0) := (blk_cell HRES9.out 1).trans rfl
              have f1 := blk_frozen HRES9.out 1
              have r2 : w9.cell? ⟨w.heap.size, 2, none⟩ = some (.slice none 0 0) := (blk_cell HRES9.out 2).trans rfl
              have f2 := blk_frozen HRES9.out 2
              have r3 : w9.cell? ⟨w.heap.size, 3, none⟩ = some (.int .i64 0) := (blk_cell HRES9.out 3).trans rfl
              have f3 := blk_frozen HRES9.out 3
              have r4 : w9.cell? ⟨w.heap.size, 4, none⟩ = some (.string ⟨#[]⟩) := (blk_cell HRES9.out 4).trans rfl
              have f4 := blk_frozen HRES9.out 4
              go_wp2
              have ST := Lib.hid (stored5 HRES9.out rfl (.int .i64 0) (.slice none 0 0) (.slice none 0 0) (.int .i64 0) (.string ⟨#[]⟩))
              (try simp only [Exit.inBlock, Exit.then])
              refine bodyPost_ret (v := .tuple #[.agg #[.int .i64 0, .slice none 0 0, .slice none 0 0, .int .i64 0, .string ⟨#[]⟩], .bool false]) ?_ rfl ?_
              · rw [results_cell_tmp rfl]
                go_simp
              have hres0 : resS (bl s) = ⟨0, [], [], 0, ⟨#[]⟩⟩ := by unfold resS; rw [if_neg (by rw [HO.out]; decide)]
              rw [HO.out, hres0]
              exact ⟨none, 0, none, 0, rfl, C_none _ _, Nat.le_refl _, C_none _ _, Nat.le_refl _, ST.out.keep w (Nat.le_refl _) HBW9.out⟩
end Go.Proofs.YtojlffnlenldiaaDoor.F
