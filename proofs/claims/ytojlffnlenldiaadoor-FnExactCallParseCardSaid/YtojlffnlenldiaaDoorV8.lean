import Derived.Test.YtojlffnlenldiaaDoorP6
namespace Go.Proofs.YtojlffnlenldiaaDoor.F
open Go.RowKit Go.Proofs.YtojlffnlenldiaaDoorW.PrintWords Go.Proofs.YtojlffnlenldiaaDoorW.PrintLast Go.Proofs.YtojlffnlenldiaaDoorW.PrintMore
set_option linter.unusedVariables false
set_option linter.unusedSimpArgs false

theorem isCallB_len (c : Call) (hok : isCallB c = true) (hN : Norm c) : c.path.length ≤ 4 ∧ c.dest.length ≤ 4 := by
  have hd : c.kind ≠ 5 → c.dest.length ≤ 4 := fun h => by rw [hN.dest h]; simp
  unfold isCallB at hok
  split at hok
  · rw [Bool.and_eq_true] at hok
    exact ⟨(isPath_small 1 _ hok.1).2.2.1, hd (by omega)⟩
  · split at hok
    · rw [Bool.and_eq_true] at hok
      exact ⟨(isPath_small 1 _ hok.1).2.2.1, hd (by omega)⟩
    · split at hok
      · exact ⟨(isPath_small 1 _ hok).2.2.1, hd (by omega)⟩
      · split at hok
        · rw [Bool.and_eq_true] at hok
          exact ⟨(isPath_small 1 _ hok.1).2.2.1, (isPath_small 1 _ hok.2).2.2.1⟩
        · cases hok
theorem res_len (l : List UInt8) : (resS l).path.length ≤ 4 ∧ (resS l).dest.length ≤ 4 := by
  unfold resS
  by_cases h : okS l = true
  · rw [if_pos h]
    unfold okS at h
    rw [decide_eq_true_eq] at h
    have hne : l ≠ [] := by
      intro e
      have := h.2.1
      subst e
      exact absurd this (by decide)
    refine isCallB_len _ (Classical.byContradiction fun hh => hne ?_) (candS_norm l)
    rw [← h.2.2.2]
    unfold callT
    rw [if_neg (fun q => hh q.1)]
  · rw [if_neg h]
    simp
set_option maxHeartbeats 400000 in
theorem law_big (s : ByteArray) (w : World) (hs : 1048576 < s.size) :
    Calls Tryd.prog 3 #[.string s] w fun e w' => e = .returned (.bool true) ∧ Below w.heap.size w w' := by
  have h1 : (1048576 : Int) < (s.size : Int) := by omega
  go_enter Tryd.func3, Tryd.ntmps3
  go_wp2
  go_ret
  exact ⟨rfl, Below.refl _ _⟩
set_option maxRecDepth 100000 in
set_option maxHeartbeats 2000000 in
theorem law_small (s : ByteArray) (w : World) (hE : Env w) (hs : s.size ≤ 1048576) :
    Calls Tryd.prog 3 #[.string s] w fun e w' => e = .returned (.bool true) ∧ Below w.heap.size w w' := by
  have h1 : ¬ (1048576 : Int) < (s.size : Int) := by omega
  obtain ⟨R, hR⟩ : ∃ R, R = resS (bl s) := ⟨_, rfl⟩
  obtain ⟨ok, hok⟩ : ∃ ok, ok = okS (bl s) := ⟨_, rfl⟩
  have hS := fun w => parseS_calls s w hs
  have hI := fun w hE => parseI_calls s w hE hs
  rw [(read_same (bl s)).1, (read_same (bl s)).2] at hI
  rw [← hR, ← hok] at hS hI
  have hlen := res_len (bl s)
  rw [← hR] at hlen
  obtain ⟨ke, hke⟩ := (eqCall_ev R (by omega) (by omega)).rounds
  obtain ⟨km, hkm⟩ := (markCall_ev R 1 (by omega)).rounds
  obtain ⟨kh, hkh⟩ := (heldCall_ev R R.path.length R.dest.length 1 (by omega)).rounds
  have HKE := Lib.hid hke
  have HKM := Lib.hid hkm
  have HKH := Lib.hid hkh
  clear hke hkm hkh
  have HS := Lib.hid hS
  have HI := Lib.hid hI
  clear hS hI hR hok
  go_enter Tryd.func3, Tryd.ntmps3
  go_wp2_with fail
  refine (HS.out _).mono ?_
  rintro e w1 ⟨A1, c1, A2, c2, rfl, hC1, hc1, hC2, hc2, hb1⟩
  go_upto_region 4 with (((with_reducible refine gate_dst (N := 3) rfl ?_); refine box_event ?hg (N := 3) ?hd (cs := #[.int .i64 0, .slice none 0 0, .slice none 0 0, .int .i64 0, .string ⟨#[]⟩]) (t := 24) ?hr ?_; (case hd => rfl); (case hg => rfl); (case hr => first | (go_simp; done) | (go_simp; rfl)); intro g3 hgca w2 hboxa hba; have HGCa := Lib.hid hgca; clear hgca; have za0 : w2.cell? ⟨g3, 0, none⟩ = some (.int .i64 0) := (blk_cell hboxa 0).trans rfl; have ya0 := blk_frozen hboxa 0; have za1 : w2.cell? ⟨g3, 1, none⟩ = some (.slice none 0 0) := (blk_cell hboxa 1).trans rfl; have ya1 := blk_frozen hboxa 1; have za2 : w2.cell? ⟨g3, 2, none⟩ = some (.slice none 0 0) := (blk_cell hboxa 2).trans rfl; have ya2 := blk_frozen hboxa 2; have za3 : w2.cell? ⟨g3, 3, none⟩ = some (.int .i64 0) := (blk_cell hboxa 3).trans rfl; have ya3 := blk_frozen hboxa 3; have za4 : w2.cell? ⟨g3, 4, none⟩ = some (.string ⟨#[]⟩) := (blk_cell hboxa 4).trans rfl; have ya4 := blk_frozen hboxa 4))
  have ST := stored5 hboxa rfl (.int .i64 R.kind) (.slice A1 R.path.length c1) (.slice A2 R.dest.length c2) (.int .i64 R.num) (.string R.data)
  generalize hw3 : (((((w2.setCell ⟨g3, 0, none⟩ (.int .i64 R.kind)).setCell ⟨g3, 1, none⟩ (.slice A1 R.path.length c1)).setCell ⟨g3, 2, none⟩ (.slice A2 R.dest.length c2)).setCell ⟨g3, 3, none⟩ (.int .i64 R.num)).setCell ⟨g3, 4, none⟩ (.string R.data)) = w3 at ST ⊢
  have hb3 : Below w1.heap.size w1 w3 := ST.keep w1 (by rw [HGCa.out]; exact Nat.le_refl _) hba
  have BX3 := Lib.hid ST.box
  have HCS1 := Lib.hid (Kd.C_below hC1 hb3)
  have HCS2 := Lib.hid (Kd.C_below hC2 hb3)
  have HL1 := Lib.hid hc1
  have HL2 := Lib.hid hc2
  have HB3 := Lib.hid (show Below w.heap.size w w3 from hb1.trans (hb3.mono hb1.size))
  clear hw3 ST hboxa hba hC1 hC2 hc1 hc2 hb1 hb3 HGCa za0 za1 za2 za3 za4 ya0 ya1 ya2 ya3 ya4
  go_wp2_with fail
  refine (HI.out _ (hE.below HB3.out)).mono ?_
  rintro e w4 ⟨B1, d1, B2, d2, X, rfl, hr1, hr2, hb4⟩
  have HR1 := Lib.hid (Kd.R_mono (Kd.R_bound hr1) (ok' := fun k => k < X ∧ k < w4.heap.size) (fun k hk => ⟨hk.1, hk.2.2.1⟩))
  have HR2 := Lib.hid (Kd.R_mono (Kd.R_bound hr2) (ok' := fun k => X ≤ k ∧ k < w4.heap.size) (fun k hk => ⟨hk.1, hk.2.2.1⟩))
  have HB4 := Lib.hid hb4
  clear hr1 hr2 hb4
  go_upto_region 5 with (((with_reducible refine gate_dst (N := 5) rfl ?_); refine box_event ?hg (N := 5) ?hd (cs := #[.int .i64 0, .slice none 0 0, .slice none 0 0, .int .i64 0, .string ⟨#[]⟩]) (t := 24) ?hr ?_; (case hd => rfl); (case hg => rfl); (case hr => first | (go_simp; done) | (go_simp; rfl)); intro g5 hgcb w5 hboxb hbb; have HGCb := Lib.hid hgcb; clear hgcb; have zb0 : w5.cell? ⟨g5, 0, none⟩ = some (.int .i64 0) := (blk_cell hboxb 0).trans rfl; have yb0 := blk_frozen hboxb 0; have zb1 : w5.cell? ⟨g5, 1, none⟩ = some (.slice none 0 0) := (blk_cell hboxb 1).trans rfl; have yb1 := blk_frozen hboxb 1; have zb2 : w5.cell? ⟨g5, 2, none⟩ = some (.slice none 0 0) := (blk_cell hboxb 2).trans rfl; have yb2 := blk_frozen hboxb 2; have zb3 : w5.cell? ⟨g5, 3, none⟩ = some (.int .i64 0) := (blk_cell hboxb 3).trans rfl; have yb3 := blk_frozen hboxb 3; have zb4 : w5.cell? ⟨g5, 4, none⟩ = some (.string ⟨#[]⟩) := (blk_cell hboxb 4).trans rfl; have yb4 := blk_frozen hboxb 4))
  have ST := stored5 hboxb rfl (.int .i64 R.kind) (.slice B1 R.path.length d1) (.slice B2 R.dest.length d2) (.int .i64 R.num) (.string R.data)
  generalize hw6 : (((((w5.setCell ⟨g5, 0, none⟩ (.int .i64 R.kind)).setCell ⟨g5, 1, none⟩ (.slice B1 R.path.length d1)).setCell ⟨g5, 2, none⟩ (.slice B2 R.dest.length d2)).setCell ⟨g5, 3, none⟩ (.int .i64 R.num)).setCell ⟨g5, 4, none⟩ (.string R.data)) = w6 at ST ⊢
  have hb6 : Below w4.heap.size w4 w6 := ST.keep w4 (by rw [HGCb.out]; exact Nat.le_refl _) hbb
  have BX6 := Lib.hid ST.box
  have HR16 := Lib.hid (Kd.R_below HR1.out hb6)
  have HR26 := Lib.hid (Kd.R_below HR2.out hb6)
  have HB6 := Lib.hid (show Below w3.heap.size w3 w6 from HB4.out.trans (hb6.mono HB4.out.size))
  clear hw6 ST hboxb hbb hb6 HR1 HR2 HB4 zb0 zb1 zb2 zb3 zb4 yb0 yb1 yb2 yb3 yb4
  have BX36 := Lib.hid (blk_below BX3.out HB6.out)
  have p0 : w6.cell? ⟨g5, 0, none⟩ = some (.int .i64 R.kind) := (blk_cell BX6.out 0).trans rfl
  have p1 : w6.cell? ⟨g5, 1, none⟩ = some (.slice B1 R.path.length d1) := (blk_cell BX6.out 1).trans rfl
  have p2 : w6.cell? ⟨g5, 2, none⟩ = some (.slice B2 R.dest.length d2) := (blk_cell BX6.out 2).trans rfl
  have p3 : w6.cell? ⟨g5, 3, none⟩ = some (.int .i64 R.num) := (blk_cell BX6.out 3).trans rfl
  have p4 : w6.cell? ⟨g5, 4, none⟩ = some (.string R.data) := (blk_cell BX6.out 4).trans rfl
  have q0 : w6.cell? ⟨g3, 0, none⟩ = some (.int .i64 R.kind) := (blk_cell BX36.out 0).trans rfl
  have q1 : w6.cell? ⟨g3, 1, none⟩ = some (.slice A1 R.path.length c1) := (blk_cell BX36.out 1).trans rfl
  have q2 : w6.cell? ⟨g3, 2, none⟩ = some (.slice A2 R.dest.length c2) := (blk_cell BX36.out 2).trans rfl
  have q3 : w6.cell? ⟨g3, 3, none⟩ = some (.int .i64 R.num) := (blk_cell BX36.out 3).trans rfl
  have q4 : w6.cell? ⟨g3, 4, none⟩ = some (.string R.data) := (blk_cell BX36.out 4).trans rfl
  go_wp2_with fail
  refine (laws_eqCall.calls ke R.kind B1 d1 R.path B2 d2 R.dest R.num R.data R.kind A1 c1 R.path A2 c2 R.dest R.num R.data true _ (Kd.R_reads' HR16.out).2.2 (Kd.R_reads' HR16.out).2.1 (Kd.R_reads' HR26.out).2.2 (Kd.R_reads' HR26.out).2.1 (Kd.C_below HCS1.out HB6.out) HL1.out (Kd.C_below HCS2.out HB6.out) HL2.out HKE.out).mono ?_
  rintro e w7 ⟨rfl, hb7⟩
  have BX7 := Lib.hid (blk_below BX6.out hb7)
  have HR17 := Lib.hid (Kd.R_below HR16.out hb7)
  have HR27 := Lib.hid (Kd.R_below HR26.out hb7)
  have HB7 := Lib.hid (HB6.out.trans (hb7.mono HB6.out.size))
  have hok : (ok != ok) = false := by simp
  clear hb7 p0 p1 p2 p3 p4 q0 q1 q2 q3 q4 BX6 BX36 HR16 HR26 HB6
  have p0 : w7.cell? ⟨g5, 0, none⟩ = some (.int .i64 R.kind) := (blk_cell BX7.out 0).trans rfl
  have p1 : w7.cell? ⟨g5, 1, none⟩ = some (.slice B1 R.path.length d1) := (blk_cell BX7.out 1).trans rfl
  have p2 : w7.cell? ⟨g5, 2, none⟩ = some (.slice B2 R.dest.length d2) := (blk_cell BX7.out 2).trans rfl
  have p3 : w7.cell? ⟨g5, 3, none⟩ = some (.int .i64 R.num) := (blk_cell BX7.out 3).trans rfl
  have p4 : w7.cell? ⟨g5, 4, none⟩ = some (.string R.data) := (blk_cell BX7.out 4).trans rfl
  go_wp2_with fail
  refine (laws_markCall.calls km R.kind (fun k => k < X ∧ k < w4.heap.size) (.slice B1 R.path.length d1) R.path (fun k => X ≤ k ∧ k < w4.heap.size) (.slice B2 R.dest.length d2) R.dest R.num R.data 1 _ _ _ w3 w7 HB7.out HR17.out (fun k h h' => by omega) HR27.out (fun k h h' => by omega) HKM.out).mono ?_
  rintro e w8 ⟨rfl, hr1, hr2, hb8, hk8⟩
  have hge : w4.heap.size ≤ g5 := by rw [HGCb.out]; exact Nat.le_refl _
  have BX8 := Lib.hid (blk_kept BX7.out hk8 (by omega))
  have HM1 := Lib.hid (Kd.R_reads' hr1)
  have HM2 := Lib.hid (Kd.R_reads' hr2)
  have HB8 := Lib.hid hb8
  clear hr1 hr2 hb8 hk8 hge p0 p1 p2 p3 p4 BX7 HR17 HR27 HB7
  have p0 : w8.cell? ⟨g5, 0, none⟩ = some (.int .i64 R.kind) := (blk_cell BX8.out 0).trans rfl
  have p1 : w8.cell? ⟨g5, 1, none⟩ = some (.slice B1 R.path.length d1) := (blk_cell BX8.out 1).trans rfl
  have p2 : w8.cell? ⟨g5, 2, none⟩ = some (.slice B2 R.dest.length d2) := (blk_cell BX8.out 2).trans rfl
  have p3 : w8.cell? ⟨g5, 3, none⟩ = some (.int .i64 R.num) := (blk_cell BX8.out 3).trans rfl
  have p4 : w8.cell? ⟨g5, 4, none⟩ = some (.string R.data) := (blk_cell BX8.out 4).trans rfl
  go_wp2_with fail
  refine calls_of_args (args' := #[.agg #[.int .i64 R.kind, .slice B1 (marks 1 R.path.length).length d1, .slice B2 (marks (1 + R.path.length) R.dest.length).length d2, .int .i64 R.num, .string R.data], .int .i64 1]) (by simp only [marks_len]) ?_
  refine (laws_heldCall.calls kh R.kind B1 d1 _ B2 d2 _ R.num R.data 1 _ _ HM1.out.2.2 (by rw [marks_len]; exact HM1.out.2.1) HM2.out.2.2 (by rw [marks_len]; exact HM2.out.2.1) HKH.out).mono ?_
  rintro e w9 ⟨rfl, hb9⟩
  have BX9 := Lib.hid (blk_below BX8.out hb9)
  have HB9 := Lib.hid (HB8.out.trans (hb9.mono HB8.out.size))
  have HN1 := Lib.hid (Kd.C_below HM1.out.2.2 hb9)
  have HN2 := Lib.hid (Kd.C_below HM2.out.2.2 hb9)
  clear hb9 p0 p1 p2 p3 p4 BX8 HB8
  have n0 : ¬ (1 + (R.path.length : Int) + (R.dest.length : Int) < 0) := by omega
  go_wp2_with fail
  refine (HI.out _ (hE.below (HB3.out.trans (HB9.out.mono HB3.out.size)))).mono ?_
  rintro e wA ⟨E1, f1, E2, f2, X2, rfl, hs1, hs2, hbA⟩
  have HE1 := Lib.hid (Kd.R_reads' hs1)
  have HE2 := Lib.hid (Kd.R_reads' hs2)
  have HBA := Lib.hid hbA
  clear hs1 hs2 hbA
  go_upto_region 16 with (((with_reducible refine gate_dst (N := 9) rfl ?_); refine box_event ?hg (N := 9) ?hd (cs := #[.int .i64 0, .slice none 0 0, .slice none 0 0, .int .i64 0, .string ⟨#[]⟩]) (t := 24) ?hr ?_; (case hd => rfl); (case hg => rfl); (case hr => first | (go_simp; done) | (go_simp; rfl)); intro g9 hgcc wB hboxc hbc; have HGCc := Lib.hid hgcc; clear hgcc; have zc0 : wB.cell? ⟨g9, 0, none⟩ = some (.int .i64 0) := (blk_cell hboxc 0).trans rfl; have yc0 := blk_frozen hboxc 0; have zc1 : wB.cell? ⟨g9, 1, none⟩ = some (.slice none 0 0) := (blk_cell hboxc 1).trans rfl; have yc1 := blk_frozen hboxc 1; have zc2 : wB.cell? ⟨g9, 2, none⟩ = some (.slice none 0 0) := (blk_cell hboxc 2).trans rfl; have yc2 := blk_frozen hboxc 2; have zc3 : wB.cell? ⟨g9, 3, none⟩ = some (.int .i64 0) := (blk_cell hboxc 3).trans rfl; have yc3 := blk_frozen hboxc 3; have zc4 : wB.cell? ⟨g9, 4, none⟩ = some (.string ⟨#[]⟩) := (blk_cell hboxc 4).trans rfl; have yc4 := blk_frozen hboxc 4))
  have ST := stored5 hboxc rfl (.int .i64 R.kind) (.slice E1 R.path.length f1) (.slice E2 R.dest.length f2) (.int .i64 R.num) (.string R.data)
  generalize hwC : (((((wB.setCell ⟨g9, 0, none⟩ (.int .i64 R.kind)).setCell ⟨g9, 1, none⟩ (.slice E1 R.path.length f1)).setCell ⟨g9, 2, none⟩ (.slice E2 R.dest.length f2)).setCell ⟨g9, 3, none⟩ (.int .i64 R.num)).setCell ⟨g9, 4, none⟩ (.string R.data)) = wC at ST ⊢
  have hbC : Below wA.heap.size wA wC := ST.keep wA (by rw [HGCc.out]; exact Nat.le_refl _) hbc
  have BXC := Lib.hid ST.box
  have h9C : Below w9.heap.size w9 wC := HBA.out.trans (hbC.mono HBA.out.size)
  have h3C : Below w3.heap.size w3 wC := HB9.out.trans (h9C.mono HB9.out.size)
  have HBC := Lib.hid h3C
  have BX5C := Lib.hid (blk_below BX9.out h9C)
  have BX3C := Lib.hid (blk_below BX3.out h3C)
  have HNC1 := Lib.hid (Kd.C_below HN1.out h9C)
  have HNC2 := Lib.hid (Kd.C_below HN2.out h9C)
  have HEC1 := Lib.hid (Kd.C_below HE1.out.2.2 hbC)
  have HEC2 := Lib.hid (Kd.C_below HE2.out.2.2 hbC)
  clear hwC ST hboxc hbc hbC h9C h3C zc0 zc1 zc2 zc3 zc4 yc0 yc1 yc2 yc3 yc4 BX9
  have p0 : wC.cell? ⟨g9, 0, none⟩ = some (.int .i64 R.kind) := (blk_cell BXC.out 0).trans rfl
  have p1 : wC.cell? ⟨g9, 1, none⟩ = some (.slice E1 R.path.length f1) := (blk_cell BXC.out 1).trans rfl
  have p2 : wC.cell? ⟨g9, 2, none⟩ = some (.slice E2 R.dest.length f2) := (blk_cell BXC.out 2).trans rfl
  have p3 : wC.cell? ⟨g9, 3, none⟩ = some (.int .i64 R.num) := (blk_cell BXC.out 3).trans rfl
  have p4 : wC.cell? ⟨g9, 4, none⟩ = some (.string R.data) := (blk_cell BXC.out 4).trans rfl
  have q0 : wC.cell? ⟨g3, 0, none⟩ = some (.int .i64 R.kind) := (blk_cell BX3C.out 0).trans rfl
  have q1 : wC.cell? ⟨g3, 1, none⟩ = some (.slice A1 R.path.length c1) := (blk_cell BX3C.out 1).trans rfl
  have q2 : wC.cell? ⟨g3, 2, none⟩ = some (.slice A2 R.dest.length c2) := (blk_cell BX3C.out 2).trans rfl
  have q3 : wC.cell? ⟨g3, 3, none⟩ = some (.int .i64 R.num) := (blk_cell BX3C.out 3).trans rfl
  have q4 : wC.cell? ⟨g3, 4, none⟩ = some (.string R.data) := (blk_cell BX3C.out 4).trans rfl
  go_wp2_with fail
  refine (laws_eqCall.calls ke R.kind E1 f1 R.path E2 f2 R.dest R.num R.data R.kind A1 c1 R.path A2 c2 R.dest R.num R.data true _ HEC1.out HE1.out.2.1 HEC2.out HE2.out.2.1 (Kd.C_below HCS1.out HBC.out) HL1.out (Kd.C_below HCS2.out HBC.out) HL2.out HKE.out).mono ?_
  rintro e wD ⟨rfl, hbD⟩
  have BXD := Lib.hid (blk_below BX5C.out hbD)
  have HBD := Lib.hid (HBC.out.trans (hbD.mono HBC.out.size))
  have HND1 := Lib.hid (Kd.C_below HNC1.out hbD)
  have HND2 := Lib.hid (Kd.C_below HNC2.out hbD)
  clear hbD p0 p1 p2 p3 p4 q0 q1 q2 q3 q4
  have p0 : wD.cell? ⟨g5, 0, none⟩ = some (.int .i64 R.kind) := (blk_cell BXD.out 0).trans rfl
  have p1 : wD.cell? ⟨g5, 1, none⟩ = some (.slice B1 R.path.length d1) := (blk_cell BXD.out 1).trans rfl
  have p2 : wD.cell? ⟨g5, 2, none⟩ = some (.slice B2 R.dest.length d2) := (blk_cell BXD.out 2).trans rfl
  have p3 : wD.cell? ⟨g5, 3, none⟩ = some (.int .i64 R.num) := (blk_cell BXD.out 3).trans rfl
  have p4 : wD.cell? ⟨g5, 4, none⟩ = some (.string R.data) := (blk_cell BXD.out 4).trans rfl
  go_wp2_with fail
  refine calls_of_args (args' := #[.agg #[.int .i64 R.kind, .slice B1 (marks 1 R.path.length).length d1, .slice B2 (marks (1 + R.path.length) R.dest.length).length d2, .int .i64 R.num, .string R.data], .int .i64 1]) (by simp only [marks_len]) ?_
  refine (laws_heldCall.calls kh R.kind B1 d1 _ B2 d2 _ R.num R.data 1 _ _ HND1.out (by rw [marks_len]; exact HM1.out.2.1) HND2.out (by rw [marks_len]; exact HM2.out.2.1) HKH.out).mono ?_
  rintro e wE ⟨rfl, hbE⟩
  have HBE := Lib.hid (show Below w.heap.size w wE from HB3.out.trans ((HBD.out.trans (hbE.mono HBD.out.size)).mono HB3.out.size))
  clear hbE
  go_wp2
  go_ret
  exact ⟨rfl, HBE.out⟩
end Go.Proofs.YtojlffnlenldiaaDoor.F
