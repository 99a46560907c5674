import Derived.Test.YtojlffnlenldiaaDoorV3
import Derived.Deep.RegionHeld3
namespace Go.Proofs.YtojlffnlenldiaaDoor.F
open Go.RowKit Go.Proofs.YtojlffnlenldiaaDoorW.PrintWords Go.Proofs.YtojlffnlenldiaaDoorW.PrintLast Go.Proofs.YtojlffnlenldiaaDoorW.PrintMore
set_option linter.unusedVariables false
set_option linter.unusedSimpArgs false

def wordOf (k : Int) : List UInt8 := WORDS.getD k.toNat []
def tailT (c : Call) : List UInt8 :=
  if c.kind = 4 then [] else if c.kind = 5 then 32 :: pathT c.dest else if c.kind = 2 then 32 :: (Lib.decDigits c.num.toNat ++ 32 :: hexL (bl c.data)) else 32 :: Lib.decDigits c.num.toNat
def callT (c : Call) : List UInt8 :=
  if isCallB c = true ∧ ¬ (c.kind = 2 ∧ 24 < c.data.size) then wordOf c.kind ++ 32 :: (pathT c.path ++ tailT c) else []
theorem pathF_le (p : List ByteArray) (n : Nat) (h : ∀ x ∈ p, x.size ≤ n) : (pathF p).length ≤ p.length * (n + 1) := by
  induction p with
  | nil => simp [pathF]
  | cons x r ih =>
    have h1 := ih (fun y hy => h y (List.mem_cons_of_mem _ hy))
    have h2 := h x List.mem_cons_self
    simp only [pathF, List.flatMap_cons, List.length_append, List.length_cons, bl_len] at h1 ⊢
    rw [Nat.succ_mul]
    omega
theorem dd_small (n : Nat) (h : n < 100) : (Lib.decDigits n).length ≤ 2 := by
  rw [Lib.decDigits]
  by_cases h1 : n < 10
  · rw [dif_pos h1]; simp
  · rw [dif_neg h1, Lib.decDigits, dif_pos (by omega)]; simp
theorem hexL_len (l : List UInt8) : (hexL l).length ≤ 2 * l.length + 1 := by
  unfold hexL
  split
  · simp
  · rw [Txt.hex_len]; omega
theorem isPath_small (k : Nat) (p : List ByteArray) (h : isPath k p = true) : (pathF p).length ≤ 24 ∧ k ≤ p.length ∧ p.length ≤ 4 ∧ ∀ x ∈ p, isName (bl x) = true := by
  unfold isPath at h
  simp only [Bool.and_eq_true, decide_eq_true_eq, List.all_eq_true] at h
  have hs : ∀ x ∈ p, x.size ≤ 5 := by
    intro x hx
    have := h.1 x hx
    unfold isName at this
    simp only [Bool.and_eq_true, decide_eq_true_eq, bl_len] at this
    exact this.2.2
  have := pathF_le p 5 hs
  exact ⟨by omega, h.2.1, h.2.2, h.1⟩
theorem pathT_le (k : Nat) (p : List ByteArray) (h : isPath k p = true) : (pathT p).length ≤ 24 := by
  unfold pathT
  split
  · simp
  · exact (isPath_small k p h).1

set_option maxHeartbeats 1000000 in
theorem CallText_1 (A1 A2 : Option Addr) (c1 c2 : Nat) (c : Call) (w : World) (hE : Env w) (h1 : Kd.C Kd.string w A1 c.path.length c.path) (hc1 : c.path.length ≤ c1) (h2 : Kd.C Kd.string w A2 c.dest.length c.dest) (hc2 : c.dest.length ≤ c2)
    (hok : isCallB c = true) (hk : c.kind = 1) (hn : 0 ≤ c.num ∧ c.num < 100) (hs1 : Small c.path) (hs2 : Small c.dest) :
    Calls Tryd.prog 20 #[.agg #[.int .i64 c.kind, .slice A1 c.path.length c1, .slice A2 c.dest.length c2, .int .i64 c.num, .string c.data]] w fun e w' => e = .returned (.string (bs (callT c))) ∧ Below w.heap.size w w' := by
  obtain ⟨_, _, _, ⟨b, o, cw, hg, h7, hw⟩⟩ := hE
  obtain ⟨kq, hkq⟩ := (isCall_ev c hs1 hs2).rounds
  rw [hok] at hkq
  obtain ⟨kind, path, dest, num, data⟩ := c
  dsimp only at *
  subst hk
  obtain ⟨n, rfl⟩ := Int.eq_ofNat_of_zero_le hn.1
  have hfin := Lib.hid (show callT ⟨1, path, dest, n, data⟩ = [109, 107, 100, 105, 114] ++ 32 :: (pathT path ++ 32 :: Lib.decDigits n) by simp [callT, hok, tailT, wordOf, WORDS])
  have hpath : isPath 1 path = true := by
    simp only [isCallB] at hok
    simp at hok
    exact hok.1
  have hzN : (Lib.decDigits n).length ≤ 2 := dd_small n (by omega)
  have hps := isPath_small 1 path hpath
  have hwk := hw 1 _ rfl
  have hbw := World.block_lt_of_cell? w _ hg
  have hbb := World.block_lt_of_cell? w _ hwk
  have HQ := Lib.hid hkq
  have H1 := Lib.hid h1
  have H2 := Lib.hid h2
  have HC1 := Lib.hid hc1
  have HC2 := Lib.hid hc2
  have HP1 := Lib.hid hps.1
  have HPT := Lib.hid (pathT_le 1 path hpath)
  have HP3 := Lib.hid hps.2.2.1
  clear hkq h1 h2 hc1 hc2 hps hok hw hs1 hs2 hpath
  go_enter Tryd.func20, Tryd.ntmps20
  go_wp2_with fail
  refine (impl_Call_isCall.calls kq 1 A1 c1 path A2 c2 dest n data true _ ?_ HC1.out ?_ HC2.out HQ.out).mono ?_
  · exact Kd.C_below H1.out ((Below.refl _ _).alloc (Nat.le_refl _) _)
  · exact Kd.C_below H2.out ((Below.refl _ _).alloc (Nat.le_refl _) _)
  rintro e w1 ⟨rfl, hb1⟩
  have hbw1 : Below w.heap.size w w1 := ((Below.refl _ _).alloc (Nat.le_refl _) _).trans (hb1.mono (by simp))
  have q0 : w1.cell? ⟨w.heap.size, 0, none⟩ = some (.int .i64 1) := cell_of hb1 (by go_simp)
  have q1 : w1.cell? ⟨w.heap.size, 1, none⟩ = some (.slice A1 path.length c1) := cell_of hb1 (by go_simp)
  have q2 : w1.cell? ⟨w.heap.size, 2, none⟩ = some (.slice A2 dest.length c2) := cell_of hb1 (by go_simp)
  have q3 : w1.cell? ⟨w.heap.size, 3, none⟩ = some (.int .i64 n) := cell_of hb1 (by go_simp)
  have q5 : w1.cell? ⟨w.heap.size, 4, none⟩ = some (.string data) := cell_of hb1 (by go_simp)
  have qg : w1.cell? ⟨0, 0, none⟩ = some (.slice (some ⟨b, o, none⟩) 7 cw) := cell_of hbw1 hg
  have q4 : w1.cell? ⟨b, o + 1, none⟩ = some (.string (bs [109, 107, 100, 105, 114])) := cell_of hbw1 hwk
  have HR := Lib.hid (show Kd.C Kd.string w1 A1 path.length path from Kd.C_below H1.out hbw1)
  have HR2 := Lib.hid (show Kd.C Kd.string w1 A2 dest.length dest from Kd.C_below H2.out hbw1)
  have HB1 := Lib.hid hbw1
  have hzP : (bs (pathT path)).size ≤ 24 := by rw [bs_size]; exact HPT.out
  obtain ⟨W, hW⟩ : ∃ W, W = bs [109, 107, 100, 105, 114] := ⟨_, rfl⟩
  have hzW : W.size ≤ 10 := by rw [hW, bs_size]; decide
  rw [← hW] at q4
  have HW := Lib.hid hW
  have hz1 : ¬ 9223372036854775807 < W.size + 1 := by omega
  have hz2 : ¬ 9223372036854775807 < W.size + 1 + (bs (pathT path)).size := by omega
  clear hb1 hbw1 hg hwk H1 H2 hW
  go_wp2_with fail
  go_region_held3 (fun w' => w'.cell? ⟨w.heap.size, 0, none⟩ = some (.int .i64 1) ∧ w'.cell? ⟨w.heap.size, 1, none⟩ = some (.slice A1 path.length c1) ∧ w'.cell? ⟨0, 0, none⟩ = some (.slice (some ⟨b, o, none⟩) 7 cw) ∧ w'.cell? ⟨b, o + 1, none⟩ = some (.string W))
    (first
      | go_keep
      | exact ⟨cell_of hb2 q0, cell_of hb2 q1, cell_of hb2 qg, cell_of hb2 q4⟩)
    ((go_at_call 36; refine (pathText_calls A1 c1 path _ ?_ HC1.out (Nat.le_trans HP1.out (by omega)) (Nat.le_trans HP3.out (by omega))).mono ?_; · exact Kd.C_drew HR.out
      rintro e w2 ⟨rfl, hb2⟩))
  have r0 : w2.cell? ⟨w.heap.size, 0, none⟩ = some (.int .i64 1) := cell_of hb2 q0
  have r2 : w2.cell? ⟨w.heap.size, 2, none⟩ = some (.slice A2 dest.length c2) := cell_of hb2 q2
  have r3 : w2.cell? ⟨w.heap.size, 3, none⟩ = some (.int .i64 n) := cell_of hb2 q3
  have r5 : w2.cell? ⟨w.heap.size, 4, none⟩ = some (.string data) := cell_of hb2 q5
  have HS2 := Lib.hid (show Kd.C Kd.string w2 A2 dest.length dest from Kd.C_below (Kd.C_drew HR2.out) hb2)
  have HB2 := Lib.hid (show Below w.heap.size w w2 from HB1.out.trans ((below_then (pw_below_drewN (Below.refl _ _) 1) (by simp) hb2).mono HB1.out.size))
  clear hb2 q0 q1 q2 q3 q5 qg q4 hz1 hz2
  go_wp2_with fail
  refine (Tryd.strconv_Itoa_small n (by omega) _).mono ?_
  rintro e w3 ⟨rfl, rfl⟩
  go_wp2
  go_ret
  refine ⟨congrArg (fun x => Ending.returned (Value.string x)) ?_, HB2.out⟩
  rw [hfin.out, HW.out]
  show bs _ ++ bs [32] ++ bs _ ++ bs [32] ++ bs _ = _
  simp only [bs_append, List.append_assoc]
  rfl
set_option maxHeartbeats 1000000 in
theorem CallText_2ok (A1 A2 : Option Addr) (c1 c2 : Nat) (c : Call) (w : World) (hE : Env w) (h1 : Kd.C Kd.string w A1 c.path.length c.path) (hc1 : c.path.length ≤ c1) (h2 : Kd.C Kd.string w A2 c.dest.length c.dest) (hc2 : c.dest.length ≤ c2)
    (hok : isCallB c = true) (hk : c.kind = 2) (hn : 0 ≤ c.num ∧ c.num < 100) (hs1 : Small c.path) (hs2 : Small c.dest) (hd : c.data.size ≤ 24) :
    Calls Tryd.prog 20 #[.agg #[.int .i64 c.kind, .slice A1 c.path.length c1, .slice A2 c.dest.length c2, .int .i64 c.num, .string c.data]] w fun e w' => e = .returned (.string (bs (callT c))) ∧ Below w.heap.size w w' := by
  obtain ⟨_, _, _, ⟨b, o, cw, hg, h7, hw⟩⟩ := hE
  obtain ⟨kq, hkq⟩ := (isCall_ev c hs1 hs2).rounds
  rw [hok] at hkq
  obtain ⟨kind, path, dest, num, data⟩ := c
  dsimp only at *
  subst hk
  obtain ⟨n, rfl⟩ := Int.eq_ofNat_of_zero_le hn.1
  have hfin := Lib.hid (show callT ⟨2, path, dest, n, data⟩ = [119, 114, 105, 116, 101] ++ 32 :: (pathT path ++ 32 :: (Lib.decDigits n ++ 32 :: hexL (bl data))) by simp [callT, hok, tailT, wordOf, WORDS, show ¬ 24 < data.size by omega])
  have hpath : isPath 1 path = true := by
    simp only [isCallB] at hok
    simp at hok
    exact hok.1
  have hzN : (Lib.decDigits n).length ≤ 2 := dd_small n (by omega)
  have hzX : (bs (hexL (bl data))).size ≤ 49 := by
    rw [bs_size]
    have := hexL_len (bl data)
    rw [bl_len] at this
    omega
  have hdI : (data.size : Int) ≤ 24 := by omega
  have hps := isPath_small 1 path hpath
  have hwk := hw 2 _ rfl
  have hbw := World.block_lt_of_cell? w _ hg
  have hbb := World.block_lt_of_cell? w _ hwk
  have HQ := Lib.hid hkq
  have H1 := Lib.hid h1
  have H2 := Lib.hid h2
  have HC1 := Lib.hid hc1
  have HC2 := Lib.hid hc2
  have HP1 := Lib.hid hps.1
  have HPT := Lib.hid (pathT_le 1 path hpath)
  have HP3 := Lib.hid hps.2.2.1
  clear hkq h1 h2 hc1 hc2 hps hok hw hs1 hs2 hpath hd
  go_enter Tryd.func20, Tryd.ntmps20
  go_wp2_with fail
  refine (impl_Call_isCall.calls kq 2 A1 c1 path A2 c2 dest n data true _ ?_ HC1.out ?_ HC2.out HQ.out).mono ?_
  · exact Kd.C_below H1.out ((Below.refl _ _).alloc (Nat.le_refl _) _)
  · exact Kd.C_below H2.out ((Below.refl _ _).alloc (Nat.le_refl _) _)
  rintro e w1 ⟨rfl, hb1⟩
  have hbw1 : Below w.heap.size w w1 := ((Below.refl _ _).alloc (Nat.le_refl _) _).trans (hb1.mono (by simp))
  have q0 : w1.cell? ⟨w.heap.size, 0, none⟩ = some (.int .i64 2) := cell_of hb1 (by go_simp)
  have q1 : w1.cell? ⟨w.heap.size, 1, none⟩ = some (.slice A1 path.length c1) := cell_of hb1 (by go_simp)
  have q2 : w1.cell? ⟨w.heap.size, 2, none⟩ = some (.slice A2 dest.length c2) := cell_of hb1 (by go_simp)
  have q3 : w1.cell? ⟨w.heap.size, 3, none⟩ = some (.int .i64 n) := cell_of hb1 (by go_simp)
  have q5 : w1.cell? ⟨w.heap.size, 4, none⟩ = some (.string data) := cell_of hb1 (by go_simp)
  have qg : w1.cell? ⟨0, 0, none⟩ = some (.slice (some ⟨b, o, none⟩) 7 cw) := cell_of hbw1 hg
  have q4 : w1.cell? ⟨b, o + 2, none⟩ = some (.string (bs [119, 114, 105, 116, 101])) := cell_of hbw1 hwk
  have HR := Lib.hid (show Kd.C Kd.string w1 A1 path.length path from Kd.C_below H1.out hbw1)
  have HR2 := Lib.hid (show Kd.C Kd.string w1 A2 dest.length dest from Kd.C_below H2.out hbw1)
  have HB1 := Lib.hid hbw1
  have hzP : (bs (pathT path)).size ≤ 24 := by rw [bs_size]; exact HPT.out
  obtain ⟨W, hW⟩ : ∃ W, W = bs [119, 114, 105, 116, 101] := ⟨_, rfl⟩
  have hzW : W.size ≤ 10 := by rw [hW, bs_size]; decide
  rw [← hW] at q4
  have HW := Lib.hid hW
  have hz1 : ¬ 9223372036854775807 < W.size + 1 := by omega
  have hz2 : ¬ 9223372036854775807 < W.size + 1 + (bs (pathT path)).size := by omega
  clear hb1 hbw1 hg hwk H1 H2 hW
  go_wp2_with fail
  go_region_held3 (fun w' => w'.cell? ⟨w.heap.size, 0, none⟩ = some (.int .i64 2) ∧ w'.cell? ⟨w.heap.size, 1, none⟩ = some (.slice A1 path.length c1) ∧ w'.cell? ⟨0, 0, none⟩ = some (.slice (some ⟨b, o, none⟩) 7 cw) ∧ w'.cell? ⟨b, o + 2, none⟩ = some (.string W))
    (first
      | go_keep
      | exact ⟨cell_of hb2 q0, cell_of hb2 q1, cell_of hb2 qg, cell_of hb2 q4⟩)
    ((go_at_call 36; refine (pathText_calls A1 c1 path _ ?_ HC1.out (Nat.le_trans HP1.out (by omega)) (Nat.le_trans HP3.out (by omega))).mono ?_; · exact Kd.C_drew HR.out
      rintro e w2 ⟨rfl, hb2⟩))
  have r0 : w2.cell? ⟨w.heap.size, 0, none⟩ = some (.int .i64 2) := cell_of hb2 q0
  have r2 : w2.cell? ⟨w.heap.size, 2, none⟩ = some (.slice A2 dest.length c2) := cell_of hb2 q2
  have r3 : w2.cell? ⟨w.heap.size, 3, none⟩ = some (.int .i64 n) := cell_of hb2 q3
  have r5 : w2.cell? ⟨w.heap.size, 4, none⟩ = some (.string data) := cell_of hb2 q5
  have HS2 := Lib.hid (show Kd.C Kd.string w2 A2 dest.length dest from Kd.C_below (Kd.C_drew HR2.out) hb2)
  have HB2 := Lib.hid (show Below w.heap.size w w2 from HB1.out.trans ((below_then (pw_below_drewN (Below.refl _ _) 1) (by simp) hb2).mono HB1.out.size))
  clear hb2 q0 q1 q2 q3 q5 qg q4 hz1 hz2
  go_wp2_with fail
  refine (Tryd.strconv_Itoa_small n (by omega) _).mono ?_
  rintro e w3 ⟨rfl, rfl⟩
  go_wp2_with fail
  refine (dataText_calls data _ (by omega)).mono ?_
  rintro e w4 ⟨rfl, hb4⟩
  have HB4 := Lib.hid (show Below w.heap.size w w4 from HB2.out.trans (hb4.mono HB2.out.size))
  clear hb4
  go_wp2
  go_ret
  refine ⟨congrArg (fun x => Ending.returned (Value.string x)) ?_, HB4.out⟩
  rw [hfin.out, HW.out]
  show bs _ ++ bs [32] ++ bs _ ++ bs [32] ++ bs _ ++ bs [32] ++ bs _ = _
  simp only [bs_append, List.append_assoc]
  rfl
set_option maxHeartbeats 1000000 in
theorem CallText_2big (A1 A2 : Option Addr) (c1 c2 : Nat) (c : Call) (w : World) (hE : Env w) (h1 : Kd.C Kd.string w A1 c.path.length c.path) (hc1 : c.path.length ≤ c1) (h2 : Kd.C Kd.string w A2 c.dest.length c.dest) (hc2 : c.dest.length ≤ c2)
    (hok : isCallB c = true) (hk : c.kind = 2) (hn : 0 ≤ c.num ∧ c.num < 100) (hs1 : Small c.path) (hs2 : Small c.dest) (hd : 24 < c.data.size) :
    Calls Tryd.prog 20 #[.agg #[.int .i64 c.kind, .slice A1 c.path.length c1, .slice A2 c.dest.length c2, .int .i64 c.num, .string c.data]] w fun e w' => e = .returned (.string (bs (callT c))) ∧ Below w.heap.size w w' := by
  obtain ⟨_, _, _, ⟨b, o, cw, hg, h7, hw⟩⟩ := hE
  obtain ⟨kq, hkq⟩ := (isCall_ev c hs1 hs2).rounds
  rw [hok] at hkq
  obtain ⟨kind, path, dest, num, data⟩ := c
  dsimp only at *
  subst hk
  obtain ⟨n, rfl⟩ := Int.eq_ofNat_of_zero_le hn.1
  have hfin := Lib.hid (show callT ⟨2, path, dest, n, data⟩ = [] by simp [callT, hd])
  have hpath : isPath 1 path = true := by
    simp only [isCallB] at hok
    simp at hok
    exact hok.1
  have hzN : (Lib.decDigits n).length ≤ 2 := dd_small n (by omega)
  have hdI : (24 : Int) < (data.size : Int) := by omega
  have hps := isPath_small 1 path hpath
  have hwk := hw 2 _ rfl
  have hbw := World.block_lt_of_cell? w _ hg
  have hbb := World.block_lt_of_cell? w _ hwk
  have HQ := Lib.hid hkq
  have H1 := Lib.hid h1
  have H2 := Lib.hid h2
  have HC1 := Lib.hid hc1
  have HC2 := Lib.hid hc2
  have HP1 := Lib.hid hps.1
  have HPT := Lib.hid (pathT_le 1 path hpath)
  have HP3 := Lib.hid hps.2.2.1
  clear hkq h1 h2 hc1 hc2 hps hok hw hs1 hs2 hpath hd
  go_enter Tryd.func20, Tryd.ntmps20
  go_wp2_with fail
  refine (impl_Call_isCall.calls kq 2 A1 c1 path A2 c2 dest n data true _ ?_ HC1.out ?_ HC2.out HQ.out).mono ?_
  · exact Kd.C_below H1.out ((Below.refl _ _).alloc (Nat.le_refl _) _)
  · exact Kd.C_below H2.out ((Below.refl _ _).alloc (Nat.le_refl _) _)
  rintro e w1 ⟨rfl, hb1⟩
  have hbw1 : Below w.heap.size w w1 := ((Below.refl _ _).alloc (Nat.le_refl _) _).trans (hb1.mono (by simp))
  have q0 : w1.cell? ⟨w.heap.size, 0, none⟩ = some (.int .i64 2) := cell_of hb1 (by go_simp)
  have q1 : w1.cell? ⟨w.heap.size, 1, none⟩ = some (.slice A1 path.length c1) := cell_of hb1 (by go_simp)
  have q2 : w1.cell? ⟨w.heap.size, 2, none⟩ = some (.slice A2 dest.length c2) := cell_of hb1 (by go_simp)
  have q3 : w1.cell? ⟨w.heap.size, 3, none⟩ = some (.int .i64 n) := cell_of hb1 (by go_simp)
  have q5 : w1.cell? ⟨w.heap.size, 4, none⟩ = some (.string data) := cell_of hb1 (by go_simp)
  have qg : w1.cell? ⟨0, 0, none⟩ = some (.slice (some ⟨b, o, none⟩) 7 cw) := cell_of hbw1 hg
  have q4 : w1.cell? ⟨b, o + 2, none⟩ = some (.string (bs [119, 114, 105, 116, 101])) := cell_of hbw1 hwk
  have HR := Lib.hid (show Kd.C Kd.string w1 A1 path.length path from Kd.C_below H1.out hbw1)
  have HR2 := Lib.hid (show Kd.C Kd.string w1 A2 dest.length dest from Kd.C_below H2.out hbw1)
  have HB1 := Lib.hid hbw1
  have hzP : (bs (pathT path)).size ≤ 24 := by rw [bs_size]; exact HPT.out
  obtain ⟨W, hW⟩ : ∃ W, W = bs [119, 114, 105, 116, 101] := ⟨_, rfl⟩
  have hzW : W.size ≤ 10 := by rw [hW, bs_size]; decide
  rw [← hW] at q4
  have HW := Lib.hid hW
  have hz1 : ¬ 9223372036854775807 < W.size + 1 := by omega
  have hz2 : ¬ 9223372036854775807 < W.size + 1 + (bs (pathT path)).size := by omega
  clear hb1 hbw1 hg hwk H1 H2 hW
  go_wp2_with fail
  go_region_held3 (fun w' => w'.cell? ⟨w.heap.size, 0, none⟩ = some (.int .i64 2) ∧ w'.cell? ⟨w.heap.size, 1, none⟩ = some (.slice A1 path.length c1) ∧ w'.cell? ⟨0, 0, none⟩ = some (.slice (some ⟨b, o, none⟩) 7 cw) ∧ w'.cell? ⟨b, o + 2, none⟩ = some (.string W))
    (first
      | go_keep
      | exact ⟨cell_of hb2 q0, cell_of hb2 q1, cell_of hb2 qg, cell_of hb2 q4⟩)
    ((go_at_call 36; refine (pathText_calls A1 c1 path _ ?_ HC1.out (Nat.le_trans HP1.out (by omega)) (Nat.le_trans HP3.out (by omega))).mono ?_; · exact Kd.C_drew HR.out
      rintro e w2 ⟨rfl, hb2⟩))
  have r0 : w2.cell? ⟨w.heap.size, 0, none⟩ = some (.int .i64 2) := cell_of hb2 q0
  have r2 : w2.cell? ⟨w.heap.size, 2, none⟩ = some (.slice A2 dest.length c2) := cell_of hb2 q2
  have r3 : w2.cell? ⟨w.heap.size, 3, none⟩ = some (.int .i64 n) := cell_of hb2 q3
  have r5 : w2.cell? ⟨w.heap.size, 4, none⟩ = some (.string data) := cell_of hb2 q5
  have HS2 := Lib.hid (show Kd.C Kd.string w2 A2 dest.length dest from Kd.C_below (Kd.C_drew HR2.out) hb2)
  have HB2 := Lib.hid (show Below w.heap.size w w2 from HB1.out.trans ((below_then (pw_below_drewN (Below.refl _ _) 1) (by simp) hb2).mono HB1.out.size))
  clear hb2 q0 q1 q2 q3 q5 qg q4 hz1 hz2
  go_wp2_with fail
  refine (Tryd.strconv_Itoa_small n (by omega) _).mono ?_
  rintro e w3 ⟨rfl, rfl⟩
  go_wp2
  go_ret
  exact ⟨by rw [hfin.out]; rfl, HB2.out⟩
set_option maxHeartbeats 1000000 in
theorem CallText_3 (A1 A2 : Option Addr) (c1 c2 : Nat) (c : Call) (w : World) (hE : Env w) (h1 : Kd.C Kd.string w A1 c.path.length c.path) (hc1 : c.path.length ≤ c1) (h2 : Kd.C Kd.string w A2 c.dest.length c.dest) (hc2 : c.dest.length ≤ c2)
    (hok : isCallB c = true) (hk : c.kind = 3) (hn : 0 ≤ c.num ∧ c.num < 100) (hs1 : Small c.path) (hs2 : Small c.dest) :
    Calls Tryd.prog 20 #[.agg #[.int .i64 c.kind, .slice A1 c.path.length c1, .slice A2 c.dest.length c2, .int .i64 c.num, .string c.data]] w fun e w' => e = .returned (.string (bs (callT c))) ∧ Below w.heap.size w w' := by
  obtain ⟨_, _, _, ⟨b, o, cw, hg, h7, hw⟩⟩ := hE
  obtain ⟨kq, hkq⟩ := (isCall_ev c hs1 hs2).rounds
  rw [hok] at hkq
  obtain ⟨kind, path, dest, num, data⟩ := c
  dsimp only at *
  subst hk
  obtain ⟨n, rfl⟩ := Int.eq_ofNat_of_zero_le hn.1
  have hfin := Lib.hid (show callT ⟨3, path, dest, n, data⟩ = [116, 114, 117, 110, 99, 97, 116, 101] ++ 32 :: (pathT path ++ 32 :: Lib.decDigits n) by simp [callT, hok, tailT, wordOf, WORDS])
  have hpath : isPath 1 path = true := by
    simp only [isCallB] at hok
    simp at hok
    exact hok.1
  have hzN : (Lib.decDigits n).length ≤ 2 := dd_small n (by omega)
  have hps := isPath_small 1 path hpath
  have hwk := hw 3 _ rfl
  have hbw := World.block_lt_of_cell? w _ hg
  have hbb := World.block_lt_of_cell? w _ hwk
  have HQ := Lib.hid hkq
  have H1 := Lib.hid h1
  have H2 := Lib.hid h2
  have HC1 := Lib.hid hc1
  have HC2 := Lib.hid hc2
  have HP1 := Lib.hid hps.1
  have HPT := Lib.hid (pathT_le 1 path hpath)
  have HP3 := Lib.hid hps.2.2.1
  clear hkq h1 h2 hc1 hc2 hps hok hw hs1 hs2 hpath
  go_enter Tryd.func20, Tryd.ntmps20
  go_wp2_with fail
  refine (impl_Call_isCall.calls kq 3 A1 c1 path A2 c2 dest n data true _ ?_ HC1.out ?_ HC2.out HQ.out).mono ?_
  · exact Kd.C_below H1.out ((Below.refl _ _).alloc (Nat.le_refl _) _)
  · exact Kd.C_below H2.out ((Below.refl _ _).alloc (Nat.le_refl _) _)
  rintro e w1 ⟨rfl, hb1⟩
  have hbw1 : Below w.heap.size w w1 := ((Below.refl _ _).alloc (Nat.le_refl _) _).trans (hb1.mono (by simp))
  have q0 : w1.cell? ⟨w.heap.size, 0, none⟩ = some (.int .i64 3) := cell_of hb1 (by go_simp)
  have q1 : w1.cell? ⟨w.heap.size, 1, none⟩ = some (.slice A1 path.length c1) := cell_of hb1 (by go_simp)
  have q2 : w1.cell? ⟨w.heap.size, 2, none⟩ = some (.slice A2 dest.length c2) := cell_of hb1 (by go_simp)
  have q3 : w1.cell? ⟨w.heap.size, 3, none⟩ = some (.int .i64 n) := cell_of hb1 (by go_simp)
  have q5 : w1.cell? ⟨w.heap.size, 4, none⟩ = some (.string data) := cell_of hb1 (by go_simp)
  have qg : w1.cell? ⟨0, 0, none⟩ = some (.slice (some ⟨b, o, none⟩) 7 cw) := cell_of hbw1 hg
  have q4 : w1.cell? ⟨b, o + 3, none⟩ = some (.string (bs [116, 114, 117, 110, 99, 97, 116, 101])) := cell_of hbw1 hwk
  have HR := Lib.hid (show Kd.C Kd.string w1 A1 path.length path from Kd.C_below H1.out hbw1)
  have HR2 := Lib.hid (show Kd.C Kd.string w1 A2 dest.length dest from Kd.C_below H2.out hbw1)
  have HB1 := Lib.hid hbw1
  have hzP : (bs (pathT path)).size ≤ 24 := by rw [bs_size]; exact HPT.out
  obtain ⟨W, hW⟩ : ∃ W, W = bs [116, 114, 117, 110, 99, 97, 116, 101] := ⟨_, rfl⟩
  have hzW : W.size ≤ 10 := by rw [hW, bs_size]; decide
  rw [← hW] at q4
  have HW := Lib.hid hW
  have hz1 : ¬ 9223372036854775807 < W.size + 1 := by omega
  have hz2 : ¬ 9223372036854775807 < W.size + 1 + (bs (pathT path)).size := by omega
  clear hb1 hbw1 hg hwk H1 H2 hW
  go_wp2_with fail
  go_region_held3 (fun w' => w'.cell? ⟨w.heap.size, 0, none⟩ = some (.int .i64 3) ∧ w'.cell? ⟨w.heap.size, 1, none⟩ = some (.slice A1 path.length c1) ∧ w'.cell? ⟨0, 0, none⟩ = some (.slice (some ⟨b, o, none⟩) 7 cw) ∧ w'.cell? ⟨b, o + 3, none⟩ = some (.string W))
    (first
      | go_keep
      | exact ⟨cell_of hb2 q0, cell_of hb2 q1, cell_of hb2 qg, cell_of hb2 q4⟩)
    ((go_at_call 36; refine (pathText_calls A1 c1 path _ ?_ HC1.out (Nat.le_trans HP1.out (by omega)) (Nat.le_trans HP3.out (by omega))).mono ?_; · exact Kd.C_drew HR.out
      rintro e w2 ⟨rfl, hb2⟩))
  have r0 : w2.cell? ⟨w.heap.size, 0, none⟩ = some (.int .i64 3) := cell_of hb2 q0
  have r2 : w2.cell? ⟨w.heap.size, 2, none⟩ = some (.slice A2 dest.length c2) := cell_of hb2 q2
  have r3 : w2.cell? ⟨w.heap.size, 3, none⟩ = some (.int .i64 n) := cell_of hb2 q3
  have r5 : w2.cell? ⟨w.heap.size, 4, none⟩ = some (.string data) := cell_of hb2 q5
  have HS2 := Lib.hid (show Kd.C Kd.string w2 A2 dest.length dest from Kd.C_below (Kd.C_drew HR2.out) hb2)
  have HB2 := Lib.hid (show Below w.heap.size w w2 from HB1.out.trans ((below_then (pw_below_drewN (Below.refl _ _) 1) (by simp) hb2).mono HB1.out.size))
  clear hb2 q0 q1 q2 q3 q5 qg q4 hz1 hz2
  go_wp2_with fail
  refine (Tryd.strconv_Itoa_small n (by omega) _).mono ?_
  rintro e w3 ⟨rfl, rfl⟩
  go_wp2
  go_ret
  refine ⟨congrArg (fun x => Ending.returned (Value.string x)) ?_, HB2.out⟩
  rw [hfin.out, HW.out]
  show bs _ ++ bs [32] ++ bs _ ++ bs [32] ++ bs _ = _
  simp only [bs_append, List.append_assoc]
  rfl
set_option maxHeartbeats 1000000 in
theorem CallText_4 (A1 A2 : Option Addr) (c1 c2 : Nat) (c : Call) (w : World) (hE : Env w) (h1 : Kd.C Kd.string w A1 c.path.length c.path) (hc1 : c.path.length ≤ c1) (h2 : Kd.C Kd.string w A2 c.dest.length c.dest) (hc2 : c.dest.length ≤ c2)
    (hok : isCallB c = true) (hk : c.kind = 4) (hn : 0 ≤ c.num ∧ c.num < 100) (hs1 : Small c.path) (hs2 : Small c.dest) :
    Calls Tryd.prog 20 #[.agg #[.int .i64 c.kind, .slice A1 c.path.length c1, .slice A2 c.dest.length c2, .int .i64 c.num, .string c.data]] w fun e w' => e = .returned (.string (bs (callT c))) ∧ Below w.heap.size w w' := by
  obtain ⟨_, _, _, ⟨b, o, cw, hg, h7, hw⟩⟩ := hE
  obtain ⟨kq, hkq⟩ := (isCall_ev c hs1 hs2).rounds
  rw [hok] at hkq
  obtain ⟨kind, path, dest, num, data⟩ := c
  dsimp only at *
  subst hk
  obtain ⟨n, rfl⟩ := Int.eq_ofNat_of_zero_le hn.1
  have hfin := Lib.hid (show callT ⟨4, path, dest, n, data⟩ = [114, 101, 109, 111, 118, 101] ++ 32 :: pathT path by simp [callT, hok, tailT, wordOf, WORDS])
  have hpath : isPath 1 path = true := by simpa [isCallB] using hok
  have hps := isPath_small 1 path hpath
  have hwk := hw 4 _ rfl
  have hbw := World.block_lt_of_cell? w _ hg
  have hbb := World.block_lt_of_cell? w _ hwk
  have HQ := Lib.hid hkq
  have H1 := Lib.hid h1
  have H2 := Lib.hid h2
  have HC1 := Lib.hid hc1
  have HC2 := Lib.hid hc2
  have HP1 := Lib.hid hps.1
  have HPT := Lib.hid (pathT_le 1 path hpath)
  have HP3 := Lib.hid hps.2.2.1
  clear hkq h1 h2 hc1 hc2 hps hok hw hs1 hs2 hpath
  go_enter Tryd.func20, Tryd.ntmps20
  go_wp2_with fail
  refine (impl_Call_isCall.calls kq 4 A1 c1 path A2 c2 dest n data true _ ?_ HC1.out ?_ HC2.out HQ.out).mono ?_
  · exact Kd.C_below H1.out ((Below.refl _ _).alloc (Nat.le_refl _) _)
  · exact Kd.C_below H2.out ((Below.refl _ _).alloc (Nat.le_refl _) _)
  rintro e w1 ⟨rfl, hb1⟩
  have hbw1 : Below w.heap.size w w1 := ((Below.refl _ _).alloc (Nat.le_refl _) _).trans (hb1.mono (by simp))
  have q0 : w1.cell? ⟨w.heap.size, 0, none⟩ = some (.int .i64 4) := cell_of hb1 (by go_simp)
  have q1 : w1.cell? ⟨w.heap.size, 1, none⟩ = some (.slice A1 path.length c1) := cell_of hb1 (by go_simp)
  have q2 : w1.cell? ⟨w.heap.size, 2, none⟩ = some (.slice A2 dest.length c2) := cell_of hb1 (by go_simp)
  have q3 : w1.cell? ⟨w.heap.size, 3, none⟩ = some (.int .i64 n) := cell_of hb1 (by go_simp)
  have q5 : w1.cell? ⟨w.heap.size, 4, none⟩ = some (.string data) := cell_of hb1 (by go_simp)
  have qg : w1.cell? ⟨0, 0, none⟩ = some (.slice (some ⟨b, o, none⟩) 7 cw) := cell_of hbw1 hg
  have q4 : w1.cell? ⟨b, o + 4, none⟩ = some (.string (bs [114, 101, 109, 111, 118, 101])) := cell_of hbw1 hwk
  have HR := Lib.hid (show Kd.C Kd.string w1 A1 path.length path from Kd.C_below H1.out hbw1)
  have HR2 := Lib.hid (show Kd.C Kd.string w1 A2 dest.length dest from Kd.C_below H2.out hbw1)
  have HB1 := Lib.hid hbw1
  have hzP : (bs (pathT path)).size ≤ 24 := by rw [bs_size]; exact HPT.out
  obtain ⟨W, hW⟩ : ∃ W, W = bs [114, 101, 109, 111, 118, 101] := ⟨_, rfl⟩
  have hzW : W.size ≤ 10 := by rw [hW, bs_size]; decide
  rw [← hW] at q4
  have HW := Lib.hid hW
  have hz1 : ¬ 9223372036854775807 < W.size + 1 := by omega
  have hz2 : ¬ 9223372036854775807 < W.size + 1 + (bs (pathT path)).size := by omega
  clear hb1 hbw1 hg hwk H1 H2 hW
  go_wp2_with fail
  go_region_held3 (fun w' => w'.cell? ⟨w.heap.size, 0, none⟩ = some (.int .i64 4) ∧ w'.cell? ⟨w.heap.size, 1, none⟩ = some (.slice A1 path.length c1) ∧ w'.cell? ⟨0, 0, none⟩ = some (.slice (some ⟨b, o, none⟩) 7 cw) ∧ w'.cell? ⟨b, o + 4, none⟩ = some (.string W))
    (first
      | go_keep
      | exact ⟨cell_of hb2 q0, cell_of hb2 q1, cell_of hb2 qg, cell_of hb2 q4⟩)
    ((go_at_call 36; refine (pathText_calls A1 c1 path _ ?_ HC1.out (Nat.le_trans HP1.out (by omega)) (Nat.le_trans HP3.out (by omega))).mono ?_; · exact Kd.C_drew HR.out
      rintro e w2 ⟨rfl, hb2⟩))
  have r0 : w2.cell? ⟨w.heap.size, 0, none⟩ = some (.int .i64 4) := cell_of hb2 q0
  have r2 : w2.cell? ⟨w.heap.size, 2, none⟩ = some (.slice A2 dest.length c2) := cell_of hb2 q2
  have r3 : w2.cell? ⟨w.heap.size, 3, none⟩ = some (.int .i64 n) := cell_of hb2 q3
  have r5 : w2.cell? ⟨w.heap.size, 4, none⟩ = some (.string data) := cell_of hb2 q5
  have HS2 := Lib.hid (show Kd.C Kd.string w2 A2 dest.length dest from Kd.C_below (Kd.C_drew HR2.out) hb2)
  have HB2 := Lib.hid (show Below w.heap.size w w2 from HB1.out.trans ((below_then (pw_below_drewN (Below.refl _ _) 1) (by simp) hb2).mono HB1.out.size))
  clear hb2 q0 q1 q2 q3 q5 qg q4 hz1 hz2
  go_wp2_with fail
  refine (Tryd.strconv_Itoa_small n (by omega) _).mono ?_
  rintro e w3 ⟨rfl, rfl⟩
  go_wp2
  go_ret
  refine ⟨congrArg (fun x => Ending.returned (Value.string x)) ?_, HB2.out⟩
  rw [hfin.out, HW.out]
  show bs _ ++ bs [32] ++ bs _ = _
  simp only [bs_append, List.append_assoc]
  rfl
set_option maxHeartbeats 1000000 in
theorem CallText_5 (A1 A2 : Option Addr) (c1 c2 : Nat) (c : Call) (w : World) (hE : Env w) (h1 : Kd.C Kd.string w A1 c.path.length c.path) (hc1 : c.path.length ≤ c1) (h2 : Kd.C Kd.string w A2 c.dest.length c.dest) (hc2 : c.dest.length ≤ c2)
    (hok : isCallB c = true) (hk : c.kind = 5) (hn : 0 ≤ c.num ∧ c.num < 100) (hs1 : Small c.path) (hs2 : Small c.dest) :
    Calls Tryd.prog 20 #[.agg #[.int .i64 c.kind, .slice A1 c.path.length c1, .slice A2 c.dest.length c2, .int .i64 c.num, .string c.data]] w fun e w' => e = .returned (.string (bs (callT c))) ∧ Below w.heap.size w w' := by
  obtain ⟨_, _, _, ⟨b, o, cw, hg, h7, hw⟩⟩ := hE
  obtain ⟨kq, hkq⟩ := (isCall_ev c hs1 hs2).rounds
  rw [hok] at hkq
  obtain ⟨kind, path, dest, num, data⟩ := c
  dsimp only at *
  subst hk
  obtain ⟨n, rfl⟩ := Int.eq_ofNat_of_zero_le hn.1
  have hfin := Lib.hid (show callT ⟨5, path, dest, n, data⟩ = [114, 101, 110, 97, 109, 101] ++ 32 :: (pathT path ++ 32 :: pathT dest) by simp [callT, hok, tailT, wordOf, WORDS])
  have hpath : isPath 1 path = true := by
    simp only [isCallB] at hok
    simp at hok
    exact hok.1
  have hdest : isPath 1 dest = true := by
    simp only [isCallB] at hok
    simp at hok
    exact hok.2
  have HDP1 := Lib.hid (isPath_small 1 dest hdest).1
  have HDP3 := Lib.hid (isPath_small 1 dest hdest).2.2.1
  have hzD : (bs (pathT dest)).size ≤ 24 := by rw [bs_size]; exact pathT_le 1 dest hdest
  have hps := isPath_small 1 path hpath
  have hwk := hw 5 _ rfl
  have hbw := World.block_lt_of_cell? w _ hg
  have hbb := World.block_lt_of_cell? w _ hwk
  have HQ := Lib.hid hkq
  have H1 := Lib.hid h1
  have H2 := Lib.hid h2
  have HC1 := Lib.hid hc1
  have HC2 := Lib.hid hc2
  have HP1 := Lib.hid hps.1
  have HPT := Lib.hid (pathT_le 1 path hpath)
  have HP3 := Lib.hid hps.2.2.1
  clear hkq h1 h2 hc1 hc2 hps hok hw hs1 hs2 hpath hdest
  go_enter Tryd.func20, Tryd.ntmps20
  go_wp2_with fail
  refine (impl_Call_isCall.calls kq 5 A1 c1 path A2 c2 dest n data true _ ?_ HC1.out ?_ HC2.out HQ.out).mono ?_
  · exact Kd.C_below H1.out ((Below.refl _ _).alloc (Nat.le_refl _) _)
  · exact Kd.C_below H2.out ((Below.refl _ _).alloc (Nat.le_refl _) _)
  rintro e w1 ⟨rfl, hb1⟩
  have hbw1 : Below w.heap.size w w1 := ((Below.refl _ _).alloc (Nat.le_refl _) _).trans (hb1.mono (by simp))
  have q0 : w1.cell? ⟨w.heap.size, 0, none⟩ = some (.int .i64 5) := cell_of hb1 (by go_simp)
  have q1 : w1.cell? ⟨w.heap.size, 1, none⟩ = some (.slice A1 path.length c1) := cell_of hb1 (by go_simp)
  have q2 : w1.cell? ⟨w.heap.size, 2, none⟩ = some (.slice A2 dest.length c2) := cell_of hb1 (by go_simp)
  have q3 : w1.cell? ⟨w.heap.size, 3, none⟩ = some (.int .i64 n) := cell_of hb1 (by go_simp)
  have q5 : w1.cell? ⟨w.heap.size, 4, none⟩ = some (.string data) := cell_of hb1 (by go_simp)
  have qg : w1.cell? ⟨0, 0, none⟩ = some (.slice (some ⟨b, o, none⟩) 7 cw) := cell_of hbw1 hg
  have q4 : w1.cell? ⟨b, o + 5, none⟩ = some (.string (bs [114, 101, 110, 97, 109, 101])) := cell_of hbw1 hwk
  have HR := Lib.hid (show Kd.C Kd.string w1 A1 path.length path from Kd.C_below H1.out hbw1)
  have HR2 := Lib.hid (show Kd.C Kd.string w1 A2 dest.length dest from Kd.C_below H2.out hbw1)
  have HB1 := Lib.hid hbw1
  have hzP : (bs (pathT path)).size ≤ 24 := by rw [bs_size]; exact HPT.out
  obtain ⟨W, hW⟩ : ∃ W, W = bs [114, 101, 110, 97, 109, 101] := ⟨_, rfl⟩
  have hzW : W.size ≤ 10 := by rw [hW, bs_size]; decide
  rw [← hW] at q4
  have HW := Lib.hid hW
  have hz1 : ¬ 9223372036854775807 < W.size + 1 := by omega
  have hz2 : ¬ 9223372036854775807 < W.size + 1 + (bs (pathT path)).size := by omega
  clear hb1 hbw1 hg hwk H1 H2 hW
  go_wp2_with fail
  go_region_held3 (fun w' => w'.cell? ⟨w.heap.size, 0, none⟩ = some (.int .i64 5) ∧ w'.cell? ⟨w.heap.size, 1, none⟩ = some (.slice A1 path.length c1) ∧ w'.cell? ⟨0, 0, none⟩ = some (.slice (some ⟨b, o, none⟩) 7 cw) ∧ w'.cell? ⟨b, o + 5, none⟩ = some (.string W))
    (first
      | go_keep
      | exact ⟨cell_of hb2 q0, cell_of hb2 q1, cell_of hb2 qg, cell_of hb2 q4⟩)
    ((go_at_call 36; refine (pathText_calls A1 c1 path _ ?_ HC1.out (Nat.le_trans HP1.out (by omega)) (Nat.le_trans HP3.out (by omega))).mono ?_; · exact Kd.C_drew HR.out
      rintro e w2 ⟨rfl, hb2⟩))
  have r0 : w2.cell? ⟨w.heap.size, 0, none⟩ = some (.int .i64 5) := cell_of hb2 q0
  have r2 : w2.cell? ⟨w.heap.size, 2, none⟩ = some (.slice A2 dest.length c2) := cell_of hb2 q2
  have r3 : w2.cell? ⟨w.heap.size, 3, none⟩ = some (.int .i64 n) := cell_of hb2 q3
  have r5 : w2.cell? ⟨w.heap.size, 4, none⟩ = some (.string data) := cell_of hb2 q5
  have HS2 := Lib.hid (show Kd.C Kd.string w2 A2 dest.length dest from Kd.C_below (Kd.C_drew HR2.out) hb2)
  have HB2 := Lib.hid (show Below w.heap.size w w2 from HB1.out.trans ((below_then (pw_below_drewN (Below.refl _ _) 1) (by simp) hb2).mono HB1.out.size))
  clear hb2 q0 q1 q2 q3 q5 qg q4 hz1 hz2
  go_wp2_with fail
  refine (Tryd.strconv_Itoa_small n (by omega) _).mono ?_
  rintro e w3 ⟨rfl, rfl⟩
  go_wp2_with fail
  refine (pathText_calls A2 c2 dest _ HS2.out HC2.out (Nat.le_trans HDP1.out (by omega)) (Nat.le_trans HDP3.out (by omega))).mono ?_
  rintro e w4 ⟨rfl, hb4⟩
  have HB4 := Lib.hid (show Below w.heap.size w w4 from HB2.out.trans (hb4.mono HB2.out.size))
  clear hb4
  go_wp2
  go_ret
  refine ⟨congrArg (fun x => Ending.returned (Value.string x)) ?_, HB4.out⟩
  rw [hfin.out, HW.out]
  show bs _ ++ bs [32] ++ bs _ ++ bs [32] ++ bs _ = _
  simp only [bs_append, List.append_assoc]
  rfl
set_option maxHeartbeats 1000000 in
theorem CallText_6 (A1 A2 : Option Addr) (c1 c2 : Nat) (c : Call) (w : World) (hE : Env w) (h1 : Kd.C Kd.string w A1 c.path.length c.path) (hc1 : c.path.length ≤ c1) (h2 : Kd.C Kd.string w A2 c.dest.length c.dest) (hc2 : c.dest.length ≤ c2)
    (hok : isCallB c = true) (hk : c.kind = 6) (hn : 0 ≤ c.num ∧ c.num < 100) (hs1 : Small c.path) (hs2 : Small c.dest) :
    Calls Tryd.prog 20 #[.agg #[.int .i64 c.kind, .slice A1 c.path.length c1, .slice A2 c.dest.length c2, .int .i64 c.num, .string c.data]] w fun e w' => e = .returned (.string (bs (callT c))) ∧ Below w.heap.size w w' := by
  obtain ⟨_, _, _, ⟨b, o, cw, hg, h7, hw⟩⟩ := hE
  obtain ⟨kq, hkq⟩ := (isCall_ev c hs1 hs2).rounds
  rw [hok] at hkq
  obtain ⟨kind, path, dest, num, data⟩ := c
  dsimp only at *
  subst hk
  obtain ⟨n, rfl⟩ := Int.eq_ofNat_of_zero_le hn.1
  have hfin := Lib.hid (show callT ⟨6, path, dest, n, data⟩ = [99, 104, 109, 111, 100] ++ 32 :: (pathT path ++ 32 :: Lib.decDigits n) by simp [callT, hok, tailT, wordOf, WORDS])
  have hpath : isPath 1 path = true := by
    simp only [isCallB] at hok
    simp at hok
    exact hok.1
  have hzN : (Lib.decDigits n).length ≤ 2 := dd_small n (by omega)
  have hps := isPath_small 1 path hpath
  have hwk := hw 6 _ rfl
  have hbw := World.block_lt_of_cell? w _ hg
  have hbb := World.block_lt_of_cell? w _ hwk
  have HQ := Lib.hid hkq
  have H1 := Lib.hid h1
  have H2 := Lib.hid h2
  have HC1 := Lib.hid hc1
  have HC2 := Lib.hid hc2
  have HP1 := Lib.hid hps.1
  have HPT := Lib.hid (pathT_le 1 path hpath)
  have HP3 := Lib.hid hps.2.2.1
  clear hkq h1 h2 hc1 hc2 hps hok hw hs1 hs2 hpath
  go_enter Tryd.func20, Tryd.ntmps20
  go_wp2_with fail
  refine (impl_Call_isCall.calls kq 6 A1 c1 path A2 c2 dest n data true _ ?_ HC1.out ?_ HC2.out HQ.out).mono ?_
  · exact Kd.C_below H1.out ((Below.refl _ _).alloc (Nat.le_refl _) _)
  · exact Kd.C_below H2.out ((Below.refl _ _).alloc (Nat.le_refl _) _)
  rintro e w1 ⟨rfl, hb1⟩
  have hbw1 : Below w.heap.size w w1 := ((Below.refl _ _).alloc (Nat.le_refl _) _).trans (hb1.mono (by simp))
  have q0 : w1.cell? ⟨w.heap.size, 0, none⟩ = some (.int .i64 6) := cell_of hb1 (by go_simp)
  have q1 : w1.cell? ⟨w.heap.size, 1, none⟩ = some (.slice A1 path.length c1) := cell_of hb1 (by go_simp)
  have q2 : w1.cell? ⟨w.heap.size, 2, none⟩ = some (.slice A2 dest.length c2) := cell_of hb1 (by go_simp)
  have q3 : w1.cell? ⟨w.heap.size, 3, none⟩ = some (.int .i64 n) := cell_of hb1 (by go_simp)
  have q5 : w1.cell? ⟨w.heap.size, 4, none⟩ = some (.string data) := cell_of hb1 (by go_simp)
  have qg : w1.cell? ⟨0, 0, none⟩ = some (.slice (some ⟨b, o, none⟩) 7 cw) := cell_of hbw1 hg
  have q4 : w1.cell? ⟨b, o + 6, none⟩ = some (.string (bs [99, 104, 109, 111, 100])) := cell_of hbw1 hwk
  have HR := Lib.hid (show Kd.C Kd.string w1 A1 path.length path from Kd.C_below H1.out hbw1)
  have HR2 := Lib.hid (show Kd.C Kd.string w1 A2 dest.length dest from Kd.C_below H2.out hbw1)
  have HB1 := Lib.hid hbw1
  have hzP : (bs (pathT path)).size ≤ 24 := by rw [bs_size]; exact HPT.out
  obtain ⟨W, hW⟩ : ∃ W, W = bs [99, 104, 109, 111, 100] := ⟨_, rfl⟩
  have hzW : W.size ≤ 10 := by rw [hW, bs_size]; decide
  rw [← hW] at q4
  have HW := Lib.hid hW
  have hz1 : ¬ 9223372036854775807 < W.size + 1 := by omega
  have hz2 : ¬ 9223372036854775807 < W.size + 1 + (bs (pathT path)).size := by omega
  clear hb1 hbw1 hg hwk H1 H2 hW
  go_wp2_with fail
  go_region_held3 (fun w' => w'.cell? ⟨w.heap.size, 0, none⟩ = some (.int .i64 6) ∧ w'.cell? ⟨w.heap.size, 1, none⟩ = some (.slice A1 path.length c1) ∧ w'.cell? ⟨0, 0, none⟩ = some (.slice (some ⟨b, o, none⟩) 7 cw) ∧ w'.cell? ⟨b, o + 6, none⟩ = some (.string W))
    (first
      | go_keep
      | exact ⟨cell_of hb2 q0, cell_of hb2 q1, cell_of hb2 qg, cell_of hb2 q4⟩)
    ((go_at_call 36; refine (pathText_calls A1 c1 path _ ?_ HC1.out (Nat.le_trans HP1.out (by omega)) (Nat.le_trans HP3.out (by omega))).mono ?_; · exact Kd.C_drew HR.out
      rintro e w2 ⟨rfl, hb2⟩))
  have r0 : w2.cell? ⟨w.heap.size, 0, none⟩ = some (.int .i64 6) := cell_of hb2 q0
  have r2 : w2.cell? ⟨w.heap.size, 2, none⟩ = some (.slice A2 dest.length c2) := cell_of hb2 q2
  have r3 : w2.cell? ⟨w.heap.size, 3, none⟩ = some (.int .i64 n) := cell_of hb2 q3
  have r5 : w2.cell? ⟨w.heap.size, 4, none⟩ = some (.string data) := cell_of hb2 q5
  have HS2 := Lib.hid (show Kd.C Kd.string w2 A2 dest.length dest from Kd.C_below (Kd.C_drew HR2.out) hb2)
  have HB2 := Lib.hid (show Below w.heap.size w w2 from HB1.out.trans ((below_then (pw_below_drewN (Below.refl _ _) 1) (by simp) hb2).mono HB1.out.size))
  clear hb2 q0 q1 q2 q3 q5 qg q4 hz1 hz2
  go_wp2_with fail
  refine (Tryd.strconv_Itoa_small n (by omega) _).mono ?_
  rintro e w3 ⟨rfl, rfl⟩
  go_wp2
  go_ret
  refine ⟨congrArg (fun x => Ending.returned (Value.string x)) ?_, HB2.out⟩
  rw [hfin.out, HW.out]
  show bs _ ++ bs [32] ++ bs _ ++ bs [32] ++ bs _ = _
  simp only [bs_append, List.append_assoc]
  rfl
set_option maxHeartbeats 400000 in
theorem CallText_no (A1 A2 : Option Addr) (c1 c2 : Nat) (c : Call) (w : World) (h1 : Kd.C Kd.string w A1 c.path.length c.path) (hc1 : c.path.length ≤ c1) (h2 : Kd.C Kd.string w A2 c.dest.length c.dest) (hc2 : c.dest.length ≤ c2)
    (hok : isCallB c = false) (hs1 : Small c.path) (hs2 : Small c.dest) :
    Calls Tryd.prog 20 #[.agg #[.int .i64 c.kind, .slice A1 c.path.length c1, .slice A2 c.dest.length c2, .int .i64 c.num, .string c.data]] w fun e w' => e = .returned (.string (bs (callT c))) ∧ Below w.heap.size w w' := by
  obtain ⟨kq, hkq⟩ := (isCall_ev c hs1 hs2).rounds
  rw [hok] at hkq
  have hfin := Lib.hid (show callT c = [] by simp [callT, hok])
  obtain ⟨kind, path, dest, num, data⟩ := c
  dsimp only at *
  have HQ := Lib.hid hkq
  have H1 := Lib.hid h1
  have H2 := Lib.hid h2
  have HC1 := Lib.hid hc1
  have HC2 := Lib.hid hc2
  clear hkq h1 h2 hc1 hc2 hok hs1 hs2
  go_enter Tryd.func20, Tryd.ntmps20
  go_wp2_with fail
  refine (impl_Call_isCall.calls kq kind A1 c1 path A2 c2 dest num data false _ ?_ HC1.out ?_ HC2.out HQ.out).mono ?_
  · exact Kd.C_below H1.out ((Below.refl _ _).alloc (Nat.le_refl _) _)
  · exact Kd.C_below H2.out ((Below.refl _ _).alloc (Nat.le_refl _) _)
  rintro e w1 ⟨rfl, hb1⟩
  go_wp2
  go_ret
  exact ⟨by rw [hfin.out]; rfl, ((Below.refl _ _).alloc (Nat.le_refl _) _).trans (hb1.mono (by simp))⟩
/-- CallText. -/
theorem CallText_calls (A1 A2 : Option Addr) (c1 c2 : Nat) (c : Call) (w : World) (hE : Env w) (h1 : Kd.C Kd.string w A1 c.path.length c.path) (hc1 : c.path.length ≤ c1) (h2 : Kd.C Kd.string w A2 c.dest.length c.dest) (hc2 : c.dest.length ≤ c2)
    (hn : isCallB c = true → 0 ≤ c.num ∧ c.num < 100) (hs1 : Small c.path) (hs2 : Small c.dest) :
    Calls Tryd.prog 20 #[.agg #[.int .i64 c.kind, .slice A1 c.path.length c1, .slice A2 c.dest.length c2, .int .i64 c.num, .string c.data]] w fun e w' => e = .returned (.string (bs (callT c))) ∧ Below w.heap.size w w' := by
  cases hok : isCallB c with
  | false => exact CallText_no A1 A2 c1 c2 c w h1 hc1 h2 hc2 hok hs1 hs2
  | true =>
    have hn' := hn hok
    have hk : c.kind = 1 ∨ c.kind = 2 ∨ c.kind = 3 ∨ c.kind = 4 ∨ c.kind = 5 ∨ c.kind = 6 := by
      unfold isCallB at hok
      split at hok
      · omega
      · split at hok
        · omega
        · split at hok
          · omega
          · split at hok
            · omega
            · cases hok
    rcases hk with hk | hk | hk | hk | hk | hk
    · exact CallText_1 A1 A2 c1 c2 c w hE h1 hc1 h2 hc2 hok hk hn' hs1 hs2
    · by_cases hd : c.data.size ≤ 24
      · exact CallText_2ok A1 A2 c1 c2 c w hE h1 hc1 h2 hc2 hok hk hn' hs1 hs2 hd
      · exact CallText_2big A1 A2 c1 c2 c w hE h1 hc1 h2 hc2 hok hk hn' hs1 hs2 (by omega)
    · exact CallText_3 A1 A2 c1 c2 c w hE h1 hc1 h2 hc2 hok hk hn' hs1 hs2
    · exact CallText_4 A1 A2 c1 c2 c w hE h1 hc1 h2 hc2 hok hk hn' hs1 hs2
    · exact CallText_5 A1 A2 c1 c2 c w hE h1 hc1 h2 hc2 hok hk hn' hs1 hs2
    · exact CallText_6 A1 A2 c1 c2 c w hE h1 hc1 h2 hc2 hok hk hn' hs1 hs2
end Go.Proofs.YtojlffnlenldiaaDoor.F
