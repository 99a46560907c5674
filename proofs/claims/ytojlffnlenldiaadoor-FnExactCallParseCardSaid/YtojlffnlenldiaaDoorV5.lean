import Derived.Test.YtojlffnlenldiaaDoorV4
import Derived.Deep.RegionWith
import Derived.Deep.Cut
namespace Go.Proofs.YtojlffnlenldiaaDoor.F
open Go.RowKit Go.Proofs.YtojlffnlenldiaaDoorW.PrintWords Go.Proofs.YtojlffnlenldiaaDoorW.PrintLast Go.Proofs.YtojlffnlenldiaaDoorW.PrintMore
set_option linter.unusedVariables false
set_option linter.unusedSimpArgs false

def wordsRow : Array Value := #[.string ⟨#[]⟩, .string (bs [109, 107, 100, 105, 114]), .string (bs [119, 114, 105, 116, 101]), .string (bs [116, 114, 117, 110, 99, 97, 116, 101]), .string (bs [114, 101, 109, 111, 118, 101]), .string (bs [114, 101, 110, 97, 109, 101]), .string (bs [99, 104, 109, 111, 100])]
set_option maxHeartbeats 400000 in
theorem l42Words_calls (w : World) :
    Calls Tryd.prog 10 #[] w fun e w' => e = .returned (.slice (some ⟨w.heap.size, 0, none⟩) 7 7) ∧ w.alloc (.cells wordsRow 9) = w' := by
  go_enter Tryd.func10, Tryd.ntmps10
  go_wp2
  go_ret
  exact ⟨rfl, rfl⟩
theorem wordsRow_at (k : Nat) (h : k < 7) (w : World) : (w.alloc (.cells wordsRow 9)).cell? ⟨w.heap.size, k, none⟩ = some (.string (bs (WORDS.getD k []))) := by
  have : (w.alloc (.cells wordsRow 9)).cell? ⟨w.heap.size, k, none⟩ = wordsRow[k]? := by
    unfold World.cell?
    rw [heap_alloc_new]
    rfl
  rw [this]
  have h2 : k = 0 ∨ k = 1 ∨ k = 2 ∨ k = 3 ∨ k = 4 ∨ k = 5 ∨ k = 6 := by omega
  rcases h2 with rfl | rfl | rfl | rfl | rfl | rfl | rfl <;> rfl
set_option maxRecDepth 100000 in
set_option maxHeartbeats 1000000 in
theorem sCallText_1 (A1 A2 : Option Addr) (c1 c2 : Nat) (c : Call) (w : World) (h1 : Kd.C Kd.string w A1 c.path.length c.path) (hc1 : c.path.length ≤ c1) (h2 : Kd.C Kd.string w A2 c.dest.length c.dest) (hc2 : c.dest.length ≤ c2)
    (hok : isCallB c = true) (hk : c.kind = 1) (hn : 0 ≤ c.num ∧ c.num < 100) (hs1 : Small c.path) (hs2 : Small c.dest) :
    Calls Tryd.prog 14 #[.agg #[.int .i64 c.kind, .slice A1 c.path.length c1, .slice A2 c.dest.length c2, .int .i64 c.num, .string c.data]] w fun e w' => e = .returned (.string (bs (callT c))) ∧ Below w.heap.size w w' := by
  obtain ⟨kq, hkq⟩ := (l2CallOk_ev c hs1 hs2).rounds
  rw [hok] at hkq
  obtain ⟨kind, path, dest, num, data⟩ := c
  dsimp only at *
  subst hk
  obtain ⟨n, rfl⟩ := Int.eq_ofNat_of_zero_le hn.1
  have hfin := Lib.hid (show callT ⟨1, path, dest, n, data⟩ = [109, 107, 100, 105, 114] ++ 32 :: (pathT path ++ 32 :: Lib.decDigits n) by simp [callT, hok, tailT, wordOf, WORDS])
  have hpath : isPath 1 path = true := by
    simp only [isCallB] at hok
    simp at hok
    exact hok.1
  have hzN : (Lib.decDigits n).length ≤ 2 := dd_small n (by omega)
  obtain ⟨kn, hkn⟩ := (l1Dec_ev n (by omega)).rounds
  have HKN := Lib.hid hkn
  have hzNb : (bs (Lib.decDigits n)).size ≤ 2 := by rw [bs_size]; exact hzN
  have hps := isPath_small 1 path hpath
  obtain ⟨kp, hkp⟩ := (l3Name_ev path (Nat.le_trans hps.1 (by omega)) (Nat.le_trans hps.2.2.1 (by omega))).rounds
  have HKP := Lib.hid hkp
  have HQ := Lib.hid hkq
  have H1 := Lib.hid h1
  have H2 := Lib.hid h2
  have HC1 := Lib.hid hc1
  have HC2 := Lib.hid hc2
  have HPT := Lib.hid (pathT_le 1 path hpath)
  clear hkq h1 h2 hc1 hc2 hps hok hs1 hs2 hpath hkp hkn
  go_enter Tryd.func14, Tryd.ntmps14
  go_wp2_with fail
  refine (spec_l2CallOk.calls kq 1 A1 c1 path A2 c2 dest n data true _ ?_ HC1.out ?_ HC2.out HQ.out).mono ?_
  · exact Kd.C_below H1.out ((Below.refl _ _).alloc (Nat.le_refl _) _)
  · exact Kd.C_below H2.out ((Below.refl _ _).alloc (Nat.le_refl _) _)
  rintro e w1 ⟨rfl, hb1⟩
  have hbw1 : Below w.heap.size w w1 := ((Below.refl _ _).alloc (Nat.le_refl _) _).trans (hb1.mono (by simp))
  have q0 : w1.cell? ⟨w.heap.size, 0, none⟩ = some (.int .i64 1) := cell_of hb1 (by go_simp)
  have q1 : w1.cell? ⟨w.heap.size, 1, none⟩ = some (.slice A1 path.length c1) := cell_of hb1 (by go_simp)
  have q2 : w1.cell? ⟨w.heap.size, 2, none⟩ = some (.slice A2 dest.length c2) := cell_of hb1 (by go_simp)
  have q3 : w1.cell? ⟨w.heap.size, 3, none⟩ = some (.int .i64 n) := cell_of hb1 (by go_simp)
  have q5 : w1.cell? ⟨w.heap.size, 4, none⟩ = some (.string data) := cell_of hb1 (by go_simp)
  have hsz1 : w.heap.size < w1.heap.size := World.block_lt_of_cell? w1 _ q0
  have HR := Lib.hid (show Kd.C Kd.string w1 A1 path.length path from Kd.C_below H1.out hbw1)
  have HR2 := Lib.hid (show Kd.C Kd.string w1 A2 dest.length dest from Kd.C_below H2.out hbw1)
  have HB1 := Lib.hid hbw1
  clear hb1 hbw1 H1 H2
  have hzP : (bs (pathT path)).size ≤ 24 := by rw [bs_size]; exact HPT.out
  obtain ⟨W, hW⟩ : ∃ W, W = bs [109, 107, 100, 105, 114] := ⟨_, rfl⟩
  have hzW : W.size ≤ 10 := by rw [hW, bs_size]; decide
  have HW := Lib.hid hW
  have hz1 : ¬ 9223372036854775807 < W.size + 1 := by omega
  have hz2 : ¬ 9223372036854775807 < W.size + 1 + (bs (pathT path)).size := by omega
  have hww : ∀ u : World, (u.alloc (.cells wordsRow 9)).cell? ⟨u.heap.size, 1, none⟩ = some (.string W) := fun u => by rw [hW]; exact wordsRow_at 1 (by omega) u
  have HWW := Lib.hid hww
  clear hW hww
  go_wp2_with fail
  go_cut [3] from 4 (fun v3 wc => v3 = .string (W ++ ⟨#[32]⟩ ++ bs (pathT path)) ∧ Below w.heap.size w wc ∧ Below w1.heap.size w1 wc)
  case first =>
    refine start_ (n := 11) (S := fun w' => w'.cell? ⟨w.heap.size, 0, none⟩ = some (.int .i64 1) ∧ w'.cell? ⟨w.heap.size, 1, none⟩ = some (.slice A1 path.length c1)) (ds := []) #[false, false, false, false, false, false, false, false, false, false, false] (by kernel_rfl) rfl rfl ⟨q0, q1⟩ (fun hHeld => ?_)
    refine pure_ (i := 1) (N := (some 19)) (v := ?_) (a' := ?_) #[false, true, false, false, false, false, false, false, false, false, false] rfl rfl (by kernel_rfl) (fun _ _ _ h => h) (Or.inl ⟨by rfl, ?_⟩) ?_ ?_
    rotate_left
    · intro w'
      go_simp
      with_reducible rfl
    rotate_left
    · simp only [Act.put, List.setIfInBounds_toArray, List.set_cons_zero, List.set_cons_succ, i64_w, i32_w]
      rfl
    refine pure_ (i := 6) (N := (some 24)) (v := ?_) (a' := ?_) #[false, true, false, false, false, false, true, false, false, false, false] rfl rfl (by kernel_rfl) (fun _ _ _ h => h) (Or.inl ⟨by rfl, ?_⟩) ?_ ?_
    rotate_left
    · intro w'
      go_simp
      with_reducible rfl
    rotate_left
    · simp only [Act.put, List.setIfInBounds_toArray, List.set_cons_zero, List.set_cons_succ, i64_w, i32_w]
      rfl
    refine take_ (i := 2) (N := (some 20)) (v := ?_) (a' := ?_) #[false, true, true, false, false, false, true, false, false, false, false] rfl rfl (by kernel_rfl) (fun _ _ _ h => h) (Or.inl ⟨by rfl, ?_⟩) hHeld ?_ ?_
    rotate_left
    · rintro w' ⟨s0, s1⟩
      go_simp
      with_reducible rfl
    rotate_left
    · simp only [Act.put, List.setIfInBounds_toArray, List.set_cons_zero, List.set_cons_succ, i64_w, i32_w]
      rfl
    refine take_ (i := 7) (N := (some 25)) (v := ?_) (a' := ?_) #[false, true, true, false, false, false, true, true, false, false, false] rfl rfl (by kernel_rfl) (fun _ _ _ h => h) (Or.inl ⟨by rfl, ?_⟩) hHeld ?_ ?_
    rotate_left
    · rintro w' ⟨s0, s1⟩
      go_simp
      with_reducible rfl
    rotate_left
    · simp only [Act.put, List.setIfInBounds_toArray, List.set_cons_zero, List.set_cons_succ, i64_w, i32_w]
      rfl
    refine one_ (i := 0) (N := (some 18)) #[true, true, true, false, false, false, true, true, false, false, false] rfl rfl (by kernel_rfl) (by decide) (fun K hK => ?_)
    refine goes_ Tryd.func10 (by kernel_rfl) rfl #[] (by rfl) rfl rfl (by (try simp only [List.map_toArray, List.map_cons, List.map_nil]); first | done | rfl) ?_
    refine (l42Words_calls _).mono ?_
    rintro e w2 ⟨rfl, hw2⟩
    refine ⟨_, rfl, ?_⟩
    have hb2 : Below w1.heap.size w1 w2 := by rw [← hw2]; exact below_alloc (below_drew1 (Below.refl _ _)) _
    have hcw : w2.cell? ⟨w1.heap.size, 1, none⟩ = some (.string W) := by rw [← hw2]; exact HWW.out w1.drew
    clear hw2
    have HR' := Lib.hid (Kd.C_below HR.out hb2)
    have HB2 := Lib.hid hb2
    refine hK.out _ _ ⟨cell_of hb2 q0, cell_of hb2 q1⟩ (fun hHeld => ?_)
    clear hK K
    refine norm_ (a' := ?_) ?_ ?_
    rotate_left
    · show Act.put _ (some 18) _ = _
      simp only [Act.put, List.setIfInBounds_toArray, List.set_cons_zero, List.set_cons_succ, i64_w, i32_w]
      rfl
    refine pure_ (i := 3) (N := (some 21)) (v := ?_) (a' := ?_) #[true, true, true, true, false, false, true, true, false, false, false] rfl rfl (by kernel_rfl) (fun _ _ _ h => h) (Or.inl ⟨by rfl, ?_⟩) ?_ ?_
    rotate_left
    · intro w'
      go_simp
      with_reducible rfl
    rotate_left
    · simp only [Act.put, List.setIfInBounds_toArray, List.set_cons_zero, List.set_cons_succ, i64_w, i32_w]
      rfl
    refine two_ (i := 4) (j := 8) (Ni := (some 22)) (Nj := (some 26)) #[true, true, true, true, true, false, true, true, false, false, false] #[true, true, true, true, false, false, true, true, true, false, false] rfl rfl rfl rfl (by kernel_rfl) (by decide) (by decide) (fun K hK => ?_) (fun K hK => ?_)
    · skip
      refine value_ (w1 := ?_) (v := ?_) (by rfl) rfl ?_ ?_
      rotate_left 2
      · go_simp
        constructor
        · rfl
        · rfl
      refine hK.out _ _ hHeld (fun hHeld => ?_)
      clear hK K
      refine norm_ (a' := ?_) ?_ ?_
      rotate_left
      · show Act.put _ (some 22) _ = _
        simp only [Act.put, List.setIfInBounds_toArray, List.set_cons_zero, List.set_cons_succ, i64_w, i32_w]
        rfl
      refine pure_ (i := 5) (N := (some 23)) (v := ?_) (a' := ?_) #[true, true, true, true, true, true, true, true, false, false, false] rfl rfl (by kernel_rfl) (fun _ _ _ h => h) (Or.inl ⟨by rfl, ?_⟩) ?_ ?_
      rotate_left
      · intro w'
        go_simp
        with_reducible rfl
      rotate_left
      · simp only [Act.put, List.setIfInBounds_toArray, List.set_cons_zero, List.set_cons_succ, i64_w, i32_w]
        rfl
      refine one_ (i := 8) (N := (some 26)) #[true, true, true, true, true, true, true, true, true, false, false] rfl rfl (by kernel_rfl) (by decide) (fun K hK => ?_)
      refine goes_ Tryd.func28 (by kernel_rfl) rfl #[.slice A1 path.length c1] (by rfl) rfl rfl (by (try simp only [List.map_toArray, List.map_cons, List.map_nil]); first | done | rfl) ?_
      refine (spec_l3Name.calls kp A1 c1 path _ _ HR'.out HC1.out HKP.out).mono ?_
      rintro e w3 ⟨rfl, ⟨nd, rfl⟩⟩
      refine ⟨_, rfl, ?_⟩
      refine hK.out _ _ hHeld (fun hHeld => ?_)
      clear hK K
      refine norm_ (a' := ?_) ?_ ?_
      rotate_left
      · show Act.put _ (some 26) _ = _
        simp only [Act.put, List.setIfInBounds_toArray, List.set_cons_zero, List.set_cons_succ, i64_w, i32_w]
        rfl
      refine pure_ (i := 9) (N := (some 27)) (v := ?_) (a' := ?_) #[true, true, true, true, true, true, true, true, true, true, false] rfl rfl (by kernel_rfl) (fun _ _ _ h => h) (Or.inl ⟨by rfl, ?_⟩) ?_ ?_
      rotate_left
      · intro w'
        go_simp
        with_reducible rfl
      rotate_left
      · simp only [Act.put, List.setIfInBounds_toArray, List.set_cons_zero, List.set_cons_succ, i64_w, i32_w]
        rfl
      refine pure_ (i := 10) (N := (some 3)) (v := ?_) (a' := ?_) #[true, true, true, true, true, true, true, true, true, true, true] rfl rfl (by kernel_rfl) (fun _ _ _ h => h) (Or.inl ⟨by rfl, ?_⟩) ?_ ?_
      rotate_left
      · intro w'
        go_simp
        with_reducible rfl
      rotate_left
      · simp only [Act.put, List.setIfInBounds_toArray, List.set_cons_zero, List.set_cons_succ, i64_w, i32_w]
        rfl
      refine done_ (by kernel_rfl) ?_
      go_wp2
      go_meet
      case rel => exact ⟨rfl, HB1.out.trans ((pw_below_drewN HB2.out nd).mono (Nat.le_of_lt hsz1)), pw_below_drewN HB2.out nd⟩
    · skip
      refine goes_ Tryd.func28 (by kernel_rfl) rfl #[.slice A1 path.length c1] (by rfl) rfl rfl (by (try simp only [List.map_toArray, List.map_cons, List.map_nil]); first | done | rfl) ?_
      refine (spec_l3Name.calls kp A1 c1 path _ _ HR'.out HC1.out HKP.out).mono ?_
      rintro e w3 ⟨rfl, ⟨nd, rfl⟩⟩
      refine ⟨_, rfl, ?_⟩
      refine hK.out _ _ hHeld (fun hHeld => ?_)
      clear hK K
      refine norm_ (a' := ?_) ?_ ?_
      rotate_left
      · show Act.put _ (some 26) _ = _
        simp only [Act.put, List.setIfInBounds_toArray, List.set_cons_zero, List.set_cons_succ, i64_w, i32_w]
        rfl
      refine one_ (i := 4) (N := (some 22)) #[true, true, true, true, true, false, true, true, true, false, false] rfl rfl (by kernel_rfl) (by decide) (fun K hK => ?_)
      refine value_ (w1 := ?_) (v := ?_) (by rfl) rfl ?_ ?_
      rotate_left 2
      · go_simp
        constructor
        · rfl
        · rfl
      refine hK.out _ _ hHeld (fun hHeld => ?_)
      clear hK K
      refine norm_ (a' := ?_) ?_ ?_
      rotate_left
      · show Act.put _ (some 22) _ = _
        simp only [Act.put, List.setIfInBounds_toArray, List.set_cons_zero, List.set_cons_succ, i64_w, i32_w]
        rfl
      refine pure_ (i := 5) (N := (some 23)) (v := ?_) (a' := ?_) #[true, true, true, true, true, true, true, true, true, false, false] rfl rfl (by kernel_rfl) (fun _ _ _ h => h) (Or.inl ⟨by rfl, ?_⟩) ?_ ?_
      rotate_left
      · intro w'
        go_simp
        with_reducible rfl
      rotate_left
      · simp only [Act.put, List.setIfInBounds_toArray, List.set_cons_zero, List.set_cons_succ, i64_w, i32_w]
        rfl
      refine pure_ (i := 9) (N := (some 27)) (v := ?_) (a' := ?_) #[true, true, true, true, true, true, true, true, true, true, false] rfl rfl (by kernel_rfl) (fun _ _ _ h => h) (Or.inl ⟨by rfl, ?_⟩) ?_ ?_
      rotate_left
      · intro w'
        go_simp
        with_reducible rfl
      rotate_left
      · simp only [Act.put, List.setIfInBounds_toArray, List.set_cons_zero, List.set_cons_succ, i64_w, i32_w]
        rfl
      refine pure_ (i := 10) (N := (some 3)) (v := ?_) (a' := ?_) #[true, true, true, true, true, true, true, true, true, true, true] rfl rfl (by kernel_rfl) (fun _ _ _ h => h) (Or.inl ⟨by rfl, ?_⟩) ?_ ?_
      rotate_left
      · intro w'
        go_simp
        with_reducible rfl
      rotate_left
      · simp only [Act.put, List.setIfInBounds_toArray, List.set_cons_zero, List.set_cons_succ, i64_w, i32_w]
        rfl
      refine done_ (by kernel_rfl) ?_
      go_wp2
      go_meet
      case rel => exact ⟨rfl, HB1.out.trans ((pw_below_drewN HB2.out nd).mono (Nat.le_of_lt hsz1)), pw_below_drewN HB2.out nd⟩
  case rest =>
    obtain ⟨rfl, hbc, hb1c⟩ := hcut
    have r0 : wc.cell? ⟨w.heap.size, 0, none⟩ = some (.int .i64 1) := cell_of hb1c q0
    have r2 : wc.cell? ⟨w.heap.size, 2, none⟩ = some (.slice A2 dest.length c2) := cell_of hb1c q2
    have r3 : wc.cell? ⟨w.heap.size, 3, none⟩ = some (.int .i64 n) := cell_of hb1c q3
    have r5 : wc.cell? ⟨w.heap.size, 4, none⟩ = some (.string data) := cell_of hb1c q5
    have HSc := Lib.hid (show Kd.C Kd.string wc A2 dest.length dest from Kd.C_below HR2.out hb1c)
    have HBc := Lib.hid hbc
    clear HR HR2 HB1 hbc hb1c HWW q0 q1 q2 q3 q5 hsz1 HPT HKP HQ
    have hz3 : ¬ 9223372036854775807 < (W ++ ⟨#[32]⟩ ++ bs (pathT path)).size + 1 := by
      simp only [ByteArray.size_append]
      have : (⟨#[32]⟩ : ByteArray).size = 1 := rfl
      omega
    have hz3' : ¬ 9223372036854775807 < W.size + 1 + (bs (pathT path)).size + 1 := by omega
    have hz4 : ¬ 9223372036854775807 < W.size + 1 + (bs (pathT path)).size + 1 + (bs (Lib.decDigits n)).size := by omega
    clear HSc
    go_wp2_with fail
    refine (spec_l1Dec.calls kn n (bs (Lib.decDigits n)) _ HKN.out).mono ?_
    rintro e w3 ⟨rfl, hb3⟩
    have HB3 := Lib.hid (HBc.out.trans (hb3.mono HBc.out.size))
    clear hb3
    go_wp2
    go_ret
    refine ⟨congrArg (fun x => Ending.returned (Value.string x)) ?_, HB3.out⟩
    rw [hfin.out, HW.out]
    show bs _ ++ bs [32] ++ bs _ ++ bs [32] ++ bs _ = _
    simp only [bs_append, List.append_assoc]
    rfl
set_option maxRecDepth 100000 in
set_option maxHeartbeats 1000000 in
theorem sCallText_2ok (A1 A2 : Option Addr) (c1 c2 : Nat) (c : Call) (w : World) (h1 : Kd.C Kd.string w A1 c.path.length c.path) (hc1 : c.path.length ≤ c1) (h2 : Kd.C Kd.string w A2 c.dest.length c.dest) (hc2 : c.dest.length ≤ c2)
    (hok : isCallB c = true) (hk : c.kind = 2) (hn : 0 ≤ c.num ∧ c.num < 100) (hs1 : Small c.path) (hs2 : Small c.dest) (hd : c.data.size ≤ 24) :
    Calls Tryd.prog 14 #[.agg #[.int .i64 c.kind, .slice A1 c.path.length c1, .slice A2 c.dest.length c2, .int .i64 c.num, .string c.data]] w fun e w' => e = .returned (.string (bs (callT c))) ∧ Below w.heap.size w w' := by
  obtain ⟨kq, hkq⟩ := (l2CallOk_ev c hs1 hs2).rounds
  rw [hok] at hkq
  obtain ⟨kind, path, dest, num, data⟩ := c
  dsimp only at *
  subst hk
  obtain ⟨n, rfl⟩ := Int.eq_ofNat_of_zero_le hn.1
  have hfin := Lib.hid (show callT ⟨2, path, dest, n, data⟩ = [119, 114, 105, 116, 101] ++ 32 :: (pathT path ++ 32 :: (Lib.decDigits n ++ 32 :: hexL (bl data))) by simp [callT, hok, tailT, wordOf, WORDS, show ¬ 24 < data.size by omega])
  have hpath : isPath 1 path = true := by
    simp only [isCallB] at hok
    simp at hok
    exact hok.1
  have hzN : (Lib.decDigits n).length ≤ 2 := dd_small n (by omega)
  obtain ⟨kn, hkn⟩ := (l1Dec_ev n (by omega)).rounds
  have HKN := Lib.hid hkn
  have hzNb : (bs (Lib.decDigits n)).size ≤ 2 := by rw [bs_size]; exact hzN
  have hzX : (bs (hexL (bl data))).size ≤ 49 := by
    rw [bs_size]
    have := hexL_len (bl data)
    rw [bl_len] at this
    omega
  have HDD := Lib.hid hd
  have hdI : decide ((24 : Int) < (data.size : Int)) = false := by simp; omega
  have hps := isPath_small 1 path hpath
  obtain ⟨kp, hkp⟩ := (l3Name_ev path (Nat.le_trans hps.1 (by omega)) (Nat.le_trans hps.2.2.1 (by omega))).rounds
  have HKP := Lib.hid hkp
  have HQ := Lib.hid hkq
  have H1 := Lib.hid h1
  have H2 := Lib.hid h2
  have HC1 := Lib.hid hc1
  have HC2 := Lib.hid hc2
  have HPT := Lib.hid (pathT_le 1 path hpath)
  clear hkq h1 h2 hc1 hc2 hps hok hs1 hs2 hpath hkp hd hkn
  go_enter Tryd.func14, Tryd.ntmps14
  go_wp2_with fail
  refine (spec_l2CallOk.calls kq 2 A1 c1 path A2 c2 dest n data true _ ?_ HC1.out ?_ HC2.out HQ.out).mono ?_
  · exact Kd.C_below H1.out ((Below.refl _ _).alloc (Nat.le_refl _) _)
  · exact Kd.C_below H2.out ((Below.refl _ _).alloc (Nat.le_refl _) _)
  rintro e w1 ⟨rfl, hb1⟩
  have hbw1 : Below w.heap.size w w1 := ((Below.refl _ _).alloc (Nat.le_refl _) _).trans (hb1.mono (by simp))
  have q0 : w1.cell? ⟨w.heap.size, 0, none⟩ = some (.int .i64 2) := cell_of hb1 (by go_simp)
  have q1 : w1.cell? ⟨w.heap.size, 1, none⟩ = some (.slice A1 path.length c1) := cell_of hb1 (by go_simp)
  have q2 : w1.cell? ⟨w.heap.size, 2, none⟩ = some (.slice A2 dest.length c2) := cell_of hb1 (by go_simp)
  have q3 : w1.cell? ⟨w.heap.size, 3, none⟩ = some (.int .i64 n) := cell_of hb1 (by go_simp)
  have q5 : w1.cell? ⟨w.heap.size, 4, none⟩ = some (.string data) := cell_of hb1 (by go_simp)
  have hsz1 : w.heap.size < w1.heap.size := World.block_lt_of_cell? w1 _ q0
  have HR := Lib.hid (show Kd.C Kd.string w1 A1 path.length path from Kd.C_below H1.out hbw1)
  have HR2 := Lib.hid (show Kd.C Kd.string w1 A2 dest.length dest from Kd.C_below H2.out hbw1)
  have HB1 := Lib.hid hbw1
  clear hb1 hbw1 H1 H2
  have hzP : (bs (pathT path)).size ≤ 24 := by rw [bs_size]; exact HPT.out
  obtain ⟨W, hW⟩ : ∃ W, W = bs [119, 114, 105, 116, 101] := ⟨_, rfl⟩
  have hzW : W.size ≤ 10 := by rw [hW, bs_size]; decide
  have HW := Lib.hid hW
  have hz1 : ¬ 9223372036854775807 < W.size + 1 := by omega
  have hz2 : ¬ 9223372036854775807 < W.size + 1 + (bs (pathT path)).size := by omega
  have hww : ∀ u : World, (u.alloc (.cells wordsRow 9)).cell? ⟨u.heap.size, 2, none⟩ = some (.string W) := fun u => by rw [hW]; exact wordsRow_at 2 (by omega) u
  have HWW := Lib.hid hww
  clear hW hww
  go_wp2_with fail
  go_cut [3] from 4 (fun v3 wc => v3 = .string (W ++ ⟨#[32]⟩ ++ bs (pathT path)) ∧ Below w.heap.size w wc ∧ Below w1.heap.size w1 wc)
  case first =>
    refine start_ (n := 11) (S := fun w' => w'.cell? ⟨w.heap.size, 0, none⟩ = some (.int .i64 2) ∧ w'.cell? ⟨w.heap.size, 1, none⟩ = some (.slice A1 path.length c1)) (ds := []) #[false, false, false, false, false, false, false, false, false, false, false] (by kernel_rfl) rfl rfl ⟨q0, q1⟩ (fun hHeld => ?_)
    refine pure_ (i := 1) (N := (some 19)) (v := ?_) (a' := ?_) #[false, true, false, false, false, false, false, false, false, false, false] rfl rfl (by kernel_rfl) (fun _ _ _ h => h) (Or.inl ⟨by rfl, ?_⟩) ?_ ?_
    rotate_left
    · intro w'
      go_simp
      with_reducible rfl
    rotate_left
    · simp only [Act.put, List.setIfInBounds_toArray, List.set_cons_zero, List.set_cons_succ, i64_w, i32_w]
      rfl
    refine pure_ (i := 6) (N := (some 24)) (v := ?_) (a' := ?_) #[false, true, false, false, false, false, true, false, false, false, false] rfl rfl (by kernel_rfl) (fun _ _ _ h => h) (Or.inl ⟨by rfl, ?_⟩) ?_ ?_
    rotate_left
    · intro w'
      go_simp
      with_reducible rfl
    rotate_left
    · simp only [Act.put, List.setIfInBounds_toArray, List.set_cons_zero, List.set_cons_succ, i64_w, i32_w]
      rfl
    refine take_ (i := 2) (N := (some 20)) (v := ?_) (a' := ?_) #[false, true, true, false, false, false, true, false, false, false, false] rfl rfl (by kernel_rfl) (fun _ _ _ h => h) (Or.inl ⟨by rfl, ?_⟩) hHeld ?_ ?_
    rotate_left
    · rintro w' ⟨s0, s1⟩
      go_simp
      with_reducible rfl
    rotate_left
    · simp only [Act.put, List.setIfInBounds_toArray, List.set_cons_zero, List.set_cons_succ, i64_w, i32_w]
      rfl
    refine take_ (i := 7) (N := (some 25)) (v := ?_) (a' := ?_) #[false, true, true, false, false, false, true, true, false, false, false] rfl rfl (by kernel_rfl) (fun _ _ _ h => h) (Or.inl ⟨by rfl, ?_⟩) hHeld ?_ ?_
    rotate_left
    · rintro w' ⟨s0, s1⟩
      go_simp
      with_reducible rfl
    rotate_left
    · simp only [Act.put, List.setIfInBounds_toArray, List.set_cons_zero, List.set_cons_succ, i64_w, i32_w]
      rfl
    refine one_ (i := 0) (N := (some 18)) #[true, true, true, false, false, false, true, true, false, false, false] rfl rfl (by kernel_rfl) (by decide) (fun K hK => ?_)
    refine goes_ Tryd.func10 (by kernel_rfl) rfl #[] (by rfl) rfl rfl (by (try simp only [List.map_toArray, List.map_cons, List.map_nil]); first | done | rfl) ?_
    refine (l42Words_calls _).mono ?_
    rintro e w2 ⟨rfl, hw2⟩
    refine ⟨_, rfl, ?_⟩
    have hb2 : Below w1.heap.size w1 w2 := by rw [← hw2]; exact below_alloc (below_drew1 (Below.refl _ _)) _
    have hcw : w2.cell? ⟨w1.heap.size, 2, none⟩ = some (.string W) := by rw [← hw2]; exact HWW.out w1.drew
    clear hw2
    have HR' := Lib.hid (Kd.C_below HR.out hb2)
    have HB2 := Lib.hid hb2
    refine hK.out _ _ ⟨cell_of hb2 q0, cell_of hb2 q1⟩ (fun hHeld => ?_)
    clear hK K
    refine norm_ (a' := ?_) ?_ ?_
    rotate_left
    · show Act.put _ (some 18) _ = _
      simp only [Act.put, List.setIfInBounds_toArray, List.set_cons_zero, List.set_cons_succ, i64_w, i32_w]
      rfl
    refine pure_ (i := 3) (N := (some 21)) (v := ?_) (a' := ?_) #[true, true, true, true, false, false, true, true, false, false, false] rfl rfl (by kernel_rfl) (fun _ _ _ h => h) (Or.inl ⟨by rfl, ?_⟩) ?_ ?_
    rotate_left
    · intro w'
      go_simp
      with_reducible rfl
    rotate_left
    · simp only [Act.put, List.setIfInBounds_toArray, List.set_cons_zero, List.set_cons_succ, i64_w, i32_w]
      rfl
    refine two_ (i := 4) (j := 8) (Ni := (some 22)) (Nj := (some 26)) #[true, true, true, true, true, false, true, true, false, false, false] #[true, true, true, true, false, false, true, true, true, false, false] rfl rfl rfl rfl (by kernel_rfl) (by decide) (by decide) (fun K hK => ?_) (fun K hK => ?_)
    · skip
      refine value_ (w1 := ?_) (v := ?_) (by rfl) rfl ?_ ?_
      rotate_left 2
      · go_simp
        constructor
        · rfl
        · rfl
      refine hK.out _ _ hHeld (fun hHeld => ?_)
      clear hK K
      refine norm_ (a' := ?_) ?_ ?_
      rotate_left
      · show Act.put _ (some 22) _ = _
        simp only [Act.put, List.setIfInBounds_toArray, List.set_cons_zero, List.set_cons_succ, i64_w, i32_w]
        rfl
      refine pure_ (i := 5) (N := (some 23)) (v := ?_) (a' := ?_) #[true, true, true, true, true, true, true, true, false, false, false] rfl rfl (by kernel_rfl) (fun _ _ _ h => h) (Or.inl ⟨by rfl, ?_⟩) ?_ ?_
      rotate_left
      · intro w'
        go_simp
        with_reducible rfl
      rotate_left
      · simp only [Act.put, List.setIfInBounds_toArray, List.set_cons_zero, List.set_cons_succ, i64_w, i32_w]
        rfl
      refine one_ (i := 8) (N := (some 26)) #[true, true, true, true, true, true, true, true, true, false, false] rfl rfl (by kernel_rfl) (by decide) (fun K hK => ?_)
      refine goes_ Tryd.func28 (by kernel_rfl) rfl #[.slice A1 path.length c1] (by rfl) rfl rfl (by (try simp only [List.map_toArray, List.map_cons, List.map_nil]); first | done | rfl) ?_
      refine (spec_l3Name.calls kp A1 c1 path _ _ HR'.out HC1.out HKP.out).mono ?_
      rintro e w3 ⟨rfl, ⟨nd, rfl⟩⟩
      refine ⟨_, rfl, ?_⟩
      refine hK.out _ _ hHeld (fun hHeld => ?_)
      clear hK K
      refine norm_ (a' := ?_) ?_ ?_
      rotate_left
      · show Act.put _ (some 26) _ = _
        simp only [Act.put, List.setIfInBounds_toArray, List.set_cons_zero, List.set_cons_succ, i64_w, i32_w]
        rfl
      refine pure_ (i := 9) (N := (some 27)) (v := ?_) (a' := ?_) #[true, true, true, true, true, true, true, true, true, true, false] rfl rfl (by kernel_rfl) (fun _ _ _ h => h) (Or.inl ⟨by rfl, ?_⟩) ?_ ?_
      rotate_left
      · intro w'
        go_simp
        with_reducible rfl
      rotate_left
      · simp only [Act.put, List.setIfInBounds_toArray, List.set_cons_zero, List.set_cons_succ, i64_w, i32_w]
        rfl
      refine pure_ (i := 10) (N := (some 3)) (v := ?_) (a' := ?_) #[true, true, true, true, true, true, true, true, true, true, true] rfl rfl (by kernel_rfl) (fun _ _ _ h => h) (Or.inl ⟨by rfl, ?_⟩) ?_ ?_
      rotate_left
      · intro w'
        go_simp
        with_reducible rfl
      rotate_left
      · simp only [Act.put, List.setIfInBounds_toArray, List.set_cons_zero, List.set_cons_succ, i64_w, i32_w]
        rfl
      refine done_ (by kernel_rfl) ?_
      go_wp2
      go_meet
      case rel => exact ⟨rfl, HB1.out.trans ((pw_below_drewN HB2.out nd).mono (Nat.le_of_lt hsz1)), pw_below_drewN HB2.out nd⟩
    · skip
      refine goes_ Tryd.func28 (by kernel_rfl) rfl #[.slice A1 path.length c1] (by rfl) rfl rfl (by (try simp only [List.map_toArray, List.map_cons, List.map_nil]); first | done | rfl) ?_
      refine (spec_l3Name.calls kp A1 c1 path _ _ HR'.out HC1.out HKP.out).mono ?_
      rintro e w3 ⟨rfl, ⟨nd, rfl⟩⟩
      refine ⟨_, rfl, ?_⟩
      refine hK.out _ _ hHeld (fun hHeld => ?_)
      clear hK K
      refine norm_ (a' := ?_) ?_ ?_
      rotate_left
      · show Act.put _ (some 26) _ = _
        simp only [Act.put, List.setIfInBounds_toArray, List.set_cons_zero, List.set_cons_succ, i64_w, i32_w]
        rfl
      refine one_ (i := 4) (N := (some 22)) #[true, true, true, true, true, false, true, true, true, false, false] rfl rfl (by kernel_rfl) (by decide) (fun K hK => ?_)
      refine value_ (w1 := ?_) (v := ?_) (by rfl) rfl ?_ ?_
      rotate_left 2
      · go_simp
        constructor
        · rfl
        · rfl
      refine hK.out _ _ hHeld (fun hHeld => ?_)
      clear hK K
      refine norm_ (a' := ?_) ?_ ?_
      rotate_left
      · show Act.put _ (some 22) _ = _
        simp only [Act.put, List.setIfInBounds_toArray, List.set_cons_zero, List.set_cons_succ, i64_w, i32_w]
        rfl
      refine pure_ (i := 5) (N := (some 23)) (v := ?_) (a' := ?_) #[true, true, true, true, true, true, true, true, true, false, false] rfl rfl (by kernel_rfl) (fun _ _ _ h => h) (Or.inl ⟨by rfl, ?_⟩) ?_ ?_
      rotate_left
      · intro w'
        go_simp
        with_reducible rfl
      rotate_left
      · simp only [Act.put, List.setIfInBounds_toArray, List.set_cons_zero, List.set_cons_succ, i64_w, i32_w]
        rfl
      refine pure_ (i := 9) (N := (some 27)) (v := ?_) (a' := ?_) #[true, true, true, true, true, true, true, true, true, true, false] rfl rfl (by kernel_rfl) (fun _ _ _ h => h) (Or.inl ⟨by rfl, ?_⟩) ?_ ?_
      rotate_left
      · intro w'
        go_simp
        with_reducible rfl
      rotate_left
      · simp only [Act.put, List.setIfInBounds_toArray, List.set_cons_zero, List.set_cons_succ, i64_w, i32_w]
        rfl
      refine pure_ (i := 10) (N := (some 3)) (v := ?_) (a' := ?_) #[true, true, true, true, true, true, true, true, true, true, true] rfl rfl (by kernel_rfl) (fun _ _ _ h => h) (Or.inl ⟨by rfl, ?_⟩) ?_ ?_
      rotate_left
      · intro w'
        go_simp
        with_reducible rfl
      rotate_left
      · simp only [Act.put, List.setIfInBounds_toArray, List.set_cons_zero, List.set_cons_succ, i64_w, i32_w]
        rfl
      refine done_ (by kernel_rfl) ?_
      go_wp2
      go_meet
      case rel => exact ⟨rfl, HB1.out.trans ((pw_below_drewN HB2.out nd).mono (Nat.le_of_lt hsz1)), pw_below_drewN HB2.out nd⟩
  case rest =>
    obtain ⟨rfl, hbc, hb1c⟩ := hcut
    have r0 : wc.cell? ⟨w.heap.size, 0, none⟩ = some (.int .i64 2) := cell_of hb1c q0
    have r2 : wc.cell? ⟨w.heap.size, 2, none⟩ = some (.slice A2 dest.length c2) := cell_of hb1c q2
    have r3 : wc.cell? ⟨w.heap.size, 3, none⟩ = some (.int .i64 n) := cell_of hb1c q3
    have r5 : wc.cell? ⟨w.heap.size, 4, none⟩ = some (.string data) := cell_of hb1c q5
    have HSc := Lib.hid (show Kd.C Kd.string wc A2 dest.length dest from Kd.C_below HR2.out hb1c)
    have HBc := Lib.hid hbc
    clear HR HR2 HB1 hbc hb1c HWW q0 q1 q2 q3 q5 hsz1 HPT HKP HQ
    have hz3 : ¬ 9223372036854775807 < (W ++ ⟨#[32]⟩ ++ bs (pathT path)).size + 1 := by
      simp only [ByteArray.size_append]
      have : (⟨#[32]⟩ : ByteArray).size = 1 := rfl
      omega
    have hz3' : ¬ 9223372036854775807 < W.size + 1 + (bs (pathT path)).size + 1 := by omega
    have hz4 : ¬ 9223372036854775807 < W.size + 1 + (bs (pathT path)).size + 1 + (bs (Lib.decDigits n)).size := by omega
    have hz5 : ¬ 9223372036854775807 < W.size + 1 + (bs (pathT path)).size + 1 + (bs (Lib.decDigits n)).size + 1 := by omega
    have hz6 : ¬ 9223372036854775807 < W.size + 1 + (bs (pathT path)).size + 1 + (bs (Lib.decDigits n)).size + 1 + (bs (hexL (bl data))).size := by omega
    clear HSc
    go_wp2_with fail
    refine start_ (n := 12) (S := fun w' => w'.cell? ⟨w.heap.size, 3, none⟩ = some (.int .i64 n) ∧ w'.cell? ⟨w.heap.size, 4, none⟩ = some (.string data)) (ds := []) #[false, false, false, false, false, false, false, false, false, false, false, false] (by kernel_rfl) rfl rfl ⟨r3, r5⟩ (fun hHeld => ?_)
    refine pure_ (i := 0) (N := (some 42)) (v := ?_) (a' := ?_) #[true, false, false, false, false, false, false, false, false, false, false, false] rfl rfl (by kernel_rfl) (fun _ _ _ h => h) (Or.inl ⟨by rfl, ?_⟩) ?_ ?_
    rotate_left
    · intro w'
      go_simp
      with_reducible rfl
    rotate_left
    · simp only [Act.put, List.setIfInBounds_toArray, List.set_cons_zero, List.set_cons_succ, i64_w, i32_w]
      rfl
    refine pure_ (i := 1) (N := (some 43)) (v := ?_) (a' := ?_) #[true, true, false, false, false, false, false, false, false, false, false, false] rfl rfl (by kernel_rfl) (fun _ _ _ h => h) (Or.inl ⟨by rfl, ?_⟩) ?_ ?_
    rotate_left
    · intro w'
      go_simp
      with_reducible rfl
    rotate_left
    · simp only [Act.put, List.setIfInBounds_toArray, List.set_cons_zero, List.set_cons_succ, i64_w, i32_w]
      rfl
    refine pure_ (i := 2) (N := (some 44)) (v := ?_) (a' := ?_) #[true, true, true, false, false, false, false, false, false, false, false, false] rfl rfl (by kernel_rfl) (fun _ _ _ h => h) (Or.inl ⟨by rfl, ?_⟩) ?_ ?_
    rotate_left
    · intro w'
      go_simp
      with_reducible rfl
    rotate_left
    · simp only [Act.put, List.setIfInBounds_toArray, List.set_cons_zero, List.set_cons_succ, i64_w, i32_w]
      rfl
    refine pure_ (i := 7) (N := (some 49)) (v := ?_) (a' := ?_) #[true, true, true, false, false, false, false, true, false, false, false, false] rfl rfl (by kernel_rfl) (fun _ _ _ h => h) (Or.inl ⟨by rfl, ?_⟩) ?_ ?_
    rotate_left
    · intro w'
      go_simp
      with_reducible rfl
    rotate_left
    · simp only [Act.put, List.setIfInBounds_toArray, List.set_cons_zero, List.set_cons_succ, i64_w, i32_w]
      rfl
    refine take_ (i := 3) (N := (some 45)) (v := ?_) (a' := ?_) #[true, true, true, true, false, false, false, true, false, false, false, false] rfl rfl (by kernel_rfl) (fun _ _ _ h => h) (Or.inl ⟨by rfl, ?_⟩) hHeld ?_ ?_
    rotate_left
    · rintro w' ⟨s0, s1⟩
      go_simp
      with_reducible rfl
    rotate_left
    · simp only [Act.put, List.setIfInBounds_toArray, List.set_cons_zero, List.set_cons_succ, i64_w, i32_w]
      rfl
    refine take_ (i := 8) (N := (some 50)) (v := ?_) (a' := ?_) #[true, true, true, true, false, false, false, true, true, false, false, false] rfl rfl (by kernel_rfl) (fun _ _ _ h => h) (Or.inl ⟨by rfl, ?_⟩) hHeld ?_ ?_
    rotate_left
    · rintro w' ⟨s0, s1⟩
      go_simp
      with_reducible rfl
    rotate_left
    · simp only [Act.put, List.setIfInBounds_toArray, List.set_cons_zero, List.set_cons_succ, i64_w, i32_w]
      rfl
    refine one_ (i := 4) (N := (some 46)) #[true, true, true, true, true, false, false, true, true, false, false, false] rfl rfl (by kernel_rfl) (by decide) (fun K hK => ?_)
    refine goes_ Tryd.func29 (by kernel_rfl) rfl #[.int .i64 n] (by rfl) rfl rfl (by (try simp only [List.map_toArray, List.map_cons, List.map_nil]); first | done | rfl) ?_
    refine (spec_l1Dec.calls kn n (bs (Lib.decDigits n)) _ HKN.out).mono ?_
    rintro e w2 ⟨rfl, hb2⟩
    refine ⟨_, rfl, ?_⟩
    have HB2 := Lib.hid (show Below w.heap.size w w2 from (below_drew1 HBc.out).trans (hb2.mono (below_drew1 HBc.out).size))
    refine hK.out _ _ ⟨(cell_of hb2 hHeld.1), (cell_of hb2 hHeld.2)⟩ (fun hHeld => ?_)
    clear hK K
    refine norm_ (a' := ?_) ?_ ?_
    rotate_left
    · show Act.put _ (some 46) _ = _
      simp only [Act.put, List.setIfInBounds_toArray, List.set_cons_zero, List.set_cons_succ, i64_w, i32_w]
      rfl
    refine pure_ (i := 5) (N := (some 47)) (v := ?_) (a' := ?_) #[true, true, true, true, true, true, false, true, true, false, false, false] rfl rfl (by kernel_rfl) (fun _ _ _ h => h) (Or.inl ⟨by rfl, ?_⟩) ?_ ?_
    rotate_left
    · intro w'
      go_simp
      with_reducible rfl
    rotate_left
    · simp only [Act.put, List.setIfInBounds_toArray, List.set_cons_zero, List.set_cons_succ, i64_w, i32_w]
      rfl
    refine pure_ (i := 6) (N := (some 48)) (v := ?_) (a' := ?_) #[true, true, true, true, true, true, true, true, true, false, false, false] rfl rfl (by kernel_rfl) (fun _ _ _ h => h) (Or.inl ⟨by rfl, ?_⟩) ?_ ?_
    rotate_left
    · intro w'
      go_simp
      with_reducible rfl
    rotate_left
    · simp only [Act.put, List.setIfInBounds_toArray, List.set_cons_zero, List.set_cons_succ, i64_w, i32_w]
      rfl
    refine one_ (i := 9) (N := (some 51)) #[true, true, true, true, true, true, true, true, true, true, false, false] rfl rfl (by kernel_rfl) (by decide) (fun K hK => ?_)
    refine goes_ Tryd.func30 (by kernel_rfl) rfl #[.string data] (by rfl) rfl rfl (by (try simp only [List.map_toArray, List.map_cons, List.map_nil]); first | done | rfl) ?_
    refine (l1Hex_calls data _ (Nat.le_trans HDD.out (by omega))).mono ?_
    rintro e w3 ⟨rfl, ⟨nd, rfl⟩⟩
    refine ⟨_, rfl, ?_⟩
    have HB3 := Lib.hid (pw_below_drewN HB2.out nd)
    refine hK.out _ _ hHeld (fun hHeld => ?_)
    clear hK K
    refine norm_ (a' := ?_) ?_ ?_
    rotate_left
    · show Act.put _ (some 51) _ = _
      simp only [Act.put, List.setIfInBounds_toArray, List.set_cons_zero, List.set_cons_succ, i64_w, i32_w]
      rfl
    refine pure_ (i := 10) (N := (some 52)) (v := ?_) (a' := ?_) #[true, true, true, true, true, true, true, true, true, true, true, false] rfl rfl (by kernel_rfl) (fun _ _ _ h => h) (Or.inl ⟨by rfl, ?_⟩) ?_ ?_
    rotate_left
    · intro w'
      go_simp
      with_reducible rfl
    rotate_left
    · simp only [Act.put, List.setIfInBounds_toArray, List.set_cons_zero, List.set_cons_succ, i64_w, i32_w]
      rfl
    refine pure_ (i := 11) (N := (some 2)) (v := ?_) (a' := ?_) #[true, true, true, true, true, true, true, true, true, true, true, true] rfl rfl (by kernel_rfl) (fun _ _ _ h => h) (Or.inl ⟨by rfl, ?_⟩) ?_ ?_
    rotate_left
    · intro w'
      go_simp
      with_reducible rfl
    rotate_left
    · simp only [Act.put, List.setIfInBounds_toArray, List.set_cons_zero, List.set_cons_succ, i64_w, i32_w]
      rfl
    refine done_ (by kernel_rfl) ?_
    skip
    go_wp2
    go_ret
    refine ⟨congrArg (fun x => Ending.returned (Value.string x)) ?_, HB3.out⟩
    rw [hfin.out, HW.out]
    show bs _ ++ bs [32] ++ bs _ ++ bs [32] ++ bs _ ++ bs [32] ++ bs _ = _
    simp only [bs_append, List.append_assoc]
    rfl
set_option maxRecDepth 100000 in
set_option maxHeartbeats 1000000 in
theorem sCallText_2big (A1 A2 : Option Addr) (c1 c2 : Nat) (c : Call) (w : World) (h1 : Kd.C Kd.string w A1 c.path.length c.path) (hc1 : c.path.length ≤ c1) (h2 : Kd.C Kd.string w A2 c.dest.length c.dest) (hc2 : c.dest.length ≤ c2)
    (hok : isCallB c = true) (hk : c.kind = 2) (hn : 0 ≤ c.num ∧ c.num < 100) (hs1 : Small c.path) (hs2 : Small c.dest) (hd : 24 < c.data.size) :
    Calls Tryd.prog 14 #[.agg #[.int .i64 c.kind, .slice A1 c.path.length c1, .slice A2 c.dest.length c2, .int .i64 c.num, .string c.data]] w fun e w' => e = .returned (.string (bs (callT c))) ∧ Below w.heap.size w w' := by
  obtain ⟨kq, hkq⟩ := (l2CallOk_ev c hs1 hs2).rounds
  rw [hok] at hkq
  obtain ⟨kind, path, dest, num, data⟩ := c
  dsimp only at *
  subst hk
  obtain ⟨n, rfl⟩ := Int.eq_ofNat_of_zero_le hn.1
  have hfin := Lib.hid (show callT ⟨2, path, dest, n, data⟩ = [] by simp [callT, hd])
  have hpath : isPath 1 path = true := by
    simp only [isCallB] at hok
    simp at hok
    exact hok.1
  have hzN : (Lib.decDigits n).length ≤ 2 := dd_small n (by omega)
  obtain ⟨kn, hkn⟩ := (l1Dec_ev n (by omega)).rounds
  have HKN := Lib.hid hkn
  have hzNb : (bs (Lib.decDigits n)).size ≤ 2 := by rw [bs_size]; exact hzN
  have hdI : decide ((24 : Int) < (data.size : Int)) = true := by simp; omega
  have hps := isPath_small 1 path hpath
  obtain ⟨kp, hkp⟩ := (l3Name_ev path (Nat.le_trans hps.1 (by omega)) (Nat.le_trans hps.2.2.1 (by omega))).rounds
  have HKP := Lib.hid hkp
  have HQ := Lib.hid hkq
  have H1 := Lib.hid h1
  have H2 := Lib.hid h2
  have HC1 := Lib.hid hc1
  have HC2 := Lib.hid hc2
  have HPT := Lib.hid (pathT_le 1 path hpath)
  clear hkq h1 h2 hc1 hc2 hps hok hs1 hs2 hpath hkp hd hkn
  go_enter Tryd.func14, Tryd.ntmps14
  go_wp2_with fail
  refine (spec_l2CallOk.calls kq 2 A1 c1 path A2 c2 dest n data true _ ?_ HC1.out ?_ HC2.out HQ.out).mono ?_
  · exact Kd.C_below H1.out ((Below.refl _ _).alloc (Nat.le_refl _) _)
  · exact Kd.C_below H2.out ((Below.refl _ _).alloc (Nat.le_refl _) _)
  rintro e w1 ⟨rfl, hb1⟩
  have hbw1 : Below w.heap.size w w1 := ((Below.refl _ _).alloc (Nat.le_refl _) _).trans (hb1.mono (by simp))
  have q0 : w1.cell? ⟨w.heap.size, 0, none⟩ = some (.int .i64 2) := cell_of hb1 (by go_simp)
  have q1 : w1.cell? ⟨w.heap.size, 1, none⟩ = some (.slice A1 path.length c1) := cell_of hb1 (by go_simp)
  have q2 : w1.cell? ⟨w.heap.size, 2, none⟩ = some (.slice A2 dest.length c2) := cell_of hb1 (by go_simp)
  have q3 : w1.cell? ⟨w.heap.size, 3, none⟩ = some (.int .i64 n) := cell_of hb1 (by go_simp)
  have q5 : w1.cell? ⟨w.heap.size, 4, none⟩ = some (.string data) := cell_of hb1 (by go_simp)
  have hsz1 : w.heap.size < w1.heap.size := World.block_lt_of_cell? w1 _ q0
  have HR := Lib.hid (show Kd.C Kd.string w1 A1 path.length path from Kd.C_below H1.out hbw1)
  have HR2 := Lib.hid (show Kd.C Kd.string w1 A2 dest.length dest from Kd.C_below H2.out hbw1)
  have HB1 := Lib.hid hbw1
  clear hb1 hbw1 H1 H2
  go_wp2
  go_ret
  exact ⟨by rw [hfin.out]; rfl, HB1.out⟩
set_option maxRecDepth 100000 in
set_option maxHeartbeats 1000000 in
theorem sCallText_3 (A1 A2 : Option Addr) (c1 c2 : Nat) (c : Call) (w : World) (h1 : Kd.C Kd.string w A1 c.path.length c.path) (hc1 : c.path.length ≤ c1) (h2 : Kd.C Kd.string w A2 c.dest.length c.dest) (hc2 : c.dest.length ≤ c2)
    (hok : isCallB c = true) (hk : c.kind = 3) (hn : 0 ≤ c.num ∧ c.num < 100) (hs1 : Small c.path) (hs2 : Small c.dest) :
    Calls Tryd.prog 14 #[.agg #[.int .i64 c.kind, .slice A1 c.path.length c1, .slice A2 c.dest.length c2, .int .i64 c.num, .string c.data]] w fun e w' => e = .returned (.string (bs (callT c))) ∧ Below w.heap.size w w' := by
  obtain ⟨kq, hkq⟩ := (l2CallOk_ev c hs1 hs2).rounds
  rw [hok] at hkq
  obtain ⟨kind, path, dest, num, data⟩ := c
  dsimp only at *
  subst hk
  obtain ⟨n, rfl⟩ := Int.eq_ofNat_of_zero_le hn.1
  have hfin := Lib.hid (show callT ⟨3, path, dest, n, data⟩ = [116, 114, 117, 110, 99, 97, 116, 101] ++ 32 :: (pathT path ++ 32 :: Lib.decDigits n) by simp [callT, hok, tailT, wordOf, WORDS])
  have hpath : isPath 1 path = true := by
    simp only [isCallB] at hok
    simp at hok
    exact hok.1
  have hzN : (Lib.decDigits n).length ≤ 2 := dd_small n (by omega)
  obtain ⟨kn, hkn⟩ := (l1Dec_ev n (by omega)).rounds
  have HKN := Lib.hid hkn
  have hzNb : (bs (Lib.decDigits n)).size ≤ 2 := by rw [bs_size]; exact hzN
  have hps := isPath_small 1 path hpath
  obtain ⟨kp, hkp⟩ := (l3Name_ev path (Nat.le_trans hps.1 (by omega)) (Nat.le_trans hps.2.2.1 (by omega))).rounds
  have HKP := Lib.hid hkp
  have HQ := Lib.hid hkq
  have H1 := Lib.hid h1
  have H2 := Lib.hid h2
  have HC1 := Lib.hid hc1
  have HC2 := Lib.hid hc2
  have HPT := Lib.hid (pathT_le 1 path hpath)
  clear hkq h1 h2 hc1 hc2 hps hok hs1 hs2 hpath hkp hkn
  go_enter Tryd.func14, Tryd.ntmps14
  go_wp2_with fail
  refine (spec_l2CallOk.calls kq 3 A1 c1 path A2 c2 dest n data true _ ?_ HC1.out ?_ HC2.out HQ.out).mono ?_
  · exact Kd.C_below H1.out ((Below.refl _ _).alloc (Nat.le_refl _) _)
  · exact Kd.C_below H2.out ((Below.refl _ _).alloc (Nat.le_refl _) _)
  rintro e w1 ⟨rfl, hb1⟩
  have hbw1 : Below w.heap.size w w1 := ((Below.refl _ _).alloc (Nat.le_refl _) _).trans (hb1.mono (by simp))
  have q0 : w1.cell? ⟨w.heap.size, 0, none⟩ = some (.int .i64 3) := cell_of hb1 (by go_simp)
  have q1 : w1.cell? ⟨w.heap.size, 1, none⟩ = some (.slice A1 path.length c1) := cell_of hb1 (by go_simp)
  have q2 : w1.cell? ⟨w.heap.size, 2, none⟩ = some (.slice A2 dest.length c2) := cell_of hb1 (by go_simp)
  have q3 : w1.cell? ⟨w.heap.size, 3, none⟩ = some (.int .i64 n) := cell_of hb1 (by go_simp)
  have q5 : w1.cell? ⟨w.heap.size, 4, none⟩ = some (.string data) := cell_of hb1 (by go_simp)
  have hsz1 : w.heap.size < w1.heap.size := World.block_lt_of_cell? w1 _ q0
  have HR := Lib.hid (show Kd.C Kd.string w1 A1 path.length path from Kd.C_below H1.out hbw1)
  have HR2 := Lib.hid (show Kd.C Kd.string w1 A2 dest.length dest from Kd.C_below H2.out hbw1)
  have HB1 := Lib.hid hbw1
  clear hb1 hbw1 H1 H2
  have hzP : (bs (pathT path)).size ≤ 24 := by rw [bs_size]; exact HPT.out
  obtain ⟨W, hW⟩ : ∃ W, W = bs [116, 114, 117, 110, 99, 97, 116, 101] := ⟨_, rfl⟩
  have hzW : W.size ≤ 10 := by rw [hW, bs_size]; decide
  have HW := Lib.hid hW
  have hz1 : ¬ 9223372036854775807 < W.size + 1 := by omega
  have hz2 : ¬ 9223372036854775807 < W.size + 1 + (bs (pathT path)).size := by omega
  have hww : ∀ u : World, (u.alloc (.cells wordsRow 9)).cell? ⟨u.heap.size, 3, none⟩ = some (.string W) := fun u => by rw [hW]; exact wordsRow_at 3 (by omega) u
  have HWW := Lib.hid hww
  clear hW hww
  go_wp2_with fail
  go_cut [3] from 4 (fun v3 wc => v3 = .string (W ++ ⟨#[32]⟩ ++ bs (pathT path)) ∧ Below w.heap.size w wc ∧ Below w1.heap.size w1 wc)
  case first =>
    refine start_ (n := 11) (S := fun w' => w'.cell? ⟨w.heap.size, 0, none⟩ = some (.int .i64 3) ∧ w'.cell? ⟨w.heap.size, 1, none⟩ = some (.slice A1 path.length c1)) (ds := []) #[false, false, false, false, false, false, false, false, false, false, false] (by kernel_rfl) rfl rfl ⟨q0, q1⟩ (fun hHeld => ?_)
    refine pure_ (i := 1) (N := (some 19)) (v := ?_) (a' := ?_) #[false, true, false, false, false, false, false, false, false, false, false] rfl rfl (by kernel_rfl) (fun _ _ _ h => h) (Or.inl ⟨by rfl, ?_⟩) ?_ ?_
    rotate_left
    · intro w'
      go_simp
      with_reducible rfl
    rotate_left
    · simp only [Act.put, List.setIfInBounds_toArray, List.set_cons_zero, List.set_cons_succ, i64_w, i32_w]
      rfl
    refine pure_ (i := 6) (N := (some 24)) (v := ?_) (a' := ?_) #[false, true, false, false, false, false, true, false, false, false, false] rfl rfl (by kernel_rfl) (fun _ _ _ h => h) (Or.inl ⟨by rfl, ?_⟩) ?_ ?_
    rotate_left
    · intro w'
      go_simp
      with_reducible rfl
    rotate_left
    · simp only [Act.put, List.setIfInBounds_toArray, List.set_cons_zero, List.set_cons_succ, i64_w, i32_w]
      rfl
    refine take_ (i := 2) (N := (some 20)) (v := ?_) (a' := ?_) #[false, true, true, false, false, false, true, false, false, false, false] rfl rfl (by kernel_rfl) (fun _ _ _ h => h) (Or.inl ⟨by rfl, ?_⟩) hHeld ?_ ?_
    rotate_left
    · rintro w' ⟨s0, s1⟩
      go_simp
      with_reducible rfl
    rotate_left
    · simp only [Act.put, List.setIfInBounds_toArray, List.set_cons_zero, List.set_cons_succ, i64_w, i32_w]
      rfl
    refine take_ (i := 7) (N := (some 25)) (v := ?_) (a' := ?_) #[false, true, true, false, false, false, true, true, false, false, false] rfl rfl (by kernel_rfl) (fun _ _ _ h => h) (Or.inl ⟨by rfl, ?_⟩) hHeld ?_ ?_
    rotate_left
    · rintro w' ⟨s0, s1⟩
      go_simp
      with_reducible rfl
    rotate_left
    · simp only [Act.put, List.setIfInBounds_toArray, List.set_cons_zero, List.set_cons_succ, i64_w, i32_w]
      rfl
    refine one_ (i := 0) (N := (some 18)) #[true, true, true, false, false, false, true, true, false, false, false] rfl rfl (by kernel_rfl) (by decide) (fun K hK => ?_)
    refine goes_ Tryd.func10 (by kernel_rfl) rfl #[] (by rfl) rfl rfl (by (try simp only [List.map_toArray, List.map_cons, List.map_nil]); first | done | rfl) ?_
    refine (l42Words_calls _).mono ?_
    rintro e w2 ⟨rfl, hw2⟩
    refine ⟨_, rfl, ?_⟩
    have hb2 : Below w1.heap.size w1 w2 := by rw [← hw2]; exact below_alloc (below_drew1 (Below.refl _ _)) _
    have hcw : w2.cell? ⟨w1.heap.size, 3, none⟩ = some (.string W) := by rw [← hw2]; exact HWW.out w1.drew
    clear hw2
    have HR' := Lib.hid (Kd.C_below HR.out hb2)
    have HB2 := Lib.hid hb2
    refine hK.out _ _ ⟨cell_of hb2 q0, cell_of hb2 q1⟩ (fun hHeld => ?_)
    clear hK K
    refine norm_ (a' := ?_) ?_ ?_
    rotate_left
    · show Act.put _ (some 18) _ = _
      simp only [Act.put, List.setIfInBounds_toArray, List.set_cons_zero, List.set_cons_succ, i64_w, i32_w]
      rfl
    refine pure_ (i := 3) (N := (some 21)) (v := ?_) (a' := ?_) #[true, true, true, true, false, false, true, true, false, false, false] rfl rfl (by kernel_rfl) (fun _ _ _ h => h) (Or.inl ⟨by rfl, ?_⟩) ?_ ?_
    rotate_left
    · intro w'
      go_simp
      with_reducible rfl
    rotate_left
    · simp only [Act.put, List.setIfInBounds_toArray, List.set_cons_zero, List.set_cons_succ, i64_w, i32_w]
      rfl
    refine two_ (i := 4) (j := 8) (Ni := (some 22)) (Nj := (some 26)) #[true, true, true, true, true, false, true, true, false, false, false] #[true, true, true, true, false, false, true, true, true, false, false] rfl rfl rfl rfl (by kernel_rfl) (by decide) (by decide) (fun K hK => ?_) (fun K hK => ?_)
    · skip
      refine value_ (w1 := ?_) (v := ?_) (by rfl) rfl ?_ ?_
      rotate_left 2
      · go_simp
        constructor
        · rfl
        · rfl
      refine hK.out _ _ hHeld (fun hHeld => ?_)
      clear hK K
      refine norm_ (a' := ?_) ?_ ?_
      rotate_left
      · show Act.put _ (some 22) _ = _
        simp only [Act.put, List.setIfInBounds_toArray, List.set_cons_zero, List.set_cons_succ, i64_w, i32_w]
        rfl
      refine pure_ (i := 5) (N := (some 23)) (v := ?_) (a' := ?_) #[true, true, true, true, true, true, true, true, false, false, false] rfl rfl (by kernel_rfl) (fun _ _ _ h => h) (Or.inl ⟨by rfl, ?_⟩) ?_ ?_
      rotate_left
      · intro w'
        go_simp
        with_reducible rfl
      rotate_left
      · simp only [Act.put, List.setIfInBounds_toArray, List.set_cons_zero, List.set_cons_succ, i64_w, i32_w]
        rfl
      refine one_ (i := 8) (N := (some 26)) #[true, true, true, true, true, true, true, true, true, false, false] rfl rfl (by kernel_rfl) (by decide) (fun K hK => ?_)
      refine goes_ Tryd.func28 (by kernel_rfl) rfl #[.slice A1 path.length c1] (by rfl) rfl rfl (by (try simp only [List.map_toArray, List.map_cons, List.map_nil]); first | done | rfl) ?_
      refine (spec_l3Name.calls kp A1 c1 path _ _ HR'.out HC1.out HKP.out).mono ?_
      rintro e w3 ⟨rfl, ⟨nd, rfl⟩⟩
      refine ⟨_, rfl, ?_⟩
      refine hK.out _ _ hHeld (fun hHeld => ?_)
      clear hK K
      refine norm_ (a' := ?_) ?_ ?_
      rotate_left
      · show Act.put _ (some 26) _ = _
        simp only [Act.put, List.setIfInBounds_toArray, List.set_cons_zero, List.set_cons_succ, i64_w, i32_w]
        rfl
      refine pure_ (i := 9) (N := (some 27)) (v := ?_) (a' := ?_) #[true, true, true, true, true, true, true, true, true, true, false] rfl rfl (by kernel_rfl) (fun _ _ _ h => h) (Or.inl ⟨by rfl, ?_⟩) ?_ ?_
      rotate_left
      · intro w'
        go_simp
        with_reducible rfl
      rotate_left
      · simp only [Act.put, List.setIfInBounds_toArray, List.set_cons_zero, List.set_cons_succ, i64_w, i32_w]
        rfl
      refine pure_ (i := 10) (N := (some 3)) (v := ?_) (a' := ?_) #[true, true, true, true, true, true, true, true, true, true, true] rfl rfl (by kernel_rfl) (fun _ _ _ h => h) (Or.inl ⟨by rfl, ?_⟩) ?_ ?_
      rotate_left
      · intro w'
        go_simp
        with_reducible rfl
      rotate_left
      · simp only [Act.put, List.setIfInBounds_toArray, List.set_cons_zero, List.set_cons_succ, i64_w, i32_w]
        rfl
      refine done_ (by kernel_rfl) ?_
      go_wp2
      go_meet
      case rel => exact ⟨rfl, HB1.out.trans ((pw_below_drewN HB2.out nd).mono (Nat.le_of_lt hsz1)), pw_below_drewN HB2.out nd⟩
    · skip
      refine goes_ Tryd.func28 (by kernel_rfl) rfl #[.slice A1 path.length c1] (by rfl) rfl rfl (by (try simp only [List.map_toArray, List.map_cons, List.map_nil]); first | done | rfl) ?_
      refine (spec_l3Name.calls kp A1 c1 path _ _ HR'.out HC1.out HKP.out).mono ?_
      rintro e w3 ⟨rfl, ⟨nd, rfl⟩⟩
      refine ⟨_, rfl, ?_⟩
      refine hK.out _ _ hHeld (fun hHeld => ?_)
      clear hK K
      refine norm_ (a' := ?_) ?_ ?_
      rotate_left
      · show Act.put _ (some 26) _ = _
        simp only [Act.put, List.setIfInBounds_toArray, List.set_cons_zero, List.set_cons_succ, i64_w, i32_w]
        rfl
      refine one_ (i := 4) (N := (some 22)) #[true, true, true, true, true, false, true, true, true, false, false] rfl rfl (by kernel_rfl) (by decide) (fun K hK => ?_)
      refine value_ (w1 := ?_) (v := ?_) (by rfl) rfl ?_ ?_
      rotate_left 2
      · go_simp
        constructor
        · rfl
        · rfl
      refine hK.out _ _ hHeld (fun hHeld => ?_)
      clear hK K
      refine norm_ (a' := ?_) ?_ ?_
      rotate_left
      · show Act.put _ (some 22) _ = _
        simp only [Act.put, List.setIfInBounds_toArray, List.set_cons_zero, List.set_cons_succ, i64_w, i32_w]
        rfl
      refine pure_ (i := 5) (N := (some 23)) (v := ?_) (a' := ?_) #[true, true, true, true, true, true, true, true, true, false, false] rfl rfl (by kernel_rfl) (fun _ _ _ h => h) (Or.inl ⟨by rfl, ?_⟩) ?_ ?_
      rotate_left
      · intro w'
        go_simp
        with_reducible rfl
      rotate_left
      · simp only [Act.put, List.setIfInBounds_toArray, List.set_cons_zero, List.set_cons_succ, i64_w, i32_w]
        rfl
      refine pure_ (i := 9) (N := (some 27)) (v := ?_) (a' := ?_) #[true, true, true, true, true, true, true, true, true, true, false] rfl rfl (by kernel_rfl) (fun _ _ _ h => h) (Or.inl ⟨by rfl, ?_⟩) ?_ ?_
      rotate_left
      · intro w'
        go_simp
        with_reducible rfl
      rotate_left
      · simp only [Act.put, List.setIfInBounds_toArray, List.set_cons_zero, List.set_cons_succ, i64_w, i32_w]
        rfl
      refine pure_ (i := 10) (N := (some 3)) (v := ?_) (a' := ?_) #[true, true, true, true, true, true, true, true, true, true, true] rfl rfl (by kernel_rfl) (fun _ _ _ h => h) (Or.inl ⟨by rfl, ?_⟩) ?_ ?_
      rotate_left
      · intro w'
        go_simp
        with_reducible rfl
      rotate_left
      · simp only [Act.put, List.setIfInBounds_toArray, List.set_cons_zero, List.set_cons_succ, i64_w, i32_w]
        rfl
      refine done_ (by kernel_rfl) ?_
      go_wp2
      go_meet
      case rel => exact ⟨rfl, HB1.out.trans ((pw_below_drewN HB2.out nd).mono (Nat.le_of_lt hsz1)), pw_below_drewN HB2.out nd⟩
  case rest =>
    obtain ⟨rfl, hbc, hb1c⟩ := hcut
    have r0 : wc.cell? ⟨w.heap.size, 0, none⟩ = some (.int .i64 3) := cell_of hb1c q0
    have r2 : wc.cell? ⟨w.heap.size, 2, none⟩ = some (.slice A2 dest.length c2) := cell_of hb1c q2
    have r3 : wc.cell? ⟨w.heap.size, 3, none⟩ = some (.int .i64 n) := cell_of hb1c q3
    have r5 : wc.cell? ⟨w.heap.size, 4, none⟩ = some (.string data) := cell_of hb1c q5
    have HSc := Lib.hid (show Kd.C Kd.string wc A2 dest.length dest from Kd.C_below HR2.out hb1c)
    have HBc := Lib.hid hbc
    clear HR HR2 HB1 hbc hb1c HWW q0 q1 q2 q3 q5 hsz1 HPT HKP HQ
    have hz3 : ¬ 9223372036854775807 < (W ++ ⟨#[32]⟩ ++ bs (pathT path)).size + 1 := by
      simp only [ByteArray.size_append]
      have : (⟨#[32]⟩ : ByteArray).size = 1 := rfl
      omega
    have hz3' : ¬ 9223372036854775807 < W.size + 1 + (bs (pathT path)).size + 1 := by omega
    have hz4 : ¬ 9223372036854775807 < W.size + 1 + (bs (pathT path)).size + 1 + (bs (Lib.decDigits n)).size := by omega
    clear HSc
    go_wp2_with fail
    refine (spec_l1Dec.calls kn n (bs (Lib.decDigits n)) _ HKN.out).mono ?_
    rintro e w3 ⟨rfl, hb3⟩
    have HB3 := Lib.hid (HBc.out.trans (hb3.mono HBc.out.size))
    clear hb3
    go_wp2
    go_ret
    refine ⟨congrArg (fun x => Ending.returned (Value.string x)) ?_, HB3.out⟩
    rw [hfin.out, HW.out]
    show bs _ ++ bs [32] ++ bs _ ++ bs [32] ++ bs _ = _
    simp only [bs_append, List.append_assoc]
    rfl
set_option maxRecDepth 100000 in
set_option maxHeartbeats 1000000 in
theorem sCallText_4 (A1 A2 : Option Addr) (c1 c2 : Nat) (c : Call) (w : World) (h1 : Kd.C Kd.string w A1 c.path.length c.path) (hc1 : c.path.length ≤ c1) (h2 : Kd.C Kd.string w A2 c.dest.length c.dest) (hc2 : c.dest.length ≤ c2)
    (hok : isCallB c = true) (hk : c.kind = 4) (hn : 0 ≤ c.num ∧ c.num < 100) (hs1 : Small c.path) (hs2 : Small c.dest) :
    Calls Tryd.prog 14 #[.agg #[.int .i64 c.kind, .slice A1 c.path.length c1, .slice A2 c.dest.length c2, .int .i64 c.num, .string c.data]] w fun e w' => e = .returned (.string (bs (callT c))) ∧ Below w.heap.size w w' := by
  obtain ⟨kq, hkq⟩ := (l2CallOk_ev c hs1 hs2).rounds
  rw [hok] at hkq
  obtain ⟨kind, path, dest, num, data⟩ := c
  dsimp only at *
  subst hk
  obtain ⟨n, rfl⟩ := Int.eq_ofNat_of_zero_le hn.1
  have hfin := Lib.hid (show callT ⟨4, path, dest, n, data⟩ = [114, 101, 109, 111, 118, 101] ++ 32 :: pathT path by simp [callT, hok, tailT, wordOf, WORDS])
  have hpath : isPath 1 path = true := by simpa [isCallB] using hok
  have hps := isPath_small 1 path hpath
  obtain ⟨kp, hkp⟩ := (l3Name_ev path (Nat.le_trans hps.1 (by omega)) (Nat.le_trans hps.2.2.1 (by omega))).rounds
  have HKP := Lib.hid hkp
  have HQ := Lib.hid hkq
  have H1 := Lib.hid h1
  have H2 := Lib.hid h2
  have HC1 := Lib.hid hc1
  have HC2 := Lib.hid hc2
  have HPT := Lib.hid (pathT_le 1 path hpath)
  clear hkq h1 h2 hc1 hc2 hps hok hs1 hs2 hpath hkp
  go_enter Tryd.func14, Tryd.ntmps14
  go_wp2_with fail
  refine (spec_l2CallOk.calls kq 4 A1 c1 path A2 c2 dest n data true _ ?_ HC1.out ?_ HC2.out HQ.out).mono ?_
  · exact Kd.C_below H1.out ((Below.refl _ _).alloc (Nat.le_refl _) _)
  · exact Kd.C_below H2.out ((Below.refl _ _).alloc (Nat.le_refl _) _)
  rintro e w1 ⟨rfl, hb1⟩
  have hbw1 : Below w.heap.size w w1 := ((Below.refl _ _).alloc (Nat.le_refl _) _).trans (hb1.mono (by simp))
  have q0 : w1.cell? ⟨w.heap.size, 0, none⟩ = some (.int .i64 4) := cell_of hb1 (by go_simp)
  have q1 : w1.cell? ⟨w.heap.size, 1, none⟩ = some (.slice A1 path.length c1) := cell_of hb1 (by go_simp)
  have q2 : w1.cell? ⟨w.heap.size, 2, none⟩ = some (.slice A2 dest.length c2) := cell_of hb1 (by go_simp)
  have q3 : w1.cell? ⟨w.heap.size, 3, none⟩ = some (.int .i64 n) := cell_of hb1 (by go_simp)
  have q5 : w1.cell? ⟨w.heap.size, 4, none⟩ = some (.string data) := cell_of hb1 (by go_simp)
  have hsz1 : w.heap.size < w1.heap.size := World.block_lt_of_cell? w1 _ q0
  have HR := Lib.hid (show Kd.C Kd.string w1 A1 path.length path from Kd.C_below H1.out hbw1)
  have HR2 := Lib.hid (show Kd.C Kd.string w1 A2 dest.length dest from Kd.C_below H2.out hbw1)
  have HB1 := Lib.hid hbw1
  clear hb1 hbw1 H1 H2
  have hzP : (bs (pathT path)).size ≤ 24 := by rw [bs_size]; exact HPT.out
  obtain ⟨W, hW⟩ : ∃ W, W = bs [114, 101, 109, 111, 118, 101] := ⟨_, rfl⟩
  have hzW : W.size ≤ 10 := by rw [hW, bs_size]; decide
  have HW := Lib.hid hW
  have hz1 : ¬ 9223372036854775807 < W.size + 1 := by omega
  have hz2 : ¬ 9223372036854775807 < W.size + 1 + (bs (pathT path)).size := by omega
  have hww : ∀ u : World, (u.alloc (.cells wordsRow 9)).cell? ⟨u.heap.size, 4, none⟩ = some (.string W) := fun u => by rw [hW]; exact wordsRow_at 4 (by omega) u
  have HWW := Lib.hid hww
  clear hW hww
  go_wp2_with fail
  go_cut [3] from 4 (fun v3 wc => v3 = .string (W ++ ⟨#[32]⟩ ++ bs (pathT path)) ∧ Below w.heap.size w wc ∧ Below w1.heap.size w1 wc)
  case first =>
    refine start_ (n := 11) (S := fun w' => w'.cell? ⟨w.heap.size, 0, none⟩ = some (.int .i64 4) ∧ w'.cell? ⟨w.heap.size, 1, none⟩ = some (.slice A1 path.length c1)) (ds := []) #[false, false, false, false, false, false, false, false, false, false, false] (by kernel_rfl) rfl rfl ⟨q0, q1⟩ (fun hHeld => ?_)
    refine pure_ (i := 1) (N := (some 19)) (v := ?_) (a' := ?_) #[false, true, false, false, false, false, false, false, false, false, false] rfl rfl (by kernel_rfl) (fun _ _ _ h => h) (Or.inl ⟨by rfl, ?_⟩) ?_ ?_
    rotate_left
    · intro w'
      go_simp
      with_reducible rfl
    rotate_left
    · simp only [Act.put, List.setIfInBounds_toArray, List.set_cons_zero, List.set_cons_succ, i64_w, i32_w]
      rfl
    refine pure_ (i := 6) (N := (some 24)) (v := ?_) (a' := ?_) #[false, true, false, false, false, false, true, false, false, false, false] rfl rfl (by kernel_rfl) (fun _ _ _ h => h) (Or.inl ⟨by rfl, ?_⟩) ?_ ?_
    rotate_left
    · intro w'
      go_simp
      with_reducible rfl
    rotate_left
    · simp only [Act.put, List.setIfInBounds_toArray, List.set_cons_zero, List.set_cons_succ, i64_w, i32_w]
      rfl
    refine take_ (i := 2) (N := (some 20)) (v := ?_) (a' := ?_) #[false, true, true, false, false, false, true, false, false, false, false] rfl rfl (by kernel_rfl) (fun _ _ _ h => h) (Or.inl ⟨by rfl, ?_⟩) hHeld ?_ ?_
    rotate_left
    · rintro w' ⟨s0, s1⟩
      go_simp
      with_reducible rfl
    rotate_left
    · simp only [Act.put, List.setIfInBounds_toArray, List.set_cons_zero, List.set_cons_succ, i64_w, i32_w]
      rfl
    refine take_ (i := 7) (N := (some 25)) (v := ?_) (a' := ?_) #[false, true, true, false, false, false, true, true, false, false, false] rfl rfl (by kernel_rfl) (fun _ _ _ h => h) (Or.inl ⟨by rfl, ?_⟩) hHeld ?_ ?_
    rotate_left
    · rintro w' ⟨s0, s1⟩
      go_simp
      with_reducible rfl
    rotate_left
    · simp only [Act.put, List.setIfInBounds_toArray, List.set_cons_zero, List.set_cons_succ, i64_w, i32_w]
      rfl
    refine one_ (i := 0) (N := (some 18)) #[true, true, true, false, false, false, true, true, false, false, false] rfl rfl (by kernel_rfl) (by decide) (fun K hK => ?_)
    refine goes_ Tryd.func10 (by kernel_rfl) rfl #[] (by rfl) rfl rfl (by (try simp only [List.map_toArray, List.map_cons, List.map_nil]); first | done | rfl) ?_
    refine (l42Words_calls _).mono ?_
    rintro e w2 ⟨rfl, hw2⟩
    refine ⟨_, rfl, ?_⟩
    have hb2 : Below w1.heap.size w1 w2 := by rw [← hw2]; exact below_alloc (below_drew1 (Below.refl _ _)) _
    have hcw : w2.cell? ⟨w1.heap.size, 4, none⟩ = some (.string W) := by rw [← hw2]; exact HWW.out w1.drew
    clear hw2
    have HR' := Lib.hid (Kd.C_below HR.out hb2)
    have HB2 := Lib.hid hb2
    refine hK.out _ _ ⟨cell_of hb2 q0, cell_of hb2 q1⟩ (fun hHeld => ?_)
    clear hK K
    refine norm_ (a' := ?_) ?_ ?_
    rotate_left
    · show Act.put _ (some 18) _ = _
      simp only [Act.put, List.setIfInBounds_toArray, List.set_cons_zero, List.set_cons_succ, i64_w, i32_w]
      rfl
    refine pure_ (i := 3) (N := (some 21)) (v := ?_) (a' := ?_) #[true, true, true, true, false, false, true, true, false, false, false] rfl rfl (by kernel_rfl) (fun _ _ _ h => h) (Or.inl ⟨by rfl, ?_⟩) ?_ ?_
    rotate_left
    · intro w'
      go_simp
      with_reducible rfl
    rotate_left
    · simp only [Act.put, List.setIfInBounds_toArray, List.set_cons_zero, List.set_cons_succ, i64_w, i32_w]
      rfl
    refine two_ (i := 4) (j := 8) (Ni := (some 22)) (Nj := (some 26)) #[true, true, true, true, true, false, true, true, false, false, false] #[true, true, true, true, false, false, true, true, true, false, false] rfl rfl rfl rfl (by kernel_rfl) (by decide) (by decide) (fun K hK => ?_) (fun K hK => ?_)
    · skip
      refine value_ (w1 := ?_) (v := ?_) (by rfl) rfl ?_ ?_
      rotate_left 2
      · go_simp
        constructor
        · rfl
        · rfl
      refine hK.out _ _ hHeld (fun hHeld => ?_)
      clear hK K
      refine norm_ (a' := ?_) ?_ ?_
      rotate_left
      · show Act.put _ (some 22) _ = _
        simp only [Act.put, List.setIfInBounds_toArray, List.set_cons_zero, List.set_cons_succ, i64_w, i32_w]
        rfl
      refine pure_ (i := 5) (N := (some 23)) (v := ?_) (a' := ?_) #[true, true, true, true, true, true, true, true, false, false, false] rfl rfl (by kernel_rfl) (fun _ _ _ h => h) (Or.inl ⟨by rfl, ?_⟩) ?_ ?_
      rotate_left
      · intro w'
        go_simp
        with_reducible rfl
      rotate_left
      · simp only [Act.put, List.setIfInBounds_toArray, List.set_cons_zero, List.set_cons_succ, i64_w, i32_w]
        rfl
      refine one_ (i := 8) (N := (some 26)) #[true, true, true, true, true, true, true, true, true, false, false] rfl rfl (by kernel_rfl) (by decide) (fun K hK => ?_)
      refine goes_ Tryd.func28 (by kernel_rfl) rfl #[.slice A1 path.length c1] (by rfl) rfl rfl (by (try simp only [List.map_toArray, List.map_cons, List.map_nil]); first | done | rfl) ?_
      refine (spec_l3Name.calls kp A1 c1 path _ _ HR'.out HC1.out HKP.out).mono ?_
      rintro e w3 ⟨rfl, ⟨nd, rfl⟩⟩
      refine ⟨_, rfl, ?_⟩
      refine hK.out _ _ hHeld (fun hHeld => ?_)
      clear hK K
      refine norm_ (a' := ?_) ?_ ?_
      rotate_left
      · show Act.put _ (some 26) _ = _
        simp only [Act.put, List.setIfInBounds_toArray, List.set_cons_zero, List.set_cons_succ, i64_w, i32_w]
        rfl
      refine pure_ (i := 9) (N := (some 27)) (v := ?_) (a' := ?_) #[true, true, true, true, true, true, true, true, true, true, false] rfl rfl (by kernel_rfl) (fun _ _ _ h => h) (Or.inl ⟨by rfl, ?_⟩) ?_ ?_
      rotate_left
      · intro w'
        go_simp
        with_reducible rfl
      rotate_left
      · simp only [Act.put, List.setIfInBounds_toArray, List.set_cons_zero, List.set_cons_succ, i64_w, i32_w]
        rfl
      refine pure_ (i := 10) (N := (some 3)) (v := ?_) (a' := ?_) #[true, true, true, true, true, true, true, true, true, true, true] rfl rfl (by kernel_rfl) (fun _ _ _ h => h) (Or.inl ⟨by rfl, ?_⟩) ?_ ?_
      rotate_left
      · intro w'
        go_simp
        with_reducible rfl
      rotate_left
      · simp only [Act.put, List.setIfInBounds_toArray, List.set_cons_zero, List.set_cons_succ, i64_w, i32_w]
        rfl
      refine done_ (by kernel_rfl) ?_
      go_wp2
      go_meet
      case rel => exact ⟨rfl, HB1.out.trans ((pw_below_drewN HB2.out nd).mono (Nat.le_of_lt hsz1)), pw_below_drewN HB2.out nd⟩
    · skip
      refine goes_ Tryd.func28 (by kernel_rfl) rfl #[.slice A1 path.length c1] (by rfl) rfl rfl (by (try simp only [List.map_toArray, List.map_cons, List.map_nil]); first | done | rfl) ?_
      refine (spec_l3Name.calls kp A1 c1 path _ _ HR'.out HC1.out HKP.out).mono ?_
      rintro e w3 ⟨rfl, ⟨nd, rfl⟩⟩
      refine ⟨_, rfl, ?_⟩
      refine hK.out _ _ hHeld (fun hHeld => ?_)
      clear hK K
      refine norm_ (a' := ?_) ?_ ?_
      rotate_left
      · show Act.put _ (some 26) _ = _
        simp only [Act.put, List.setIfInBounds_toArray, List.set_cons_zero, List.set_cons_succ, i64_w, i32_w]
        rfl
      refine one_ (i := 4) (N := (some 22)) #[true, true, true, true, true, false, true, true, true, false, false] rfl rfl (by kernel_rfl) (by decide) (fun K hK => ?_)
      refine value_ (w1 := ?_) (v := ?_) (by rfl) rfl ?_ ?_
      rotate_left 2
      · go_simp
        constructor
        · rfl
        · rfl
      refine hK.out _ _ hHeld (fun hHeld => ?_)
      clear hK K
      refine norm_ (a' := ?_) ?_ ?_
      rotate_left
      · show Act.put _ (some 22) _ = _
        simp only [Act.put, List.setIfInBounds_toArray, List.set_cons_zero, List.set_cons_succ, i64_w, i32_w]
        rfl
      refine pure_ (i := 5) (N := (some 23)) (v := ?_) (a' := ?_) #[true, true, true, true, true, true, true, true, true, false, false] rfl rfl (by kernel_rfl) (fun _ _ _ h => h) (Or.inl ⟨by rfl, ?_⟩) ?_ ?_
      rotate_left
      · intro w'
        go_simp
        with_reducible rfl
      rotate_left
      · simp only [Act.put, List.setIfInBounds_toArray, List.set_cons_zero, List.set_cons_succ, i64_w, i32_w]
        rfl
      refine pure_ (i := 9) (N := (some 27)) (v := ?_) (a' := ?_) #[true, true, true, true, true, true, true, true, true, true, false] rfl rfl (by kernel_rfl) (fun _ _ _ h => h) (Or.inl ⟨by rfl, ?_⟩) ?_ ?_
      rotate_left
      · intro w'
        go_simp
        with_reducible rfl
      rotate_left
      · simp only [Act.put, List.setIfInBounds_toArray, List.set_cons_zero, List.set_cons_succ, i64_w, i32_w]
        rfl
      refine pure_ (i := 10) (N := (some 3)) (v := ?_) (a' := ?_) #[true, true, true, true, true, true, true, true, true, true, true] rfl rfl (by kernel_rfl) (fun _ _ _ h => h) (Or.inl ⟨by rfl, ?_⟩) ?_ ?_
      rotate_left
      · intro w'
        go_simp
        with_reducible rfl
      rotate_left
      · simp only [Act.put, List.setIfInBounds_toArray, List.set_cons_zero, List.set_cons_succ, i64_w, i32_w]
        rfl
      refine done_ (by kernel_rfl) ?_
      go_wp2
      go_meet
      case rel => exact ⟨rfl, HB1.out.trans ((pw_below_drewN HB2.out nd).mono (Nat.le_of_lt hsz1)), pw_below_drewN HB2.out nd⟩
  case rest =>
    obtain ⟨rfl, hbc, hb1c⟩ := hcut
    have r0 : wc.cell? ⟨w.heap.size, 0, none⟩ = some (.int .i64 4) := cell_of hb1c q0
    have r2 : wc.cell? ⟨w.heap.size, 2, none⟩ = some (.slice A2 dest.length c2) := cell_of hb1c q2
    have r3 : wc.cell? ⟨w.heap.size, 3, none⟩ = some (.int .i64 n) := cell_of hb1c q3
    have r5 : wc.cell? ⟨w.heap.size, 4, none⟩ = some (.string data) := cell_of hb1c q5
    have HSc := Lib.hid (show Kd.C Kd.string wc A2 dest.length dest from Kd.C_below HR2.out hb1c)
    have HBc := Lib.hid hbc
    clear HR HR2 HB1 hbc hb1c HWW q0 q1 q2 q3 q5 hsz1 HPT HKP HQ
    go_wp2
    go_ret
    refine ⟨congrArg (fun x => Ending.returned (Value.string x)) ?_, HBc.out⟩
    rw [hfin.out, HW.out]
    show bs _ ++ bs [32] ++ bs _ = _
    simp only [bs_append, List.append_assoc]
    rfl
set_option maxRecDepth 100000 in
set_option maxHeartbeats 1000000 in
theorem sCallText_5 (A1 A2 : Option Addr) (c1 c2 : Nat) (c : Call) (w : World) (h1 : Kd.C Kd.string w A1 c.path.length c.path) (hc1 : c.path.length ≤ c1) (h2 : Kd.C Kd.string w A2 c.dest.length c.dest) (hc2 : c.dest.length ≤ c2)
    (hok : isCallB c = true) (hk : c.kind = 5) (hn : 0 ≤ c.num ∧ c.num < 100) (hs1 : Small c.path) (hs2 : Small c.dest) :
    Calls Tryd.prog 14 #[.agg #[.int .i64 c.kind, .slice A1 c.path.length c1, .slice A2 c.dest.length c2, .int .i64 c.num, .string c.data]] w fun e w' => e = .returned (.string (bs (callT c))) ∧ Below w.heap.size w w' := by
  obtain ⟨kq, hkq⟩ := (l2CallOk_ev c hs1 hs2).rounds
  rw [hok] at hkq
  obtain ⟨kind, path, dest, num, data⟩ := c
  dsimp only at *
  subst hk
  obtain ⟨n, rfl⟩ := Int.eq_ofNat_of_zero_le hn.1
  have hfin := Lib.hid (show callT ⟨5, path, dest, n, data⟩ = [114, 101, 110, 97, 109, 101] ++ 32 :: (pathT path ++ 32 :: pathT dest) by simp [callT, hok, tailT, wordOf, WORDS])
  have hpath : isPath 1 path = true := by
    simp only [isCallB] at hok
    simp at hok
    exact hok.1
  have hdest : isPath 1 dest = true := by
    simp only [isCallB] at hok
    simp at hok
    exact hok.2
  obtain ⟨kd2, hkd2⟩ := (l3Name_ev dest (Nat.le_trans (isPath_small 1 dest hdest).1 (by omega)) (Nat.le_trans (isPath_small 1 dest hdest).2.2.1 (by omega))).rounds
  have HKD := Lib.hid hkd2
  have hzD : (bs (pathT dest)).size ≤ 24 := by rw [bs_size]; exact pathT_le 1 dest hdest
  have hps := isPath_small 1 path hpath
  obtain ⟨kp, hkp⟩ := (l3Name_ev path (Nat.le_trans hps.1 (by omega)) (Nat.le_trans hps.2.2.1 (by omega))).rounds
  have HKP := Lib.hid hkp
  have HQ := Lib.hid hkq
  have H1 := Lib.hid h1
  have H2 := Lib.hid h2
  have HC1 := Lib.hid hc1
  have HC2 := Lib.hid hc2
  have HPT := Lib.hid (pathT_le 1 path hpath)
  clear hkq h1 h2 hc1 hc2 hps hok hs1 hs2 hpath hkp hdest hkd2
  go_enter Tryd.func14, Tryd.ntmps14
  go_wp2_with fail
  refine (spec_l2CallOk.calls kq 5 A1 c1 path A2 c2 dest n data true _ ?_ HC1.out ?_ HC2.out HQ.out).mono ?_
  · exact Kd.C_below H1.out ((Below.refl _ _).alloc (Nat.le_refl _) _)
  · exact Kd.C_below H2.out ((Below.refl _ _).alloc (Nat.le_refl _) _)
  rintro e w1 ⟨rfl, hb1⟩
  have hbw1 : Below w.heap.size w w1 := ((Below.refl _ _).alloc (Nat.le_refl _) _).trans (hb1.mono (by simp))
  have q0 : w1.cell? ⟨w.heap.size, 0, none⟩ = some (.int .i64 5) := cell_of hb1 (by go_simp)
  have q1 : w1.cell? ⟨w.heap.size, 1, none⟩ = some (.slice A1 path.length c1) := cell_of hb1 (by go_simp)
  have q2 : w1.cell? ⟨w.heap.size, 2, none⟩ = some (.slice A2 dest.length c2) := cell_of hb1 (by go_simp)
  have q3 : w1.cell? ⟨w.heap.size, 3, none⟩ = some (.int .i64 n) := cell_of hb1 (by go_simp)
  have q5 : w1.cell? ⟨w.heap.size, 4, none⟩ = some (.string data) := cell_of hb1 (by go_simp)
  have hsz1 : w.heap.size < w1.heap.size := World.block_lt_of_cell? w1 _ q0
  have HR := Lib.hid (show Kd.C Kd.string w1 A1 path.length path from Kd.C_below H1.out hbw1)
  have HR2 := Lib.hid (show Kd.C Kd.string w1 A2 dest.length dest from Kd.C_below H2.out hbw1)
  have HB1 := Lib.hid hbw1
  clear hb1 hbw1 H1 H2
  have hzP : (bs (pathT path)).size ≤ 24 := by rw [bs_size]; exact HPT.out
  obtain ⟨W, hW⟩ : ∃ W, W = bs [114, 101, 110, 97, 109, 101] := ⟨_, rfl⟩
  have hzW : W.size ≤ 10 := by rw [hW, bs_size]; decide
  have HW := Lib.hid hW
  have hz1 : ¬ 9223372036854775807 < W.size + 1 := by omega
  have hz2 : ¬ 9223372036854775807 < W.size + 1 + (bs (pathT path)).size := by omega
  have hww : ∀ u : World, (u.alloc (.cells wordsRow 9)).cell? ⟨u.heap.size, 5, none⟩ = some (.string W) := fun u => by rw [hW]; exact wordsRow_at 5 (by omega) u
  have HWW := Lib.hid hww
  clear hW hww
  go_wp2_with fail
  go_cut [3] from 4 (fun v3 wc => v3 = .string (W ++ ⟨#[32]⟩ ++ bs (pathT path)) ∧ Below w.heap.size w wc ∧ Below w1.heap.size w1 wc)
  case first =>
    refine start_ (n := 11) (S := fun w' => w'.cell? ⟨w.heap.size, 0, none⟩ = some (.int .i64 5) ∧ w'.cell? ⟨w.heap.size, 1, none⟩ = some (.slice A1 path.length c1)) (ds := []) #[false, false, false, false, false, false, false, false, false, false, false] (by kernel_rfl) rfl rfl ⟨q0, q1⟩ (fun hHeld => ?_)
    refine pure_ (i := 1) (N := (some 19)) (v := ?_) (a' := ?_) #[false, true, false, false, false, false, false, false, false, false, false] rfl rfl (by kernel_rfl) (fun _ _ _ h => h) (Or.inl ⟨by rfl, ?_⟩) ?_ ?_
    rotate_left
    · intro w'
      go_simp
      with_reducible rfl
    rotate_left
    · simp only [Act.put, List.setIfInBounds_toArray, List.set_cons_zero, List.set_cons_succ, i64_w, i32_w]
      rfl
    refine pure_ (i := 6) (N := (some 24)) (v := ?_) (a' := ?_) #[false, true, false, false, false, false, true, false, false, false, false] rfl rfl (by kernel_rfl) (fun _ _ _ h => h) (Or.inl ⟨by rfl, ?_⟩) ?_ ?_
    rotate_left
    · intro w'
      go_simp
      with_reducible rfl
    rotate_left
    · simp only [Act.put, List.setIfInBounds_toArray, List.set_cons_zero, List.set_cons_succ, i64_w, i32_w]
      rfl
    refine take_ (i := 2) (N := (some 20)) (v := ?_) (a' := ?_) #[false, true, true, false, false, false, true, false, false, false, false] rfl rfl (by kernel_rfl) (fun _ _ _ h => h) (Or.inl ⟨by rfl, ?_⟩) hHeld ?_ ?_
    rotate_left
    · rintro w' ⟨s0, s1⟩
      go_simp
      with_reducible rfl
    rotate_left
    · simp only [Act.put, List.setIfInBounds_toArray, List.set_cons_zero, List.set_cons_succ, i64_w, i32_w]
      rfl
    refine take_ (i := 7) (N := (some 25)) (v := ?_) (a' := ?_) #[false, true, true, false, false, false, true, true, false, false, false] rfl rfl (by kernel_rfl) (fun _ _ _ h => h) (Or.inl ⟨by rfl, ?_⟩) hHeld ?_ ?_
    rotate_left
    · rintro w' ⟨s0, s1⟩
      go_simp
      with_reducible rfl
    rotate_left
    · simp only [Act.put, List.setIfInBounds_toArray, List.set_cons_zero, List.set_cons_succ, i64_w, i32_w]
      rfl
    refine one_ (i := 0) (N := (some 18)) #[true, true, true, false, false, false, true, true, false, false, false] rfl rfl (by kernel_rfl) (by decide) (fun K hK => ?_)
    refine goes_ Tryd.func10 (by kernel_rfl) rfl #[] (by rfl) rfl rfl (by (try simp only [List.map_toArray, List.map_cons, List.map_nil]); first | done | rfl) ?_
    refine (l42Words_calls _).mono ?_
    rintro e w2 ⟨rfl, hw2⟩
    refine ⟨_, rfl, ?_⟩
    have hb2 : Below w1.heap.size w1 w2 := by rw [← hw2]; exact below_alloc (below_drew1 (Below.refl _ _)) _
    have hcw : w2.cell? ⟨w1.heap.size, 5, none⟩ = some (.string W) := by rw [← hw2]; exact HWW.out w1.drew
    clear hw2
    have HR' := Lib.hid (Kd.C_below HR.out hb2)
    have HB2 := Lib.hid hb2
    refine hK.out _ _ ⟨cell_of hb2 q0, cell_of hb2 q1⟩ (fun hHeld => ?_)
    clear hK K
    refine norm_ (a' := ?_) ?_ ?_
    rotate_left
    · show Act.put _ (some 18) _ = _
      simp only [Act.put, List.setIfInBounds_toArray, List.set_cons_zero, List.set_cons_succ, i64_w, i32_w]
      rfl
    refine pure_ (i := 3) (N := (some 21)) (v := ?_) (a' := ?_) #[true, true, true, true, false, false, true, true, false, false, false] rfl rfl (by kernel_rfl) (fun _ _ _ h => h) (Or.inl ⟨by rfl, ?_⟩) ?_ ?_
    rotate_left
    · intro w'
      go_simp
      with_reducible rfl
    rotate_left
    · simp only [Act.put, List.setIfInBounds_toArray, List.set_cons_zero, List.set_cons_succ, i64_w, i32_w]
      rfl
    refine two_ (i := 4) (j := 8) (Ni := (some 22)) (Nj := (some 26)) #[true, true, true, true, true, false, true, true, false, false, false] #[true, true, true, true, false, false, true, true, true, false, false] rfl rfl rfl rfl (by kernel_rfl) (by decide) (by decide) (fun K hK => ?_) (fun K hK => ?_)
    · skip
      refine value_ (w1 := ?_) (v := ?_) (by rfl) rfl ?_ ?_
      rotate_left 2
      · go_simp
        constructor
        · rfl
        · rfl
      refine hK.out _ _ hHeld (fun hHeld => ?_)
      clear hK K
      refine norm_ (a' := ?_) ?_ ?_
      rotate_left
      · show Act.put _ (some 22) _ = _
        simp only [Act.put, List.setIfInBounds_toArray, List.set_cons_zero, List.set_cons_succ, i64_w, i32_w]
        rfl
      refine pure_ (i := 5) (N := (some 23)) (v := ?_) (a' := ?_) #[true, true, true, true, true, true, true, true, false, false, false] rfl rfl (by kernel_rfl) (fun _ _ _ h => h) (Or.inl ⟨by rfl, ?_⟩) ?_ ?_
      rotate_left
      · intro w'
        go_simp
        with_reducible rfl
      rotate_left
      · simp only [Act.put, List.setIfInBounds_toArray, List.set_cons_zero, List.set_cons_succ, i64_w, i32_w]
        rfl
      refine one_ (i := 8) (N := (some 26)) #[true, true, true, true, true, true, true, true, true, false, false] rfl rfl (by kernel_rfl) (by decide) (fun K hK => ?_)
      refine goes_ Tryd.func28 (by kernel_rfl) rfl #[.slice A1 path.length c1] (by rfl) rfl rfl (by (try simp only [List.map_toArray, List.map_cons, List.map_nil]); first | done | rfl) ?_
      refine (spec_l3Name.calls kp A1 c1 path _ _ HR'.out HC1.out HKP.out).mono ?_
      rintro e w3 ⟨rfl, ⟨nd, rfl⟩⟩
      refine ⟨_, rfl, ?_⟩
      refine hK.out _ _ hHeld (fun hHeld => ?_)
      clear hK K
      refine norm_ (a' := ?_) ?_ ?_
      rotate_left
      · show Act.put _ (some 26) _ = _
        simp only [Act.put, List.setIfInBounds_toArray, List.set_cons_zero, List.set_cons_succ, i64_w, i32_w]
        rfl
      refine pure_ (i := 9) (N := (some 27)) (v := ?_) (a' := ?_) #[true, true, true, true, true, true, true, true, true, true, false] rfl rfl (by kernel_rfl) (fun _ _ _ h => h) (Or.inl ⟨by rfl, ?_⟩) ?_ ?_
      rotate_left
      · intro w'
        go_simp
        with_reducible rfl
      rotate_left
      · simp only [Act.put, List.setIfInBounds_toArray, List.set_cons_zero, List.set_cons_succ, i64_w, i32_w]
        rfl
      refine pure_ (i := 10) (N := (some 3)) (v := ?_) (a' := ?_) #[true, true, true, true, true, true, true, true, true, true, true] rfl rfl (by kernel_rfl) (fun _ _ _ h => h) (Or.inl ⟨by rfl, ?_⟩) ?_ ?_
      rotate_left
      · intro w'
        go_simp
        with_reducible rfl
      rotate_left
      · simp only [Act.put, List.setIfInBounds_toArray, List.set_cons_zero, List.set_cons_succ, i64_w, i32_w]
        rfl
      refine done_ (by kernel_rfl) ?_
      go_wp2
      go_meet
      case rel => exact ⟨rfl, HB1.out.trans ((pw_below_drewN HB2.out nd).mono (Nat.le_of_lt hsz1)), pw_below_drewN HB2.out nd⟩
    · skip
      refine goes_ Tryd.func28 (by kernel_rfl) rfl #[.slice A1 path.length c1] (by rfl) rfl rfl (by (try simp only [List.map_toArray, List.map_cons, List.map_nil]); first | done | rfl) ?_
      refine (spec_l3Name.calls kp A1 c1 path _ _ HR'.out HC1.out HKP.out).mono ?_
      rintro e w3 ⟨rfl, ⟨nd, rfl⟩⟩
      refine ⟨_, rfl, ?_⟩
      refine hK.out _ _ hHeld (fun hHeld => ?_)
      clear hK K
      refine norm_ (a' := ?_) ?_ ?_
      rotate_left
      · show Act.put _ (some 26) _ = _
        simp only [Act.put, List.setIfInBounds_toArray, List.set_cons_zero, List.set_cons_succ, i64_w, i32_w]
        rfl
      refine one_ (i := 4) (N := (some 22)) #[true, true, true, true, true, false, true, true, true, false, false] rfl rfl (by kernel_rfl) (by decide) (fun K hK => ?_)
      refine value_ (w1 := ?_) (v := ?_) (by rfl) rfl ?_ ?_
      rotate_left 2
      · go_simp
        constructor
        · rfl
        · rfl
      refine hK.out _ _ hHeld (fun hHeld => ?_)
      clear hK K
      refine norm_ (a' := ?_) ?_ ?_
      rotate_left
      · show Act.put _ (some 22) _ = _
        simp only [Act.put, List.setIfInBounds_toArray, List.set_cons_zero, List.set_cons_succ, i64_w, i32_w]
        rfl
      refine pure_ (i := 5) (N := (some 23)) (v := ?_) (a' := ?_) #[true, true, true, true, true, true, true, true, true, false, false] rfl rfl (by kernel_rfl) (fun _ _ _ h => h) (Or.inl ⟨by rfl, ?_⟩) ?_ ?_
      rotate_left
      · intro w'
        go_simp
        with_reducible rfl
      rotate_left
      · simp only [Act.put, List.setIfInBounds_toArray, List.set_cons_zero, List.set_cons_succ, i64_w, i32_w]
        rfl
      refine pure_ (i := 9) (N := (some 27)) (v := ?_) (a' := ?_) #[true, true, true, true, true, true, true, true, true, true, false] rfl rfl (by kernel_rfl) (fun _ _ _ h => h) (Or.inl ⟨by rfl, ?_⟩) ?_ ?_
      rotate_left
      · intro w'
        go_simp
        with_reducible rfl
      rotate_left
      · simp only [Act.put, List.setIfInBounds_toArray, List.set_cons_zero, List.set_cons_succ, i64_w, i32_w]
        rfl
      refine pure_ (i := 10) (N := (some 3)) (v := ?_) (a' := ?_) #[true, true, true, true, true, true, true, true, true, true, true] rfl rfl (by kernel_rfl) (fun _ _ _ h => h) (Or.inl ⟨by rfl, ?_⟩) ?_ ?_
      rotate_left
      · intro w'
        go_simp
        with_reducible rfl
      rotate_left
      · simp only [Act.put, List.setIfInBounds_toArray, List.set_cons_zero, List.set_cons_succ, i64_w, i32_w]
        rfl
      refine done_ (by kernel_rfl) ?_
      go_wp2
      go_meet
      case rel => exact ⟨rfl, HB1.out.trans ((pw_below_drewN HB2.out nd).mono (Nat.le_of_lt hsz1)), pw_below_drewN HB2.out nd⟩
  case rest =>
    obtain ⟨rfl, hbc, hb1c⟩ := hcut
    have r0 : wc.cell? ⟨w.heap.size, 0, none⟩ = some (.int .i64 5) := cell_of hb1c q0
    have r2 : wc.cell? ⟨w.heap.size, 2, none⟩ = some (.slice A2 dest.length c2) := cell_of hb1c q2
    have r3 : wc.cell? ⟨w.heap.size, 3, none⟩ = some (.int .i64 n) := cell_of hb1c q3
    have r5 : wc.cell? ⟨w.heap.size, 4, none⟩ = some (.string data) := cell_of hb1c q5
    have HSc := Lib.hid (show Kd.C Kd.string wc A2 dest.length dest from Kd.C_below HR2.out hb1c)
    have HBc := Lib.hid hbc
    clear HR HR2 HB1 hbc hb1c HWW q0 q1 q2 q3 q5 hsz1 HPT HKP HQ
    have hz3 : ¬ 9223372036854775807 < (W ++ ⟨#[32]⟩ ++ bs (pathT path)).size + 1 := by
      simp only [ByteArray.size_append]
      have : (⟨#[32]⟩ : ByteArray).size = 1 := rfl
      omega
    have hz3' : ¬ 9223372036854775807 < W.size + 1 + (bs (pathT path)).size + 1 := by omega
    have hz4 : ¬ 9223372036854775807 < W.size + 1 + (bs (pathT path)).size + 1 + (bs (pathT dest)).size := by omega
    go_wp2_with fail
    refine (spec_l3Name.calls kd2 A2 c2 dest (bs (pathT dest)) _ HSc.out HC2.out HKD.out).mono ?_
    rintro e w3 ⟨rfl, ⟨nd, rfl⟩⟩
    have HB3 := Lib.hid (pw_below_drewN HBc.out nd)
    go_wp2
    go_ret
    refine ⟨congrArg (fun x => Ending.returned (Value.string x)) ?_, HB3.out⟩
    rw [hfin.out, HW.out]
    show bs _ ++ bs [32] ++ bs _ ++ bs [32] ++ bs _ = _
    simp only [bs_append, List.append_assoc]
    rfl
set_option maxRecDepth 100000 in
set_option maxHeartbeats 1000000 in
theorem sCallText_6 (A1 A2 : Option Addr) (c1 c2 : Nat) (c : Call) (w : World) (h1 : Kd.C Kd.string w A1 c.path.length c.path) (hc1 : c.path.length ≤ c1) (h2 : Kd.C Kd.string w A2 c.dest.length c.dest) (hc2 : c.dest.length ≤ c2)
    (hok : isCallB c = true) (hk : c.kind = 6) (hn : 0 ≤ c.num ∧ c.num < 100) (hs1 : Small c.path) (hs2 : Small c.dest) :
    Calls Tryd.prog 14 #[.agg #[.int .i64 c.kind, .slice A1 c.path.length c1, .slice A2 c.dest.length c2, .int .i64 c.num, .string c.data]] w fun e w' => e = .returned (.string (bs (callT c))) ∧ Below w.heap.size w w' := by
  obtain ⟨kq, hkq⟩ := (l2CallOk_ev c hs1 hs2).rounds
  rw [hok] at hkq
  obtain ⟨kind, path, dest, num, data⟩ := c
  dsimp only at *
  subst hk
  obtain ⟨n, rfl⟩ := Int.eq_ofNat_of_zero_le hn.1
  have hfin := Lib.hid (show callT ⟨6, path, dest, n, data⟩ = [99, 104, 109, 111, 100] ++ 32 :: (pathT path ++ 32 :: Lib.decDigits n) by simp [callT, hok, tailT, wordOf, WORDS])
  have hpath : isPath 1 path = true := by
    simp only [isCallB] at hok
    simp at hok
    exact hok.1
  have hzN : (Lib.decDigits n).length ≤ 2 := dd_small n (by omega)
  obtain ⟨kn, hkn⟩ := (l1Dec_ev n (by omega)).rounds
  have HKN := Lib.hid hkn
  have hzNb : (bs (Lib.decDigits n)).size ≤ 2 := by rw [bs_size]; exact hzN
  have hps := isPath_small 1 path hpath
  obtain ⟨kp, hkp⟩ := (l3Name_ev path (Nat.le_trans hps.1 (by omega)) (Nat.le_trans hps.2.2.1 (by omega))).rounds
  have HKP := Lib.hid hkp
  have HQ := Lib.hid hkq
  have H1 := Lib.hid h1
  have H2 := Lib.hid h2
  have HC1 := Lib.hid hc1
  have HC2 := Lib.hid hc2
  have HPT := Lib.hid (pathT_le 1 path hpath)
  clear hkq h1 h2 hc1 hc2 hps hok hs1 hs2 hpath hkp hkn
  go_enter Tryd.func14, Tryd.ntmps14
  go_wp2_with fail
  refine (spec_l2CallOk.calls kq 6 A1 c1 path A2 c2 dest n data true _ ?_ HC1.out ?_ HC2.out HQ.out).mono ?_
  · exact Kd.C_below H1.out ((Below.refl _ _).alloc (Nat.le_refl _) _)
  · exact Kd.C_below H2.out ((Below.refl _ _).alloc (Nat.le_refl _) _)
  rintro e w1 ⟨rfl, hb1⟩
  have hbw1 : Below w.heap.size w w1 := ((Below.refl _ _).alloc (Nat.le_refl _) _).trans (hb1.mono (by simp))
  have q0 : w1.cell? ⟨w.heap.size, 0, none⟩ = some (.int .i64 6) := cell_of hb1 (by go_simp)
  have q1 : w1.cell? ⟨w.heap.size, 1, none⟩ = some (.slice A1 path.length c1) := cell_of hb1 (by go_simp)
  have q2 : w1.cell? ⟨w.heap.size, 2, none⟩ = some (.slice A2 dest.length c2) := cell_of hb1 (by go_simp)
  have q3 : w1.cell? ⟨w.heap.size, 3, none⟩ = some (.int .i64 n) := cell_of hb1 (by go_simp)
  have q5 : w1.cell? ⟨w.heap.size, 4, none⟩ = some (.string data) := cell_of hb1 (by go_simp)
  have hsz1 : w.heap.size < w1.heap.size := World.block_lt_of_cell? w1 _ q0
  have HR := Lib.hid (show Kd.C Kd.string w1 A1 path.length path from Kd.C_below H1.out hbw1)
  have HR2 := Lib.hid (show Kd.C Kd.string w1 A2 dest.length dest from Kd.C_below H2.out hbw1)
  have HB1 := Lib.hid hbw1
  clear hb1 hbw1 H1 H2
  have hzP : (bs (pathT path)).size ≤ 24 := by rw [bs_size]; exact HPT.out
  obtain ⟨W, hW⟩ : ∃ W, W = bs [99, 104, 109, 111, 100] := ⟨_, rfl⟩
  have hzW : W.size ≤ 10 := by rw [hW, bs_size]; decide
  have HW := Lib.hid hW
  have hz1 : ¬ 9223372036854775807 < W.size + 1 := by omega
  have hz2 : ¬ 9223372036854775807 < W.size + 1 + (bs (pathT path)).size := by omega
  have hww : ∀ u : World, (u.alloc (.cells wordsRow 9)).cell? ⟨u.heap.size, 6, none⟩ = some (.string W) := fun u => by rw [hW]; exact wordsRow_at 6 (by omega) u
  have HWW := Lib.hid hww
  clear hW hww
  go_wp2_with fail
  go_cut [3] from 4 (fun v3 wc => v3 = .string (W ++ ⟨#[32]⟩ ++ bs (pathT path)) ∧ Below w.heap.size w wc ∧ Below w1.heap.size w1 wc)
  case first =>
    refine start_ (n := 11) (S := fun w' => w'.cell? ⟨w.heap.size, 0, none⟩ = some (.int .i64 6) ∧ w'.cell? ⟨w.heap.size, 1, none⟩ = some (.slice A1 path.length c1)) (ds := []) #[false, false, false, false, false, false, false, false, false, false, false] (by kernel_rfl) rfl rfl ⟨q0, q1⟩ (fun hHeld => ?_)
    refine pure_ (i := 1) (N := (some 19)) (v := ?_) (a' := ?_) #[false, true, false, false, false, false, false, false, false, false, false] rfl rfl (by kernel_rfl) (fun _ _ _ h => h) (Or.inl ⟨by rfl, ?_⟩) ?_ ?_
    rotate_left
    · intro w'
      go_simp
      with_reducible rfl
    rotate_left
    · simp only [Act.put, List.setIfInBounds_toArray, List.set_cons_zero, List.set_cons_succ, i64_w, i32_w]
      rfl
    refine pure_ (i := 6) (N := (some 24)) (v := ?_) (a' := ?_) #[false, true, false, false, false, false, true, false, false, false, false] rfl rfl (by kernel_rfl) (fun _ _ _ h => h) (Or.inl ⟨by rfl, ?_⟩) ?_ ?_
    rotate_left
    · intro w'
      go_simp
      with_reducible rfl
    rotate_left
    · simp only [Act.put, List.setIfInBounds_toArray, List.set_cons_zero, List.set_cons_succ, i64_w, i32_w]
      rfl
    refine take_ (i := 2) (N := (some 20)) (v := ?_) (a' := ?_) #[false, true, true, false, false, false, true, false, false, false, false] rfl rfl (by kernel_rfl) (fun _ _ _ h => h) (Or.inl ⟨by rfl, ?_⟩) hHeld ?_ ?_
    rotate_left
    · rintro w' ⟨s0, s1⟩
      go_simp
      with_reducible rfl
    rotate_left
    · simp only [Act.put, List.setIfInBounds_toArray, List.set_cons_zero, List.set_cons_succ, i64_w, i32_w]
      rfl
    refine take_ (i := 7) (N := (some 25)) (v := ?_) (a' := ?_) #[false, true, true, false, false, false, true, true, false, false, false] rfl rfl (by kernel_rfl) (fun _ _ _ h => h) (Or.inl ⟨by rfl, ?_⟩) hHeld ?_ ?_
    rotate_left
    · rintro w' ⟨s0, s1⟩
      go_simp
      with_reducible rfl
    rotate_left
    · simp only [Act.put, List.setIfInBounds_toArray, List.set_cons_zero, List.set_cons_succ, i64_w, i32_w]
      rfl
    refine one_ (i := 0) (N := (some 18)) #[true, true, true, false, false, false, true, true, false, false, false] rfl rfl (by kernel_rfl) (by decide) (fun K hK => ?_)
    refine goes_ Tryd.func10 (by kernel_rfl) rfl #[] (by rfl) rfl rfl (by (try simp only [List.map_toArray, List.map_cons, List.map_nil]); first | done | rfl) ?_
    refine (l42Words_calls _).mono ?_
    rintro e w2 ⟨rfl, hw2⟩
    refine ⟨_, rfl, ?_⟩
    have hb2 : Below w1.heap.size w1 w2 := by rw [← hw2]; exact below_alloc (below_drew1 (Below.refl _ _)) _
    have hcw : w2.cell? ⟨w1.heap.size, 6, none⟩ = some (.string W) := by rw [← hw2]; exact HWW.out w1.drew
    clear hw2
    have HR' := Lib.hid (Kd.C_below HR.out hb2)
    have HB2 := Lib.hid hb2
    refine hK.out _ _ ⟨cell_of hb2 q0, cell_of hb2 q1⟩ (fun hHeld => ?_)
    clear hK K
    refine norm_ (a' := ?_) ?_ ?_
    rotate_left
    · show Act.put _ (some 18) _ = _
      simp only [Act.put, List.setIfInBounds_toArray, List.set_cons_zero, List.set_cons_succ, i64_w, i32_w]
      rfl
    refine pure_ (i := 3) (N := (some 21)) (v := ?_) (a' := ?_) #[true, true, true, true, false, false, true, true, false, false, false] rfl rfl (by kernel_rfl) (fun _ _ _ h => h) (Or.inl ⟨by rfl, ?_⟩) ?_ ?_
    rotate_left
    · intro w'
      go_simp
      with_reducible rfl
    rotate_left
    · simp only [Act.put, List.setIfInBounds_toArray, List.set_cons_zero, List.set_cons_succ, i64_w, i32_w]
      rfl
    refine two_ (i := 4) (j := 8) (Ni := (some 22)) (Nj := (some 26)) #[true, true, true, true, true, false, true, true, false, false, false] #[true, true, true, true, false, false, true, true, true, false, false] rfl rfl rfl rfl (by kernel_rfl) (by decide) (by decide) (fun K hK => ?_) (fun K hK => ?_)
    · skip
      refine value_ (w1 := ?_) (v := ?_) (by rfl) rfl ?_ ?_
      rotate_left 2
      · go_simp
        constructor
        · rfl
        · rfl
      refine hK.out _ _ hHeld (fun hHeld => ?_)
      clear hK K
      refine norm_ (a' := ?_) ?_ ?_
      rotate_left
      · show Act.put _ (some 22) _ = _
        simp only [Act.put, List.setIfInBounds_toArray, List.set_cons_zero, List.set_cons_succ, i64_w, i32_w]
        rfl
      refine pure_ (i := 5) (N := (some 23)) (v := ?_) (a' := ?_) #[true, true, true, true, true, true, true, true, false, false, false] rfl rfl (by kernel_rfl) (fun _ _ _ h => h) (Or.inl ⟨by rfl, ?_⟩) ?_ ?_
      rotate_left
      · intro w'
        go_simp
        with_reducible rfl
      rotate_left
      · simp only [Act.put, List.setIfInBounds_toArray, List.set_cons_zero, List.set_cons_succ, i64_w, i32_w]
        rfl
      refine one_ (i := 8) (N := (some 26)) #[true, true, true, true, true, true, true, true, true, false, false] rfl rfl (by kernel_rfl) (by decide) (fun K hK => ?_)
      refine goes_ Tryd.func28 (by kernel_rfl) rfl #[.slice A1 path.length c1] (by rfl) rfl rfl (by (try simp only [List.map_toArray, List.map_cons, List.map_nil]); first | done | rfl) ?_
      refine (spec_l3Name.calls kp A1 c1 path _ _ HR'.out HC1.out HKP.out).mono ?_
      rintro e w3 ⟨rfl, ⟨nd, rfl⟩⟩
      refine ⟨_, rfl, ?_⟩
      refine hK.out _ _ hHeld (fun hHeld => ?_)
      clear hK K
      refine norm_ (a' := ?_) ?_ ?_
      rotate_left
      · show Act.put _ (some 26) _ = _
        simp only [Act.put, List.setIfInBounds_toArray, List.set_cons_zero, List.set_cons_succ, i64_w, i32_w]
        rfl
      refine pure_ (i := 9) (N := (some 27)) (v := ?_) (a' := ?_) #[true, true, true, true, true, true, true, true, true, true, false] rfl rfl (by kernel_rfl) (fun _ _ _ h => h) (Or.inl ⟨by rfl, ?_⟩) ?_ ?_
      rotate_left
      · intro w'
        go_simp
        with_reducible rfl
      rotate_left
      · simp only [Act.put, List.setIfInBounds_toArray, List.set_cons_zero, List.set_cons_succ, i64_w, i32_w]
        rfl
      refine pure_ (i := 10) (N := (some 3)) (v := ?_) (a' := ?_) #[true, true, true, true, true, true, true, true, true, true, true] rfl rfl (by kernel_rfl) (fun _ _ _ h => h) (Or.inl ⟨by rfl, ?_⟩) ?_ ?_
      rotate_left
      · intro w'
        go_simp
        with_reducible rfl
      rotate_left
      · simp only [Act.put, List.setIfInBounds_toArray, List.set_cons_zero, List.set_cons_succ, i64_w, i32_w]
        rfl
      refine done_ (by kernel_rfl) ?_
      go_wp2
      go_meet
      case rel => exact ⟨rfl, HB1.out.trans ((pw_below_drewN HB2.out nd).mono (Nat.le_of_lt hsz1)), pw_below_drewN HB2.out nd⟩
    · skip
      refine goes_ Tryd.func28 (by kernel_rfl) rfl #[.slice A1 path.length c1] (by rfl) rfl rfl (by (try simp only [List.map_toArray, List.map_cons, List.map_nil]); first | done | rfl) ?_
      refine (spec_l3Name.calls kp A1 c1 path _ _ HR'.out HC1.out HKP.out).mono ?_
      rintro e w3 ⟨rfl, ⟨nd, rfl⟩⟩
      refine ⟨_, rfl, ?_⟩
      refine hK.out _ _ hHeld (fun hHeld => ?_)
      clear hK K
      refine norm_ (a' := ?_) ?_ ?_
      rotate_left
      · show Act.put _ (some 26) _ = _
        simp only [Act.put, List.setIfInBounds_toArray, List.set_cons_zero, List.set_cons_succ, i64_w, i32_w]
        rfl
      refine one_ (i := 4) (N := (some 22)) #[true, true, true, true, true, false, true, true, true, false, false] rfl rfl (by kernel_rfl) (by decide) (fun K hK => ?_)
      refine value_ (w1 := ?_) (v := ?_) (by rfl) rfl ?_ ?_
      rotate_left 2
      · go_simp
        constructor
        · rfl
        · rfl
      refine hK.out _ _ hHeld (fun hHeld => ?_)
      clear hK K
      refine norm_ (a' := ?_) ?_ ?_
      rotate_left
      · show Act.put _ (some 22) _ = _
        simp only [Act.put, List.setIfInBounds_toArray, List.set_cons_zero, List.set_cons_succ, i64_w, i32_w]
        rfl
      refine pure_ (i := 5) (N := (some 23)) (v := ?_) (a' := ?_) #[true, true, true, true, true, true, true, true, true, false, false] rfl rfl (by kernel_rfl) (fun _ _ _ h => h) (Or.inl ⟨by rfl, ?_⟩) ?_ ?_
      rotate_left
      · intro w'
        go_simp
        with_reducible rfl
      rotate_left
      · simp only [Act.put, List.setIfInBounds_toArray, List.set_cons_zero, List.set_cons_succ, i64_w, i32_w]
        rfl
      refine pure_ (i := 9) (N := (some 27)) (v := ?_) (a' := ?_) #[true, true, true, true, true, true, true, true, true, true, false] rfl rfl (by kernel_rfl) (fun _ _ _ h => h) (Or.inl ⟨by rfl, ?_⟩) ?_ ?_
      rotate_left
      · intro w'
        go_simp
        with_reducible rfl
      rotate_left
      · simp only [Act.put, List.setIfInBounds_toArray, List.set_cons_zero, List.set_cons_succ, i64_w, i32_w]
        rfl
      refine pure_ (i := 10) (N := (some 3)) (v := ?_) (a' := ?_) #[true, true, true, true, true, true, true, true, true, true, true] rfl rfl (by kernel_rfl) (fun _ _ _ h => h) (Or.inl ⟨by rfl, ?_⟩) ?_ ?_
      rotate_left
      · intro w'
        go_simp
        with_reducible rfl
      rotate_left
      · simp only [Act.put, List.setIfInBounds_toArray, List.set_cons_zero, List.set_cons_succ, i64_w, i32_w]
        rfl
      refine done_ (by kernel_rfl) ?_
      go_wp2
      go_meet
      case rel => exact ⟨rfl, HB1.out.trans ((pw_below_drewN HB2.out nd).mono (Nat.le_of_lt hsz1)), pw_below_drewN HB2.out nd⟩
  case rest =>
    obtain ⟨rfl, hbc, hb1c⟩ := hcut
    have r0 : wc.cell? ⟨w.heap.size, 0, none⟩ = some (.int .i64 6) := cell_of hb1c q0
    have r2 : wc.cell? ⟨w.heap.size, 2, none⟩ = some (.slice A2 dest.length c2) := cell_of hb1c q2
    have r3 : wc.cell? ⟨w.heap.size, 3, none⟩ = some (.int .i64 n) := cell_of hb1c q3
    have r5 : wc.cell? ⟨w.heap.size, 4, none⟩ = some (.string data) := cell_of hb1c q5
    have HSc := Lib.hid (show Kd.C Kd.string wc A2 dest.length dest from Kd.C_below HR2.out hb1c)
    have HBc := Lib.hid hbc
    clear HR HR2 HB1 hbc hb1c HWW q0 q1 q2 q3 q5 hsz1 HPT HKP HQ
    have hz3 : ¬ 9223372036854775807 < (W ++ ⟨#[32]⟩ ++ bs (pathT path)).size + 1 := by
      simp only [ByteArray.size_append]
      have : (⟨#[32]⟩ : ByteArray).size = 1 := rfl
      omega
    have hz3' : ¬ 9223372036854775807 < W.size + 1 + (bs (pathT path)).size + 1 := by omega
    have hz4 : ¬ 9223372036854775807 < W.size + 1 + (bs (pathT path)).size + 1 + (bs (Lib.decDigits n)).size := by omega
    clear HSc
    go_wp2_with fail
    refine (spec_l1Dec.calls kn n (bs (Lib.decDigits n)) _ HKN.out).mono ?_
    rintro e w3 ⟨rfl, hb3⟩
    have HB3 := Lib.hid (HBc.out.trans (hb3.mono HBc.out.size))
    clear hb3
    go_wp2
    go_ret
    refine ⟨congrArg (fun x => Ending.returned (Value.string x)) ?_, HB3.out⟩
    rw [hfin.out, HW.out]
    show bs _ ++ bs [32] ++ bs _ ++ bs [32] ++ bs _ = _
    simp only [bs_append, List.append_assoc]
    rfl
set_option maxRecDepth 100000 in
set_option maxHeartbeats 1000000 in
theorem sCallText_no (A1 A2 : Option Addr) (c1 c2 : Nat) (c : Call) (w : World) (h1 : Kd.C Kd.string w A1 c.path.length c.path) (hc1 : c.path.length ≤ c1) (h2 : Kd.C Kd.string w A2 c.dest.length c.dest) (hc2 : c.dest.length ≤ c2)
    (hok : isCallB c = false) (hs1 : Small c.path) (hs2 : Small c.dest) :
    Calls Tryd.prog 14 #[.agg #[.int .i64 c.kind, .slice A1 c.path.length c1, .slice A2 c.dest.length c2, .int .i64 c.num, .string c.data]] w fun e w' => e = .returned (.string (bs (callT c))) ∧ Below w.heap.size w w' := by
  obtain ⟨kq, hkq⟩ := (l2CallOk_ev c hs1 hs2).rounds
  rw [hok] at hkq
  obtain ⟨kind, path, dest, num, data⟩ := c
  dsimp only at *
  have hfin := Lib.hid (show callT ⟨kind, path, dest, num, data⟩ = [] by simp [callT, hok])
  have HQ := Lib.hid hkq
  have H1 := Lib.hid h1
  have H2 := Lib.hid h2
  have HC1 := Lib.hid hc1
  have HC2 := Lib.hid hc2
  clear hkq h1 h2 hc1 hc2 hok hs1 hs2
  go_enter Tryd.func14, Tryd.ntmps14
  go_wp2_with fail
  refine (spec_l2CallOk.calls kq kind A1 c1 path A2 c2 dest num data false _ ?_ HC1.out ?_ HC2.out HQ.out).mono ?_
  · exact Kd.C_below H1.out ((Below.refl _ _).alloc (Nat.le_refl _) _)
  · exact Kd.C_below H2.out ((Below.refl _ _).alloc (Nat.le_refl _) _)
  rintro e w1 ⟨rfl, hb1⟩
  have HB1 := Lib.hid (show Below w.heap.size w w1 from ((Below.refl _ _).alloc (Nat.le_refl _) _).trans (hb1.mono (by simp)))
  clear hb1
  go_wp2
  go_ret
  exact ⟨by rw [hfin.out]; rfl, HB1.out⟩
/-- spec.CallText. -/
theorem sCallText_calls (A1 A2 : Option Addr) (c1 c2 : Nat) (c : Call) (w : World) (h1 : Kd.C Kd.string w A1 c.path.length c.path) (hc1 : c.path.length ≤ c1) (h2 : Kd.C Kd.string w A2 c.dest.length c.dest) (hc2 : c.dest.length ≤ c2)
    (hn : isCallB c = true → 0 ≤ c.num ∧ c.num < 100) (hs1 : Small c.path) (hs2 : Small c.dest) :
    Calls Tryd.prog 14 #[.agg #[.int .i64 c.kind, .slice A1 c.path.length c1, .slice A2 c.dest.length c2, .int .i64 c.num, .string c.data]] w fun e w' => e = .returned (.string (bs (callT c))) ∧ Below w.heap.size w w' := by
  cases hok : isCallB c with
  | false => exact sCallText_no A1 A2 c1 c2 c w h1 hc1 h2 hc2 hok hs1 hs2
  | true =>
    have hn' := hn hok
    have hk : c.kind = 1 ∨ c.kind = 2 ∨ c.kind = 3 ∨ c.kind = 4 ∨ c.kind = 5 ∨ c.kind = 6 := by
      unfold isCallB at hok
      split at hok
      · omega
      · split at hok
        · omega
        · split at hok
          · omega
          · split at hok
            · omega
            · cases hok
    rcases hk with hk | hk | hk | hk | hk | hk
    · exact sCallText_1 A1 A2 c1 c2 c w h1 hc1 h2 hc2 hok hk hn' hs1 hs2
    · by_cases hd : c.data.size ≤ 24
      · exact sCallText_2ok A1 A2 c1 c2 c w h1 hc1 h2 hc2 hok hk hn' hs1 hs2 hd
      · exact sCallText_2big A1 A2 c1 c2 c w h1 hc1 h2 hc2 hok hk hn' hs1 hs2 (by omega)
    · exact sCallText_3 A1 A2 c1 c2 c w h1 hc1 h2 hc2 hok hk hn' hs1 hs2
    · exact sCallText_4 A1 A2 c1 c2 c w h1 hc1 h2 hc2 hok hk hn' hs1 hs2
    · exact sCallText_5 A1 A2 c1 c2 c w h1 hc1 h2 hc2 hok hk hn' hs1 hs2
    · exact sCallText_6 A1 A2 c1 c2 c w h1 hc1 h2 hc2 hok hk hn' hs1 hs2
end Go.Proofs.YtojlffnlenldiaaDoor.F
