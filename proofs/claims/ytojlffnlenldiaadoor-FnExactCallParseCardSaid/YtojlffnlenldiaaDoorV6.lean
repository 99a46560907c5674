import Derived.Test.YtojlffnlenldiaaDoorV4
import Derived.Deep.RegionWith
import Derived.Deep.Cut
import Derived.Deep.CutBlock
import Derived.Laws.ResultCell
namespace Go.Proofs.YtojlffnlenldiaaDoor.F
open Go.RowKit Go.Proofs.YtojlffnlenldiaaDoorW.PrintWords Go.Proofs.YtojlffnlenldiaaDoorW.PrintLast Go.Proofs.YtojlffnlenldiaaDoorW.PrintMore
set_option linter.unusedVariables false
set_option linter.unusedSimpArgs false

theorem C_mk {w : World} {b o : Nat} {r : List ByteArray} (hl : r.length ≤ 9223372036854775807) (hcell : ∀ (j : Nat) y, r[j]? = some y → w.cell? ⟨b, o + j, none⟩ = some (.string y)) : Kd.C Kd.string w (some ⟨b, o, none⟩) r.length r := by
  refine Kd.C_of_reads (d := ByteArray.empty) ⟨rfl, hl, fun hn => ⟨_, rfl, fun j hj => ?_⟩⟩
  have h := hcell j r[j] (List.getElem?_eq_getElem hj)
  have e : (⟨b, o, none⟩ : Addr).add j = ⟨b, o + j, none⟩ := by
    unfold Addr.add
    by_cases e : j = 0
    · rw [if_pos e, e]; rfl
    · rw [if_neg e]
  rw [e, List.getD_eq_getElem?_getD, List.getElem?_eq_getElem hj]
  exact h
/-- The words of a text, three empty ones behind. -/
def wsI (l : List UInt8) : List ByteArray := (Txt.cut 32 l).map bs ++ [⟨#[]⟩, ⟨#[]⟩, ⟨#[]⟩]
def wI (l : List UInt8) (j : Nat) : ByteArray := (wsI l).getD j ⟨#[]⟩
theorem wsI_len (l : List UInt8) : 4 ≤ (wsI l).length ∧ (wsI l).length ≤ l.length + 4 := by
  have h1 := cut_length 32 l
  have h2 : 0 < (Txt.cut 32 l).length := List.length_pos_iff.2 (Txt.cut_ne 32 l)
  simp only [wsI, List.length_append, List.length_map, List.length_cons, List.length_nil]
  omega
theorem wI_get (l : List UInt8) (j : Nat) (h : j < 4) : (wsI l)[j]? = some (wI l j) := by
  have h1 := (wsI_len l).1
  unfold wI
  rw [List.getD_eq_getElem?_getD, List.getElem?_eq_getElem (show j < (wsI l).length by omega)]
  rfl
theorem wI_size (l : List UInt8) (j : Nat) : (wI l j).size ≤ l.length := by
  unfold wI
  by_cases h : j < (wsI l).length
  · rw [List.getD_eq_getElem?_getD, List.getElem?_eq_getElem h]
    have hm : (wsI l)[j] ∈ wsI l := List.getElem_mem h
    unfold wsI at hm
    rw [List.mem_append] at hm
    rcases hm with hm | hm
    · obtain ⟨x, hx, e⟩ := List.mem_map.1 hm
      rw [Option.getD_some]
      show (wsI l)[j].size ≤ _
      have e' : (wsI l)[j] = bs x := e.symm
      rw [e', bs_size]
      exact cut_mem_len 32 l x hx
    · have : (wsI l)[j] = ⟨#[]⟩ := by simp only [List.mem_cons, List.not_mem_nil, or_false, or_self] at hm; exact hm
      rw [Option.getD_some, this]
      exact Nat.zero_le _
  · rw [List.getD_eq_getElem?_getD, List.getElem?_eq_none (by omega)]
    exact Nat.zero_le _

def zc : Array Value := #[.int .i64 0, .slice none 0 0, .slice none 0 0, .int .i64 0, .string ⟨#[]⟩]
def e3 : Array Value := #[.string ⟨#[]⟩, .string ⟨#[]⟩, .string ⟨#[]⟩]
def rowS (s : ByteArray) : Array Value := ((Lib.splitB ⟨#[32]⟩ 0 (Lib.countB s ⟨#[32]⟩) s).map Value.string).toArray
structure PreI (s : ByteArray) (w W1 W2 W3 : World) (m : Int) : Prop where
  hm2 : W1.cell? ⟨1, 0, none⟩ = some (.int .i64 m)
  B3 : Below w.heap.size w W3
  S1 : W1.heap.size = w.heap.size + 1
  S3 : W3.heap.size = w.heap.size + 1 + 1 + 1
  G3 : W3.heap[w.heap.size]? = some (.cells zc 24 (0, 0))
  O3 : Kd.R Kd.string 9 W3 w.heap.size (fun _ => True) (.slice (some ⟨W1.heap.size, 0, none⟩) (Lib.countB s ⟨#[32]⟩ + 1) (Lib.countB s ⟨#[32]⟩ + 1)) ((Txt.cut 32 (bl s)).map bs)
  C3 : Kd.C Kd.string W3 (some ⟨W2.heap.size, 0, none⟩) 3 [⟨#[]⟩, ⟨#[]⟩, ⟨#[]⟩]
theorem preI (s : ByteArray) (w W1 W2 W3 : World) (m : Int) (hs : s.size ≤ 1048576) (hm : w.cell? ⟨1, 0, none⟩ = some (.int .i64 m)) (hW1 : W1 = w.alloc (.cells zc 24)) (hW2 : W2 = W1.alloc (.cells (rowS s) 9)) (hW3 : W3 = W2.alloc (.cells e3 9)) : PreI s w W1 W2 W3 m := by
  have hb1 : Below w.heap.size w W1 := by rw [hW1]; exact (Below.refl _ _).alloc (Nat.le_refl _) _
  have hs1 : W1.heap.size = w.heap.size + 1 := by rw [hW1]; simp
  have hm2 := cell_of hb1 hm
  have hg1 : W1.heap[w.heap.size]? = some (.cells zc 24 (0, 0)) := by rw [hW1]; exact blk_new _ _
  have hb2 : Below w.heap.size w W2 := by rw [hW2]; exact hb1.alloc (by omega) _
  have hs2 : W2.heap.size = w.heap.size + 1 + 1 := by rw [hW2]; simp [hs1]
  have hg2 := blk_alloc hg1 (.cells (rowS s) 9)
  rw [← hW2] at hg2
  have hO2 := split_row W1 s 32 (by omega) w.heap.size (by omega)
  change Kd.R Kd.string 9 (W1.alloc (.cells (rowS s) 9)) _ _ _ _ at hO2
  rw [← hW2] at hO2
  have hb3 : Below w.heap.size w W3 := by rw [hW3]; exact hb2.alloc (by omega) _
  have hs3 : W3.heap.size = w.heap.size + 1 + 1 + 1 := by rw [hW3]; simp [hs2]
  have hg3 := blk_alloc hg2 (.cells e3 9)
  have hO3 := Kd.R_alloc hO2 (.cells e3 9)
  rw [← hW3] at hg3 hO3
  refine ⟨hm2, hb3, hs1, hs3, hg3, hO3, ?_⟩
  refine C_mk (r := [⟨#[]⟩, ⟨#[]⟩, ⟨#[]⟩]) (by decide) (fun j y hj => ?_)
  rw [hW3]
  have h3 : j < 3 := (List.getElem?_eq_some_iff.1 hj).1
  have : (W2.alloc (.cells e3 9)).cell? ⟨W2.heap.size, 0 + j, none⟩ = e3[0 + j]? := by
    unfold World.cell?
    rw [heap_alloc_new]
    rfl
  rw [this]
  have h2 : j = 0 ∨ j = 1 ∨ j = 2 := by omega
  rcases h2 with rfl | rfl | rfl <;> (injection hj with hj; subst hj; rfl)

structure Stored (w wn : World) (g : Nat) (cs : Array Value) : Prop where
  box : wn.heap[g]? = some (.cells cs 24 (0, 0))
  keep : ∀ u : World, u.heap.size ≤ g → Below u.heap.size u w → Below u.heap.size u wn
  row : ∀ (base : Nat) (ok : Nat → Prop) (v : Value) (xs : List ByteArray), Kd.R Kd.string 9 w base ok v xs → Kd.R Kd.string 9 wn base ok v xs
  far : ∀ (g' : Nat) (o : Obj), g' ≠ g → w.heap[g']? = some o → wn.heap[g']? = some o
theorem stored1 {w w0 : World} {g : Nat} {cs : Array Value} (h : Stored w0 w g cs) (i : Nat) (u : Value) (cs' : Array Value) (e : cs.setIfInBounds i u = cs') : Stored w0 (w.setCell ⟨g, i, none⟩ u) g cs' :=
  ⟨blk_put h.box i u e, fun x hx hb => below_set (h.keep x hx hb) hx, fun base ok v xs hr => Kd.R_set (h.row base ok v xs hr) h.box (fun q hq => by rcases List.mem_cons.1 hq with rfl | hq; · decide
                                                                                                                                                    · cases hq) i u, fun g' o hne ho => (Below.heap_setCell w ⟨g, i, none⟩ u g' hne).trans (h.far g' o hne ho)⟩
theorem Stored.refl {w : World} {g : Nat} {cs : Array Value} (h : w.heap[g]? = some (.cells cs 24 (0, 0))) : Stored w w g cs := ⟨h, fun _ _ h => h, fun _ _ _ _ h => h, fun _ _ _ h => h⟩
theorem R_base {w : World} {base base' : Nat} {v : Value} {xs : List ByteArray} (h : Kd.R Kd.string 9 w base (fun _ => True) v xs) (hb : base' ≤ base) : Kd.R Kd.string 9 w base' (fun k => base ≤ k) v xs := Kd.R_lower (Kd.R_mono (Kd.R_bound h) (fun k hk => hk.2.1)) hb
theorem stored5 {w : World} {g : Nat} {cs : Array Value} (h : w.heap[g]? = some (.cells cs 24 (0, 0))) (hc : cs.size = 5) (a b c d e : Value) :
    Stored w (((((w.setCell ⟨g, 0, none⟩ a).setCell ⟨g, 1, none⟩ b).setCell ⟨g, 2, none⟩ c).setCell ⟨g, 3, none⟩ d).setCell ⟨g, 4, none⟩ e) g #[a, b, c, d, e] := by
  have h0 : Stored w w g cs := ⟨h, fun _ _ h => h, fun _ _ _ _ h => h, fun _ _ _ h => h⟩
  obtain ⟨l⟩ := cs
  match l, hc with
  | [x0, x1, x2, x3, x4], _ => exact stored1 (stored1 (stored1 (stored1 (stored1 h0 0 a #[a, x1, x2, x3, x4] rfl) 1 b #[a, b, x2, x3, x4] rfl) 2 c #[a, b, c, x3, x4] rfl) 3 d #[a, b, c, d, x4] rfl) 4 e _ rfl

def cc (k : Int) (v1 v2 : Value) (n : Int) (d : ByteArray) : Array Value := #[.int .i64 k, v1, v2, .int .i64 n, .string d]
def kindI (l : List UInt8) : Int := idxOf (WORDS.map bs) (wI l 0)
def destI (l : List UInt8) : List ByteArray := if kindI l = 5 then pathRd (bl (wI l 2)) else []
def numI (l : List UInt8) : Int := if kindI l = 1 ∨ kindI l = 2 ∨ kindI l = 3 ∨ kindI l = 6 then atoiN (bl (wI l 2)) else 0
def dataI (l : List UInt8) : ByteArray := if kindI l = 2 then bs (unhexL (bl (wI l 3))) else ⟨#[]⟩
/-- What impl.CallParse reads, before it looks whether it is written so. -/
def candI (l : List UInt8) : Call := ⟨kindI l, pathRd (bl (wI l 1)), destI l, numI l, dataI l⟩
def okI (l : List UInt8) : Bool := decide (l ≠ [] ∧ callT (candI l) = l)
def resI (l : List UInt8) : Call := if okI l = true then candI l else ⟨0, [], [], 0, ⟨#[]⟩⟩
theorem pathRd_small (l : List UInt8) (h : l.length ≤ 4194304) : Small (pathRd l) := by
  unfold pathRd
  split
  · exact ⟨by simp, by simp⟩
  · refine cut_small 47 _ ?_
    unfold noSlash
    split
    · rw [List.length_tail]; omega
    · exact h
theorem candI_num (l : List UInt8) (h : isCallB (candI l) = true) : 0 ≤ (candI l).num ∧ (candI l).num < 100 := by
  unfold isCallB at h
  split at h
  · simp only [between, Bool.and_eq_true, decide_eq_true_eq] at h; omega
  · rename_i k1
    split at h
    · simp only [between, Bool.and_eq_true, decide_eq_true_eq] at h; omega
    · rename_i k2
      have : (candI l).num = 0 := by
        show numI l = 0
        unfold numI
        rw [if_neg]
        have e : (candI l).kind = kindI l := rfl
        rw [e] at k1 k2
        omega
      omega
set_option maxRecDepth 100000 in
set_option maxHeartbeats 2000000 in
theorem parseI_calls (s : ByteArray) (w : World) (hE : Env w) (hs : s.size ≤ 1048576) :
    Calls Tryd.prog 5 #[.string s] w fun e w' => ∃ (A1 : Option Addr) (c1 : Nat) (A2 : Option Addr) (c2 X : Nat), e = .returned (.tuple #[.agg #[.int .i64 (resI (bl s)).kind, .slice A1 (resI (bl s)).path.length c1, .slice A2 (resI (bl s)).dest.length c2, .int .i64 (resI (bl s)).num, .string (resI (bl s)).data], .bool (okI (bl s))]) ∧ Kd.R Kd.string 9 w' w.heap.size (fun k => k < X) (.slice A1 (resI (bl s)).path.length c1) (resI (bl s)).path ∧ Kd.R Kd.string 9 w' w.heap.size (fun k => X ≤ k) (.slice A2 (resI (bl s)).dest.length c2) (resI (bl s)).dest ∧ Below w.heap.size w w' := by
  obtain ⟨kq, hkq⟩ := (Index_ev (WORDS.map bs) (wI (bl s) 0) (by decide)).rounds
  have HQ := Lib.hid hkq
  obtain ⟨m, hm⟩ := hE.len
  obtain ⟨W1, hW1⟩ : ∃ W1, W1 = w.alloc (.cells zc 24) := ⟨_, rfl⟩
  obtain ⟨W2, hW2⟩ : ∃ W2, W2 = W1.alloc (.cells (rowS s) 9) := ⟨_, rfl⟩
  obtain ⟨W3, hW3⟩ : ∃ W3, W3 = W2.alloc (.cells e3 9) := ⟨_, rfl⟩
  have HP := Lib.hid (preI s w W1 W2 W3 m hs hm hW1 hW2 hW3)
  have HW1 := Lib.hid hW1
  have HW2 := Lib.hid hW2
  have HW3 := Lib.hid hW3
  have hm2 := HP.out.hm2
  clear hW1 hW2 hW3 hm
  have HE := Lib.hid hE
  have HS := Lib.hid hs
  clear hkq hE
  go_enter Tryd.func5, Tryd.ntmps5
  go_wp2_with fail
  unfold zc at HW1
  rw [← HW1.out]
  refine (Tryd.strings_Split s ⟨#[32]⟩ m _ (by omega) (by simpa using hm2) (by show 1 ≤ 1; omega)).mono ?_
  rintro e w' ⟨rfl, hw'⟩
  have hw2 : w' = W2 := hw'.trans HW2.out.symm
  subst hw2
  clear hw'
  unfold e3 at HW3
  have hl3 : (((Txt.cut 32 (bl s)).map bs).length + 3) * 16 ≤ 140737488355328 := by
    have := cut_length 32 (bl s)
    rw [bl_len] at this
    rw [List.length_map]
    omega
  have HL3 := Lib.hid hl3
  clear hl3
  go_upto_region 2 with ((with_reducible refine gate_builtin (b := .append) (xs := #[.tmp 7, .tmp 8]) rfl ?_); at_builtin; go_loud (rw [← HW3.out]; refine Kd.R_append_row Value.string ByteArray.empty (h1 := fun _ => rfl) (w0 := w) w.heap.size rfl (.tmp 7) (.tmp 8) 22 9 (.string ⟨#[]⟩) 16 rfl Tryd.underlying22 info9 rfl (by decide) (.slice (some ⟨W1.heap.size, 0, none⟩) (Lib.countB s ⟨#[32]⟩ + 1) (Lib.countB s ⟨#[32]⟩ + 1)) ((Txt.cut 32 (bl s)).map bs) [⟨#[]⟩, ⟨#[]⟩, ⟨#[]⟩] (some ⟨w'.heap.size, 0, none⟩) 3 3 (fun _ => True) rfl rfl (fun _ _ => trivial) HP.out.O3 HP.out.C3 HP.out.B3 HP.out.B3.size HL3.out ?_; intro v4 w4 hr4 hb4 hg4 hat4))
  have hG4 : w4.heap[w.heap.size]? = some (.cells zc 24 (0, 0)) := blk_grown HP.out.G3 hg4 (by have := HP.out.S1; simp only [Value.ownBlock]; intro e; injection e with e; omega)
  clear hg4 hat4 HW1 HW2 HW3 hm2 HL3 HP
  have hr4' : Kd.R Kd.string 9 w4 w.heap.size (fun _ => True) v4 (wsI (bl s)) := hr4
  clear hr4
  obtain ⟨A4, c4, e4⟩ := Kd.R_slice hr4'
  subst e4
  obtain ⟨_, hc4, hC4⟩ := Kd.R_reads' hr4'
  have hn := (wsI_len (bl s)).1
  obtain ⟨b4, o4, rfl, _, hcell⟩ := C_cells hC4 (by intro e; rw [e] at hn; simp at hn)
  have u0 : w4.cell? ⟨b4, o4, none⟩ = some (.string (wI (bl s) 0)) := hcell 0 _ (wI_get _ 0 (by omega))
  have u1 : w4.cell? ⟨b4, o4 + 1, none⟩ = some (.string (wI (bl s) 1)) := hcell 1 _ (wI_get _ 1 (by omega))
  have u2 : w4.cell? ⟨b4, o4 + 2, none⟩ = some (.string (wI (bl s) 2)) := hcell 2 _ (wI_get _ 2 (by omega))
  have u3 : w4.cell? ⟨b4, o4 + 3, none⟩ = some (.string (wI (bl s) 3)) := hcell 3 _ (wI_get _ 3 (by omega))
  obtain ⟨n4, hn4⟩ : ∃ n, n = (wsI (bl s)).length := ⟨_, rfl⟩
  rw [← hn4] at hn hc4
  rw [← hn4]
  have l0 : (0 : Int) < (n4 : Int) := by omega
  have l1 : (1 : Int) < (n4 : Int) := by omega
  have l2 : (2 : Int) < (n4 : Int) := by omega
  have l3 : (3 : Int) < (n4 : Int) := by omega
  have m0 : 0 < n4 := by omega
  have m1 : 1 < n4 := by omega
  have m2 : 2 < n4 := by omega
  have m3 : 3 < n4 := by omega
  clear hcell hC4 hr4' hn4
  have hE4 := HE.out.below hb4
  obtain ⟨bw, ow, cw, hwv, hcw, hww⟩ := hE4.words
  have hCw : Kd.C Kd.string w4 (some ⟨bw, ow, none⟩) (WORDS.map bs).length (WORDS.map bs) := C_mk (by decide) (fun j y hj => by
    rw [List.getElem?_map] at hj
    obtain ⟨x, hx, e⟩ := Option.map_eq_some_iff.1 hj
    rw [← e]
    exact hww j x hx)
  have HCw := Lib.hid hCw
  have HE4 := Lib.hid hE4
  have HB4 := Lib.hid hb4
  have HG4 := Lib.hid hG4
  have hcw' : (WORDS.map bs).length ≤ cw := hcw
  have HCW := Lib.hid hcw'
  clear hE4 hb4 hG4 hww hCw hcw hcw'
  go_cut [5] from 6 (fun v5 wc => ∃ gc A1 c1, v5 = .pointer (some ⟨gc, 0, none⟩) ∧ wc.heap[gc]? = some (.cells (cc (kindI (bl s)) (.slice A1 (pathRd (bl (wI (bl s) 1))).length c1) (.slice none 0 0) 0 ⟨#[]⟩) 24 (0, 0)) ∧ w4.heap.size ≤ gc ∧ Kd.R Kd.string 9 wc w4.heap.size (fun _ => True) (.slice A1 (pathRd (bl (wI (bl s) 1))).length c1) (pathRd (bl (wI (bl s) 1))) ∧ Below w4.heap.size w4 wc)
  case first =>
    refine start_ (n := 12) (S := fun w' => w'.cell? ⟨0, 0, none⟩ = some (.slice (some ⟨bw, ow, none⟩) 7 cw) ∧ w'.cell? ⟨b4, o4, none⟩ = some (.string (wI (bl s) 0)) ∧ w'.cell? ⟨b4, o4 + 1, none⟩ = some (.string (wI (bl s) 1))) (ds := []) #[false, false, false, false, false, false, false, false, false, false, false, false] (by kernel_rfl) rfl rfl ⟨hwv, u0, u1⟩ (fun hHeld => ?_)
    have HX := Lib.hid (below_drew1 (Below.refl w4.heap.size w4))
    have BX := trivial
    have GE := trivial
    have HR := trivial
    refine pure_ (i := 1) (N := (some 11)) (v := ?_) (a' := ?_) #[false, true, false, false, false, false, false, false, false, false, false, false] rfl rfl (by kernel_rfl) (fun _ _ _ h => h) (Or.inl ⟨by rfl, ?_⟩) ?_ ?_
    rotate_left
    · intro w'
      go_simp
      with_reducible rfl
    rotate_left
    · simp only [Act.put, List.setIfInBounds_toArray, List.set_cons_zero, List.set_cons_succ, i64_w, i32_w]
      rfl
    refine pure_ (i := 2) (N := (some 12)) (v := ?_) (a' := ?_) #[false, true, true, false, false, false, false, false, false, false, false, false] rfl rfl (by kernel_rfl) (fun _ _ _ h => h) (Or.inl ⟨by rfl, ?_⟩) ?_ ?_
    rotate_left
    · intro w'
      go_simp
      with_reducible rfl
    rotate_left
    · simp only [Act.put, List.setIfInBounds_toArray, List.set_cons_zero, List.set_cons_succ, i64_w, i32_w]
      rfl
    refine pure_ (i := 5) (N := (some 15)) (v := ?_) (a' := ?_) #[false, true, true, false, false, true, false, false, false, false, false, false] rfl rfl (by kernel_rfl) (fun _ _ _ h => h) (Or.inl ⟨by rfl, ?_⟩) ?_ ?_
    rotate_left
    · intro w'
      go_simp
      with_reducible rfl
    rotate_left
    · simp only [Act.put, List.setIfInBounds_toArray, List.set_cons_zero, List.set_cons_succ, i64_w, i32_w]
      rfl
    refine pure_ (i := 6) (N := (some 16)) (v := ?_) (a' := ?_) #[false, true, true, false, false, true, true, false, false, false, false, false] rfl rfl (by kernel_rfl) (fun _ _ _ h => h) (Or.inl ⟨by rfl, ?_⟩) ?_ ?_
    rotate_left
    · intro w'
      go_simp
      with_reducible rfl
    rotate_left
    · simp only [Act.put, List.setIfInBounds_toArray, List.set_cons_zero, List.set_cons_succ, i64_w, i32_w]
      rfl
    refine take_ (i := 0) (N := (some 10)) (v := ?_) (a' := ?_) #[true, true, true, false, false, true, true, false, false, false, false, false] rfl rfl (by kernel_rfl) (fun _ _ _ h => h) (Or.inl ⟨by rfl, ?_⟩) hHeld ?_ ?_
    rotate_left
    · rintro w' ⟨s0, s1, s2⟩
      go_simp
      with_reducible rfl
    rotate_left
    · simp only [Act.put, List.setIfInBounds_toArray, List.set_cons_zero, List.set_cons_succ, i64_w, i32_w]
      rfl
    refine take_ (i := 3) (N := (some 13)) (v := ?_) (a' := ?_) #[true, true, true, true, false, true, true, false, false, false, false, false] rfl rfl (by kernel_rfl) (fun _ _ _ h => h) (Or.inl ⟨by rfl, ?_⟩) hHeld ?_ ?_
    rotate_left
    · rintro w' ⟨s0, s1, s2⟩
      go_simp
      with_reducible rfl
    rotate_left
    · simp only [Act.put, List.setIfInBounds_toArray, List.set_cons_zero, List.set_cons_succ, i64_w, i32_w]
      rfl
    refine take_ (i := 7) (N := (some 17)) (v := ?_) (a' := ?_) #[true, true, true, true, false, true, true, true, false, false, false, false] rfl rfl (by kernel_rfl) (fun _ _ _ h => h) (Or.inl ⟨by rfl, ?_⟩) hHeld ?_ ?_
    rotate_left
    · rintro w' ⟨s0, s1, s2⟩
      go_simp
      with_reducible rfl
    rotate_left
    · simp only [Act.put, List.setIfInBounds_toArray, List.set_cons_zero, List.set_cons_succ, i64_w, i32_w]
      rfl
    refine two_ (i := 4) (j := 10) (Ni := (some 14)) (Nj := (some 5)) #[true, true, true, true, true, true, true, true, false, false, false, false] #[true, true, true, true, false, true, true, true, false, false, true, false] rfl rfl rfl rfl (by kernel_rfl) (by decide) (by decide) (fun K hK => ?_) (fun K hK => ?_)
    · skip
      refine goes_ Tryd.func16 (by kernel_rfl) rfl #[.slice (some ⟨bw, ow, none⟩) 7 cw, .string (wI (bl s) 0)] (by rfl) rfl rfl (by (try simp only [List.map_toArray, List.map_cons, List.map_nil]); first | done | rfl) ?_
      refine (slices_Index_string_string.calls kq (some ⟨bw, ow, none⟩) cw (WORDS.map bs) (wI (bl s) 0) _ _ (Kd.C_below HCw.out HX.out) HCW.out HQ.out).mono ?_
      rintro e wy ⟨rfl, ⟨nd, rfl⟩⟩
      refine ⟨_, rfl, ?_⟩
      replace HX := Lib.hid (pw_below_drewN HX.out nd)
      (try replace BX := blk_drewN BX nd)
      (try replace HR := Lib.hid (Kd.R_below HR.out (pw_below_drewN (Below.refl _ _) nd)))
      refine hK.out _ _ ⟨cell_of HX.out hwv, cell_of HX.out u0, cell_of HX.out u1⟩ (fun hHeld => ?_)
      clear hK K
      refine norm_ (a' := ?_) ?_ ?_
      rotate_left
      · show Act.put _ (some 14) _ = _
        simp only [Act.put, List.setIfInBounds_toArray, List.set_cons_zero, List.set_cons_succ, i64_w, i32_w]
        rfl
      refine two_ (i := 8) (j := 10) (Ni := (some 18)) (Nj := (some 5)) #[true, true, true, true, true, true, true, true, true, false, false, false] #[true, true, true, true, true, true, true, true, false, false, true, false] rfl rfl rfl rfl (by kernel_rfl) (by decide) (by decide) (fun K hK => ?_) (fun K hK => ?_)
      · skip
        refine goes_ Tryd.func17 (by kernel_rfl) rfl #[.string (wI (bl s) 1)] (by rfl) rfl rfl (by (try simp only [List.map_toArray, List.map_cons, List.map_nil]); first | done | rfl) ?_
        refine (pathRead_calls (wI (bl s) 1) _ (HE4.out.below HX.out) (by have := wI_size (bl s) 1; rw [bl_len] at this; omega)).mono ?_
        rintro e w6 ⟨v6, rfl, hr6, hb6⟩
        refine ⟨_, rfl, ?_⟩
        replace HR := Lib.hid (Kd.R_lower hr6 HX.out.size)
        replace HX := Lib.hid (HX.out.trans (hb6.mono HX.out.size))
        (try replace BX := blk_below BX hb6)
        clear hr6 hb6
        obtain ⟨A6, c6, e6⟩ := Kd.R_slice HR.out
        subst e6
        refine hK.out _ _ ⟨cell_of HX.out hwv, cell_of HX.out u0, cell_of HX.out u1⟩ (fun hHeld => ?_)
        clear hK K
        refine norm_ (a' := ?_) ?_ ?_
        rotate_left
        · show Act.put _ (some 18) _ = _
          simp only [Act.put, List.setIfInBounds_toArray, List.set_cons_zero, List.set_cons_succ, i64_w, i32_w]
          rfl
        refine pure_ (i := 9) (N := (some 19)) (v := ?_) (a' := ?_) #[true, true, true, true, true, true, true, true, true, true, false, false] rfl rfl (by kernel_rfl) (fun _ _ _ h => h) (Or.inl ⟨by rfl, ?_⟩) ?_ ?_
        rotate_left
        · intro w'
          go_simp
          with_reducible rfl
        rotate_left
        · simp only [Act.put, List.setIfInBounds_toArray, List.set_cons_zero, List.set_cons_succ, i64_w, i32_w]
          rfl
        refine one_ (i := 10) (N := (some 5)) #[true, true, true, true, true, true, true, true, true, true, true, false] rfl rfl (by kernel_rfl) (by decide) (fun K hK => ?_)
        refine box_step ?hg (N := 5) ?hd (cs := #[.int .i64 0, .slice none 0 0, .slice none 0 0, .int .i64 0, .string ⟨#[]⟩]) (t := 24) ?hr ?_; (case hd => rfl); (case hg => rfl); (case hr => first | (go_simp; done) | (go_simp; rfl))
        intro gc hgc w7 hbox hb7
        replace GE := Lib.hid (show w4.heap.size ≤ gc by rw [hgc]; exact HX.out.size)
        replace HX := Lib.hid (HX.out.trans (hb7.mono HX.out.size))
        (try replace HR := Lib.hid (Kd.R_below HR.out hb7))
        replace BX := hbox
        clear hgc hb7 hbox
        refine hK.out _ _ ⟨cell_of HX.out hwv, cell_of HX.out u0, cell_of HX.out u1⟩ (fun hHeld => ?_)
        clear hK K
        refine norm_ (a' := ?_) ?_ ?_
        rotate_left
        · show Act.put _ (some 5) _ = _
          simp only [Act.put, List.setIfInBounds_toArray, List.set_cons_zero, List.set_cons_succ, i64_w, i32_w]
          rfl
        refine one_ (i := 11) (N := none) #[true, true, true, true, true, true, true, true, true, true, true, true] rfl rfl (by kernel_rfl) (by decide) (fun K hK => ?_)
        have z0 := (blk_cell BX 0).trans rfl
        have y0 := blk_frozen BX 0
        have z1 := (blk_cell BX 1).trans rfl
        have y1 := blk_frozen BX 1
        have z2 := (blk_cell BX 2).trans rfl
        have y2 := blk_frozen BX 2
        have z3 := (blk_cell BX 3).trans rfl
        have y3 := blk_frozen BX 3
        have z4 := (blk_cell BX 4).trans rfl
        have y4 := blk_frozen BX 4
        refine skip_ (w1 := ?_) (by rfl) rfl ?_ ?_
        rotate_left
        · go_simp
          rfl
        clear z0 y0 z1 y1 z2 y2 z3 y3 z4 y4
        have ST := Lib.hid (stored5 BX rfl (.int .i64 (kindI (bl s))) (.slice A6 (pathRd (bl (wI (bl s) 1))).length c6) (.slice none 0 0) (.int .i64 0) (.string ⟨#[]⟩))
        have HX2 := Lib.hid (ST.out.keep w4 GE.out HX.out)
        refine hK.out _ _ ⟨cell_of HX2.out hwv, cell_of HX2.out u0, cell_of HX2.out u1⟩ (fun hHeld => ?_)
        clear hK K
        refine done_ (by kernel_rfl) ?_
        go_wp2
        go_meet
        case rel => exact ⟨gc, A6, c6, rfl, ST.out.box, GE.out, ST.out.row _ _ _ _ HR.out, HX2.out⟩
      · skip
        refine box_step ?hg (N := 5) ?hd (cs := #[.int .i64 0, .slice none 0 0, .slice none 0 0, .int .i64 0, .string ⟨#[]⟩]) (t := 24) ?hr ?_; (case hd => rfl); (case hg => rfl); (case hr => first | (go_simp; done) | (go_simp; rfl))
        intro gc hgc w7 hbox hb7
        replace GE := Lib.hid (show w4.heap.size ≤ gc by rw [hgc]; exact HX.out.size)
        replace HX := Lib.hid (HX.out.trans (hb7.mono HX.out.size))
        (try replace HR := Lib.hid (Kd.R_below HR.out hb7))
        replace BX := hbox
        clear hgc hb7 hbox
        refine hK.out _ _ ⟨cell_of HX.out hwv, cell_of HX.out u0, cell_of HX.out u1⟩ (fun hHeld => ?_)
        clear hK K
        refine norm_ (a' := ?_) ?_ ?_
        rotate_left
        · show Act.put _ (some 5) _ = _
          simp only [Act.put, List.setIfInBounds_toArray, List.set_cons_zero, List.set_cons_succ, i64_w, i32_w]
          rfl
        refine one_ (i := 8) (N := (some 18)) #[true, true, true, true, true, true, true, true, true, false, true, false] rfl rfl (by kernel_rfl) (by decide) (fun K hK => ?_)
        refine goes_ Tryd.func17 (by kernel_rfl) rfl #[.string (wI (bl s) 1)] (by rfl) rfl rfl (by (try simp only [List.map_toArray, List.map_cons, List.map_nil]); first | done | rfl) ?_
        refine (pathRead_calls (wI (bl s) 1) _ (HE4.out.below HX.out) (by have := wI_size (bl s) 1; rw [bl_len] at this; omega)).mono ?_
        rintro e w6 ⟨v6, rfl, hr6, hb6⟩
        refine ⟨_, rfl, ?_⟩
        replace HR := Lib.hid (Kd.R_lower hr6 HX.out.size)
        replace HX := Lib.hid (HX.out.trans (hb6.mono HX.out.size))
        (try replace BX := blk_below BX hb6)
        clear hr6 hb6
        obtain ⟨A6, c6, e6⟩ := Kd.R_slice HR.out
        subst e6
        refine hK.out _ _ ⟨cell_of HX.out hwv, cell_of HX.out u0, cell_of HX.out u1⟩ (fun hHeld => ?_)
        clear hK K
        refine norm_ (a' := ?_) ?_ ?_
        rotate_left
        · show Act.put _ (some 18) _ = _
          simp only [Act.put, List.setIfInBounds_toArray, List.set_cons_zero, List.set_cons_succ, i64_w, i32_w]
          rfl
        refine pure_ (i := 9) (N := (some 19)) (v := ?_) (a' := ?_) #[true, true, true, true, true, true, true, true, true, true, true, false] rfl rfl (by kernel_rfl) (fun _ _ _ h => h) (Or.inl ⟨by rfl, ?_⟩) ?_ ?_
        rotate_left
        · intro w'
          go_simp
          with_reducible rfl
        rotate_left
        · simp only [Act.put, List.setIfInBounds_toArray, List.set_cons_zero, List.set_cons_succ, i64_w, i32_w]
          rfl
        refine one_ (i := 11) (N := none) #[true, true, true, true, true, true, true, true, true, true, true, true] rfl rfl (by kernel_rfl) (by decide) (fun K hK => ?_)
        have z0 := (blk_cell BX 0).trans rfl
        have y0 := blk_frozen BX 0
        have z1 := (blk_cell BX 1).trans rfl
        have y1 := blk_frozen BX 1
        have z2 := (blk_cell BX 2).trans rfl
        have y2 := blk_frozen BX 2
        have z3 := (blk_cell BX 3).trans rfl
        have y3 := blk_frozen BX 3
        have z4 := (blk_cell BX 4).trans rfl
        have y4 := blk_frozen BX 4
        refine skip_ (w1 := ?_) (by rfl) rfl ?_ ?_
        rotate_left
        · go_simp
          rfl
        clear z0 y0 z1 y1 z2 y2 z3 y3 z4 y4
        have ST := Lib.hid (stored5 BX rfl (.int .i64 (kindI (bl s))) (.slice A6 (pathRd (bl (wI (bl s) 1))).length c6) (.slice none 0 0) (.int .i64 0) (.string ⟨#[]⟩))
        have HX2 := Lib.hid (ST.out.keep w4 GE.out HX.out)
        refine hK.out _ _ ⟨cell_of HX2.out hwv, cell_of HX2.out u0, cell_of HX2.out u1⟩ (fun hHeld => ?_)
        clear hK K
        refine done_ (by kernel_rfl) ?_
        go_wp2
        go_meet
        case rel => exact ⟨gc, A6, c6, rfl, ST.out.box, GE.out, ST.out.row _ _ _ _ HR.out, HX2.out⟩
    · skip
      refine box_step ?hg (N := 5) ?hd (cs := #[.int .i64 0, .slice none 0 0, .slice none 0 0, .int .i64 0, .string ⟨#[]⟩]) (t := 24) ?hr ?_; (case hd => rfl); (case hg => rfl); (case hr => first | (go_simp; done) | (go_simp; rfl))
      intro gc hgc w7 hbox hb7
      replace GE := Lib.hid (show w4.heap.size ≤ gc by rw [hgc]; exact HX.out.size)
      replace HX := Lib.hid (HX.out.trans (hb7.mono HX.out.size))
      (try replace HR := Lib.hid (Kd.R_below HR.out hb7))
      replace BX := hbox
      clear hgc hb7 hbox
      refine hK.out _ _ ⟨cell_of HX.out hwv, cell_of HX.out u0, cell_of HX.out u1⟩ (fun hHeld => ?_)
      clear hK K
      refine norm_ (a' := ?_) ?_ ?_
      rotate_left
      · show Act.put _ (some 5) _ = _
        simp only [Act.put, List.setIfInBounds_toArray, List.set_cons_zero, List.set_cons_succ, i64_w, i32_w]
        rfl
      refine one_ (i := 4) (N := (some 14)) #[true, true, true, true, true, true, true, true, false, false, true, false] rfl rfl (by kernel_rfl) (by decide) (fun K hK => ?_)
      refine goes_ Tryd.func16 (by kernel_rfl) rfl #[.slice (some ⟨bw, ow, none⟩) 7 cw, .string (wI (bl s) 0)] (by rfl) rfl rfl (by (try simp only [List.map_toArray, List.map_cons, List.map_nil]); first | done | rfl) ?_
      refine (slices_Index_string_string.calls kq (some ⟨bw, ow, none⟩) cw (WORDS.map bs) (wI (bl s) 0) _ _ (Kd.C_below HCw.out HX.out) HCW.out HQ.out).mono ?_
      rintro e wy ⟨rfl, ⟨nd, rfl⟩⟩
      refine ⟨_, rfl, ?_⟩
      replace HX := Lib.hid (pw_below_drewN HX.out nd)
      (try replace BX := blk_drewN BX nd)
      (try replace HR := Lib.hid (Kd.R_below HR.out (pw_below_drewN (Below.refl _ _) nd)))
      refine hK.out _ _ ⟨cell_of HX.out hwv, cell_of HX.out u0, cell_of HX.out u1⟩ (fun hHeld => ?_)
      clear hK K
      refine norm_ (a' := ?_) ?_ ?_
      rotate_left
      · show Act.put _ (some 14) _ = _
        simp only [Act.put, List.setIfInBounds_toArray, List.set_cons_zero, List.set_cons_succ, i64_w, i32_w]
        rfl
      refine one_ (i := 8) (N := (some 18)) #[true, true, true, true, true, true, true, true, true, false, true, false] rfl rfl (by kernel_rfl) (by decide) (fun K hK => ?_)
      refine goes_ Tryd.func17 (by kernel_rfl) rfl #[.string (wI (bl s) 1)] (by rfl) rfl rfl (by (try simp only [List.map_toArray, List.map_cons, List.map_nil]); first | done | rfl) ?_
      refine (pathRead_calls (wI (bl s) 1) _ (HE4.out.below HX.out) (by have := wI_size (bl s) 1; rw [bl_len] at this; omega)).mono ?_
      rintro e w6 ⟨v6, rfl, hr6, hb6⟩
      refine ⟨_, rfl, ?_⟩
      replace HR := Lib.hid (Kd.R_lower hr6 HX.out.size)
      replace HX := Lib.hid (HX.out.trans (hb6.mono HX.out.size))
      (try replace BX := blk_below BX hb6)
      clear hr6 hb6
      obtain ⟨A6, c6, e6⟩ := Kd.R_slice HR.out
      subst e6
      refine hK.out _ _ ⟨cell_of HX.out hwv, cell_of HX.out u0, cell_of HX.out u1⟩ (fun hHeld => ?_)
      clear hK K
      refine norm_ (a' := ?_) ?_ ?_
      rotate_left
      · show Act.put _ (some 18) _ = _
        simp only [Act.put, List.setIfInBounds_toArray, List.set_cons_zero, List.set_cons_succ, i64_w, i32_w]
        rfl
      refine pure_ (i := 9) (N := (some 19)) (v := ?_) (a' := ?_) #[true, true, true, true, true, true, true, true, true, true, true, false] rfl rfl (by kernel_rfl) (fun _ _ _ h => h) (Or.inl ⟨by rfl, ?_⟩) ?_ ?_
      rotate_left
      · intro w'
        go_simp
        with_reducible rfl
      rotate_left
      · simp only [Act.put, List.setIfInBounds_toArray, List.set_cons_zero, List.set_cons_succ, i64_w, i32_w]
        rfl
      refine one_ (i := 11) (N := none) #[true, true, true, true, true, true, true, true, true, true, true, true] rfl rfl (by kernel_rfl) (by decide) (fun K hK => ?_)
      have z0 := (blk_cell BX 0).trans rfl
      have y0 := blk_frozen BX 0
      have z1 := (blk_cell BX 1).trans rfl
      have y1 := blk_frozen BX 1
      have z2 := (blk_cell BX 2).trans rfl
      have y2 := blk_frozen BX 2
      have z3 := (blk_cell BX 3).trans rfl
      have y3 := blk_frozen BX 3
      have z4 := (blk_cell BX 4).trans rfl
      have y4 := blk_frozen BX 4
      refine skip_ (w1 := ?_) (by rfl) rfl ?_ ?_
      rotate_left
      · go_simp
        rfl
      clear z0 y0 z1 y1 z2 y2 z3 y3 z4 y4
      have ST := Lib.hid (stored5 BX rfl (.int .i64 (kindI (bl s))) (.slice A6 (pathRd (bl (wI (bl s) 1))).length c6) (.slice none 0 0) (.int .i64 0) (.string ⟨#[]⟩))
      have HX2 := Lib.hid (ST.out.keep w4 GE.out HX.out)
      refine hK.out _ _ ⟨cell_of HX2.out hwv, cell_of HX2.out u0, cell_of HX2.out u1⟩ (fun hHeld => ?_)
      clear hK K
      refine done_ (by kernel_rfl) ?_
      go_wp2
      go_meet
      case rel => exact ⟨gc, A6, c6, rfl, ST.out.box, GE.out, ST.out.row _ _ _ _ HR.out, HX2.out⟩
  case rest =>
    obtain ⟨gc, A1, c1, rfl, hbox, hge, hr, hbc⟩ := hcut
    obtain ⟨wp, hwp⟩ : ∃ u, u = wc := ⟨wc, rfl⟩
    subst hwp
    have hX := Kd.R_lt hr
    have HR := Lib.hid (show Kd.R Kd.string 9 wp w4.heap.size (fun k => k < wp.heap.size) (.slice A1 (pathRd (bl (wI (bl s) 1))).length c1) (pathRd (bl (wI (bl s) 1))) from ⟨hX, hr.2⟩)
    have HB := Lib.hid hbc
    have GE := Lib.hid hge
    have BX := Lib.hid hbox
    have z0 : wp.cell? ⟨gc, 0, none⟩ = some (.int .i64 (kindI (bl s))) := (blk_cell hbox 0).trans rfl
    have p2 := cell_of hbc u2
    have p3 := cell_of hbc u3
    have q2 := wI_size (bl s) 2
    have q3 := wI_size (bl s) 3
    rw [bl_len] at q2 q3
    clear hX hr hbc hge hbox hwv u0 u1 HCw HCW HQ
    go_upto_block 0 with (fail)
    go_cut [5] from 6 (fun v5 wd => v5 = .pointer (some ⟨gc, 0, none⟩) ∧ ∃ A2 c2, wd.heap[gc]? = some (.cells (cc (kindI (bl s)) (.slice A1 (pathRd (bl (wI (bl s) 1))).length c1) (.slice A2 (destI (bl s)).length c2) (numI (bl s)) (dataI (bl s))) 24 (0, 0)) ∧ Kd.R Kd.string 9 wd w4.heap.size (fun k => k < wp.heap.size) (.slice A1 (pathRd (bl (wI (bl s) 1))).length c1) (pathRd (bl (wI (bl s) 1))) ∧ Kd.R Kd.string 9 wd w4.heap.size (fun k => wp.heap.size ≤ k) (.slice A2 (destI (bl s)).length c2) (destI (bl s)) ∧ Below w4.heap.size w4 wd)
    case first =>
      by_cases hk : kindI (bl s) = 5 ∨ kindI (bl s) = 1 ∨ kindI (bl s) = 3 ∨ kindI (bl s) = 6 ∨ kindI (bl s) = 2
      · rcases hk with hk | hk | hk | hk | hk
        · have hk : kindI (bl s) = 5 := hk
          have t5 : (kindI (bl s) == 5) = true := beq_iff_eq.2 hk
          have t1 : (kindI (bl s) == 1) = false := beq_eq_false_iff_ne.2 (by omega)
          have t2 : (kindI (bl s) == 2) = false := beq_eq_false_iff_ne.2 (by omega)
          have t3 : (kindI (bl s) == 3) = false := beq_eq_false_iff_ne.2 (by omega)
          have t6 : (kindI (bl s) == 6) = false := beq_eq_false_iff_ne.2 (by omega)
          have HD := Lib.hid (show destI (bl s) = pathRd (bl (wI (bl s) 2)) by unfold destI; rw [if_pos (by omega)])
          have HN := Lib.hid (show numI (bl s) = 0 by unfold numI; rw [if_neg (by omega)])
          have HDA := Lib.hid (show dataI (bl s) = ⟨#[]⟩ by unfold dataI; rw [if_neg (by omega)])
          clear hk
          go_wp2_with fail
          refine (pathRead_calls (wI (bl s) 2) _ (HE4.out.below HB.out) (by omega)).mono ?_
          rintro e w8 ⟨v8, rfl, hr8, hb8⟩
          obtain ⟨A8, c8, e8⟩ := Kd.R_slice hr8
          subst e8
          have B8 := blk_below BX.out hb8
          have z2 : w8.cell? ⟨gc, 2, none⟩ = some (.slice none 0 0) := (blk_cell B8 2).trans rfl
          have y2 := blk_frozen B8 2
          have HR8 := Lib.hid hr8
          have HB8 := Lib.hid hb8
          have BX8 := Lib.hid B8
          clear hr8 hb8 B8
          go_wp2
          go_meet
          case rel =>
            refine ⟨rfl, A8, c8, ?_⟩
            rw [HD.out, HN.out, HDA.out]
            have ST := stored1 (Stored.refl BX8.out) 2 (.slice A8 (pathRd (bl (wI (bl s) 2))).length c8) _ rfl
            exact ⟨ST.box, ST.row _ _ _ _ (Kd.R_below HR.out HB8.out), ST.row _ _ _ _ (R_base HR8.out HB.out.size), ST.keep _ GE.out (HB.out.trans (HB8.out.mono HB.out.size))⟩
        · have hk : kindI (bl s) = 1 := hk
          have t5 : (kindI (bl s) == 5) = false := beq_eq_false_iff_ne.2 (by omega)
          have t1 : (kindI (bl s) == 1) = true := beq_iff_eq.2 hk
          have t2 : (kindI (bl s) == 2) = false := beq_eq_false_iff_ne.2 (by omega)
          have t3 : (kindI (bl s) == 3) = false := beq_eq_false_iff_ne.2 (by omega)
          have t6 : (kindI (bl s) == 6) = false := beq_eq_false_iff_ne.2 (by omega)
          have HD := Lib.hid (show destI (bl s) = [] by unfold destI; rw [if_neg (by omega)])
          have HN := Lib.hid (show numI (bl s) = atoiN (bl (wI (bl s) 2)) by unfold numI; rw [if_pos (by omega)])
          have HDA := Lib.hid (show dataI (bl s) = ⟨#[]⟩ by unfold dataI; rw [if_neg (by omega)])
          clear hk
          go_wp2_with fail
          refine (numRead_calls (wI (bl s) 2) _ (HE4.out.below HB.out) (by omega)).mono ?_
          rintro e w8 ⟨rfl, hb8⟩
          have B8 := blk_below BX.out hb8
          have z8 : w8.cell? ⟨gc, 0, none⟩ = some (.int .i64 (kindI (bl s))) := (blk_cell B8 0).trans rfl
          have z3 : w8.cell? ⟨gc, 3, none⟩ = some (.int .i64 0) := (blk_cell B8 3).trans rfl
          have y3 := blk_frozen B8 3
          have p83 := cell_of hb8 p3
          have HB8 := Lib.hid hb8
          have BX8 := Lib.hid B8
          clear hb8 B8
          go_wp2
          go_meet
          case rel =>
            refine ⟨rfl, none, 0, ?_⟩
            rw [HD.out, HN.out, HDA.out]
            have ST := stored1 (Stored.refl BX8.out) 3 (.int .i64 (atoiN (bl (wI (bl s) 2)))) _ rfl
            exact ⟨ST.box, ST.row _ _ _ _ (Kd.R_below HR.out HB8.out), ST.row _ _ _ _ (Kd.R_nil _ _ _ _ _), ST.keep _ GE.out (HB.out.trans (HB8.out.mono HB.out.size))⟩
        · have hk : kindI (bl s) = 3 := hk
          have t5 : (kindI (bl s) == 5) = false := beq_eq_false_iff_ne.2 (by omega)
          have t1 : (kindI (bl s) == 1) = false := beq_eq_false_iff_ne.2 (by omega)
          have t2 : (kindI (bl s) == 2) = false := beq_eq_false_iff_ne.2 (by omega)
          have t3 : (kindI (bl s) == 3) = true := beq_iff_eq.2 hk
          have t6 : (kindI (bl s) == 6) = false := beq_eq_false_iff_ne.2 (by omega)
          have HD := Lib.hid (show destI (bl s) = [] by unfold destI; rw [if_neg (by omega)])
          have HN := Lib.hid (show numI (bl s) = atoiN (bl (wI (bl s) 2)) by unfold numI; rw [if_pos (by omega)])
          have HDA := Lib.hid (show dataI (bl s) = ⟨#[]⟩ by unfold dataI; rw [if_neg (by omega)])
          clear hk
          go_wp2_with fail
          refine (numRead_calls (wI (bl s) 2) _ (HE4.out.below HB.out) (by omega)).mono ?_
          rintro e w8 ⟨rfl, hb8⟩
          have B8 := blk_below BX.out hb8
          have z8 : w8.cell? ⟨gc, 0, none⟩ = some (.int .i64 (kindI (bl s))) := (blk_cell B8 0).trans rfl
          have z3 : w8.cell? ⟨gc, 3, none⟩ = some (.int .i64 0) := (blk_cell B8 3).trans rfl
          have y3 := blk_frozen B8 3
          have p83 := cell_of hb8 p3
          have HB8 := Lib.hid hb8
          have BX8 := Lib.hid B8
          clear hb8 B8
          go_wp2
          go_meet
          case rel =>
            refine ⟨rfl, none, 0, ?_⟩
            rw [HD.out, HN.out, HDA.out]
            have ST := stored1 (Stored.refl BX8.out) 3 (.int .i64 (atoiN (bl (wI (bl s) 2)))) _ rfl
            exact ⟨ST.box, ST.row _ _ _ _ (Kd.R_below HR.out HB8.out), ST.row _ _ _ _ (Kd.R_nil _ _ _ _ _), ST.keep _ GE.out (HB.out.trans (HB8.out.mono HB.out.size))⟩
        · have hk : kindI (bl s) = 6 := hk
          have t5 : (kindI (bl s) == 5) = false := beq_eq_false_iff_ne.2 (by omega)
          have t1 : (kindI (bl s) == 1) = false := beq_eq_false_iff_ne.2 (by omega)
          have t2 : (kindI (bl s) == 2) = false := beq_eq_false_iff_ne.2 (by omega)
          have t3 : (kindI (bl s) == 3) = false := beq_eq_false_iff_ne.2 (by omega)
          have t6 : (kindI (bl s) == 6) = true := beq_iff_eq.2 hk
          have HD := Lib.hid (show destI (bl s) = [] by unfold destI; rw [if_neg (by omega)])
          have HN := Lib.hid (show numI (bl s) = atoiN (bl (wI (bl s) 2)) by unfold numI; rw [if_pos (by omega)])
          have HDA := Lib.hid (show dataI (bl s) = ⟨#[]⟩ by unfold dataI; rw [if_neg (by omega)])
          clear hk
          go_wp2_with fail
          refine (numRead_calls (wI (bl s) 2) _ (HE4.out.below HB.out) (by omega)).mono ?_
          rintro e w8 ⟨rfl, hb8⟩
          have B8 := blk_below BX.out hb8
          have z8 : w8.cell? ⟨gc, 0, none⟩ = some (.int .i64 (kindI (bl s))) := (blk_cell B8 0).trans rfl
          have z3 : w8.cell? ⟨gc, 3, none⟩ = some (.int .i64 0) := (blk_cell B8 3).trans rfl
          have y3 := blk_frozen B8 3
          have p83 := cell_of hb8 p3
          have HB8 := Lib.hid hb8
          have BX8 := Lib.hid B8
          clear hb8 B8
          go_wp2
          go_meet
          case rel =>
            refine ⟨rfl, none, 0, ?_⟩
            rw [HD.out, HN.out, HDA.out]
            have ST := stored1 (Stored.refl BX8.out) 3 (.int .i64 (atoiN (bl (wI (bl s) 2)))) _ rfl
            exact ⟨ST.box, ST.row _ _ _ _ (Kd.R_below HR.out HB8.out), ST.row _ _ _ _ (Kd.R_nil _ _ _ _ _), ST.keep _ GE.out (HB.out.trans (HB8.out.mono HB.out.size))⟩
        · have hk : kindI (bl s) = 2 := hk
          have t5 : (kindI (bl s) == 5) = false := beq_eq_false_iff_ne.2 (by omega)
          have t1 : (kindI (bl s) == 1) = false := beq_eq_false_iff_ne.2 (by omega)
          have t2 : (kindI (bl s) == 2) = true := beq_iff_eq.2 hk
          have t3 : (kindI (bl s) == 3) = false := beq_eq_false_iff_ne.2 (by omega)
          have t6 : (kindI (bl s) == 6) = false := beq_eq_false_iff_ne.2 (by omega)
          have HD := Lib.hid (show destI (bl s) = [] by unfold destI; rw [if_neg (by omega)])
          have HN := Lib.hid (show numI (bl s) = atoiN (bl (wI (bl s) 2)) by unfold numI; rw [if_pos (by omega)])
          have HDA := Lib.hid (show dataI (bl s) = bs (unhexL (bl (wI (bl s) 3))) by unfold dataI; rw [if_pos (by omega)])
          clear hk
          go_wp2_with fail
          refine (numRead_calls (wI (bl s) 2) _ (HE4.out.below HB.out) (by omega)).mono ?_
          rintro e w8 ⟨rfl, hb8⟩
          have B8 := blk_below BX.out hb8
          have z8 : w8.cell? ⟨gc, 0, none⟩ = some (.int .i64 (kindI (bl s))) := (blk_cell B8 0).trans rfl
          have z3 : w8.cell? ⟨gc, 3, none⟩ = some (.int .i64 0) := (blk_cell B8 3).trans rfl
          have y3 := blk_frozen B8 3
          have p83 := cell_of hb8 p3
          have HB8 := Lib.hid hb8
          have BX8 := Lib.hid B8
          clear hb8 B8
          obtain ⟨kd, hkd⟩ := (dataRead_ev (wI (bl s) 3) (by omega)).rounds
          have HKD := Lib.hid hkd
          clear hkd
          have hng : b4 ≠ gc := by have := World.block_lt_of_cell? w4 _ u3; have := GE.out; simp at *; omega
          go_wp2_with fail
          refine (impl_dataRead.calls kd (wI (bl s) 3) _ _ HKD.out).mono ?_
          rintro e w9 ⟨rfl, hb9⟩
          have ST := Lib.hid (stored1 (Stored.refl BX8.out) 3 (.int .i64 (atoiN (bl (wI (bl s) 2)))) (cc (kindI (bl s)) (.slice A1 (pathRd (bl (wI (bl s) 1))).length c1) (.slice none 0 0) (atoiN (bl (wI (bl s) 2))) ⟨#[]⟩) rfl)
          have B9 := blk_below ST.out.box hb9
          have z4 : w9.cell? ⟨gc, 4, none⟩ = some (.string ⟨#[]⟩) := (blk_cell B9 4).trans rfl
          have y4 := blk_frozen B9 4
          have HB9 := Lib.hid hb9
          have BX9 := Lib.hid B9
          clear hb9 B9
          go_wp2
          go_meet
          case rel =>
            refine ⟨rfl, none, 0, ?_⟩
            rw [HD.out, HN.out, HDA.out]
            have ST2 := stored1 (Stored.refl BX9.out) 4 (.string (bs (unhexL (bl (wI (bl s) 3))))) _ rfl
            have hk8 := ST.out.keep w4 GE.out (HB.out.trans (HB8.out.mono HB.out.size))
            exact ⟨ST2.box, ST2.row _ _ _ _ (Kd.R_below (ST.out.row _ _ _ _ (Kd.R_below HR.out HB8.out)) HB9.out), ST2.row _ _ _ _ (Kd.R_nil _ _ _ _ _), ST2.keep _ GE.out (hk8.trans (HB9.out.mono hk8.size))⟩
      · have hk : ¬ (kindI (bl s) = 5 ∨ kindI (bl s) = 1 ∨ kindI (bl s) = 3 ∨ kindI (bl s) = 6 ∨ kindI (bl s) = 2) := hk
        have t5 : (kindI (bl s) == 5) = false := beq_eq_false_iff_ne.2 (by omega)
        have t1 : (kindI (bl s) == 1) = false := beq_eq_false_iff_ne.2 (by omega)
        have t2 : (kindI (bl s) == 2) = false := beq_eq_false_iff_ne.2 (by omega)
        have t3 : (kindI (bl s) == 3) = false := beq_eq_false_iff_ne.2 (by omega)
        have t6 : (kindI (bl s) == 6) = false := beq_eq_false_iff_ne.2 (by omega)
        have HD := Lib.hid (show destI (bl s) = [] by unfold destI; rw [if_neg (by omega)])
        have HN := Lib.hid (show numI (bl s) = 0 by unfold numI; rw [if_neg (by omega)])
        have HDA := Lib.hid (show dataI (bl s) = ⟨#[]⟩ by unfold dataI; rw [if_neg (by omega)])
        clear hk
        go_wp2
        go_meet
        case rel =>
          refine ⟨rfl, none, 0, ?_⟩
          rw [HD.out, HN.out, HDA.out]
          exact ⟨BX.out, HR.out, Kd.R_nil _ _ _ _ _, HB.out⟩
    case rest =>
      obtain ⟨rfl, A2, c2, hbox, hr1, hr2, hbd⟩ := hcut
      have hbw : Below w.heap.size w wc := HB4.out.trans (hbd.mono HB4.out.size)
      have hres : wc.heap[w.heap.size]? = some (.cells zc 24 (0, 0)) := blk_below HG4.out hbd
      have hneg : w.heap.size ≠ gc := by have := blk_lt HG4.out; have := GE.out; omega
      clear HB HR BX z0 p2 p3 q2 q3 u2 u3 m0 m1 m2 m3 l0 l1 l2 l3 hn hc4 HE4
      have hs1 : Small (pathRd (bl (wI (bl s) 1))) := pathRd_small _ (by have := wI_size (bl s) 1; rw [bl_len] at this ⊢; omega)
      have hs2 : Small (destI (bl s)) := by
        unfold destI
        split
        · exact pathRd_small _ (by have := wI_size (bl s) 2; rw [bl_len] at this ⊢; omega)
        · exact ⟨by simp, by simp⟩
      have HEC := Lib.hid (HE.out.below hbw)
      have HR1 := Lib.hid hr1
      have HR2 := Lib.hid hr2
      have HBW := Lib.hid hbw
      have HRES := Lib.hid hres
      have HBOX := Lib.hid hbox
      have HNG := Lib.hid hneg
      have HS1 := Lib.hid hs1
      have HS2 := Lib.hid hs2
      have z0 : wc.cell? ⟨gc, 0, none⟩ = some (.int .i64 (kindI (bl s))) := (blk_cell hbox 0).trans rfl
      have z1 : wc.cell? ⟨gc, 1, none⟩ = some (.slice A1 (pathRd (bl (wI (bl s) 1))).length c1) := (blk_cell hbox 1).trans rfl
      have z2 : wc.cell? ⟨gc, 2, none⟩ = some (.slice A2 (destI (bl s)).length c2) := (blk_cell hbox 2).trans rfl
      have z3 : wc.cell? ⟨gc, 3, none⟩ = some (.int .i64 (numI (bl s))) := (blk_cell hbox 3).trans rfl
      have z4 : wc.cell? ⟨gc, 4, none⟩ = some (.string (dataI (bl s))) := (blk_cell hbox 4).trans rfl
      clear hr1 hr2 hbw hres hbox hneg hs1 hs2 hbd HG4 GE
      by_cases he : bl s = []
      · have h0 : s.toList.isEmpty = true := by rw [toList_data]; show (bl s).isEmpty = true; rw [he]; rfl
        have HO := Lib.hid (show okI (bl s) = false by unfold okI; rw [decide_eq_false_iff_not]; exact fun h => h.1 he)
        clear he
        have r0 : wc.cell? ⟨w.heap.size, 0, none⟩ = some (.int .i64 0) := (blk_cell HRES.out 0).trans rfl
        have r1 : wc.cell? ⟨w.heap.size, 1, none⟩ = some (.slice none 0 0) := (blk_cell HRES.out 1).trans rfl
        have r2 : wc.cell? ⟨w.heap.size, 2, none⟩ = some (.slice none 0 0) := (blk_cell HRES.out 2).trans rfl
        have r3 : wc.cell? ⟨w.heap.size, 3, none⟩ = some (.int .i64 0) := (blk_cell HRES.out 3).trans rfl
        have r4 : wc.cell? ⟨w.heap.size, 4, none⟩ = some (.string ⟨#[]⟩) := (blk_cell HRES.out 4).trans rfl
        have f0 := blk_frozen HRES.out 0
        have f1 := blk_frozen HRES.out 1
        have f2 := blk_frozen HRES.out 2
        have f3 := blk_frozen HRES.out 3
        have f4 := blk_frozen HRES.out 4
        go_wp2
        have ST := Lib.hid (stored5 HRES.out rfl (.int .i64 0) (.slice none 0 0) (.slice none 0 0) (.int .i64 0) (.string ⟨#[]⟩))
        (try simp only [Exit.inBlock, Exit.then])
        refine bodyPost_ret (v := .tuple #[.agg #[.int .i64 0, .slice none 0 0, .slice none 0 0, .int .i64 0, .string ⟨#[]⟩], .bool false]) ?_ rfl ?_
        · rw [results_cell_tmp rfl]
          go_simp
        have hres0 : resI (bl s) = ⟨0, [], [], 0, ⟨#[]⟩⟩ := by unfold resI; rw [if_neg (by rw [HO.out]; decide)]
        rw [HO.out, hres0]
        exact ⟨none, 0, none, 0, rfl, 0, Kd.R_nil _ _ _ _ _, Kd.R_nil _ _ _ _ _, ST.out.keep w (Nat.le_refl _) HBW.out⟩
      · have h0 : s.toList.isEmpty = false := by rw [toList_data, List.isEmpty_eq_false_iff]; exact he
        by_cases hc : callT (candI (bl s)) = bl s
        · have h5 : ((bs (callT (candI (bl s)))).toList == s.toList) = true := by rw [toList_data, toList_data, beq_iff_eq]; show bl (bs _) = bl s; rw [bl_bs, hc]
          have HO := Lib.hid (show okI (bl s) = true by unfold okI; rw [decide_eq_true_eq]; exact ⟨he, hc⟩)
          clear he hc
          go_wp2_with fail
          refine (CallText_calls A1 A2 c1 c2 (candI (bl s)) _ HEC.out (Kd.R_reads' HR1.out).2.2 (Kd.R_reads' HR1.out).2.1 (Kd.R_reads' HR2.out).2.2 (Kd.R_reads' HR2.out).2.1 (candI_num _) HS1.out HS2.out).mono ?_
          rintro e w9 ⟨rfl, hb9⟩
          have HBOX9 := Lib.hid (blk_below HBOX.out hb9)
          have HRES9 := Lib.hid (blk_below HRES.out hb9)
          have HB9 := Lib.hid hb9
          have HBW9 := Lib.hid (show Below w.heap.size w w9 from HBW.out.trans (hb9.mono HBW.out.size))
          clear hb9 z0 z1 z2 z3 z4
          have r0 : w9.cell? ⟨w.heap.size, 0, none⟩ = some (.int .i64 0) := (blk_cell HRES9.out 0).trans rfl
          have f0 := blk_frozen HRES9.out 0
          have r1 : w9.cell? ⟨w.heap.size, 1, none⟩ = some (.slice none 0 0) := (blk_cell HRES9.out 1).trans rfl
          have f1 := blk_frozen HRES9.out 1
          have r2 : w9.cell? ⟨w.heap.size, 2, none⟩ = some (.slice none 0 0) := (blk_cell HRES9.out 2).trans rfl
          have f2 := blk_frozen HRES9.out 2
          have r3 : w9.cell? ⟨w.heap.size, 3, none⟩ = some (.int .i64 0) := (blk_cell HRES9.out 3).trans rfl
          have f3 := blk_frozen HRES9.out 3
          have r4 : w9.cell? ⟨w.heap.size, 4, none⟩ = some (.string ⟨#[]⟩) := (blk_cell HRES9.out 4).trans rfl
          have f4 := blk_frozen HRES9.out 4
          have x0 : w9.cell? ⟨gc, 0, none⟩ = some (.int .i64 (kindI (bl s))) := (blk_cell HBOX9.out 0).trans rfl
          have x1 : w9.cell? ⟨gc, 1, none⟩ = some (.slice A1 (pathRd (bl (wI (bl s) 1))).length c1) := (blk_cell HBOX9.out 1).trans rfl
          have x2 : w9.cell? ⟨gc, 2, none⟩ = some (.slice A2 (destI (bl s)).length c2) := (blk_cell HBOX9.out 2).trans rfl
          have x3 : w9.cell? ⟨gc, 3, none⟩ = some (.int .i64 (numI (bl s))) := (blk_cell HBOX9.out 3).trans rfl
          have x4 : w9.cell? ⟨gc, 4, none⟩ = some (.string (dataI (bl s))) := (blk_cell HBOX9.out 4).trans rfl
          go_wp2
          have ST := Lib.hid (stored5 HRES9.out rfl (.int .i64 (kindI (bl s))) (.slice A1 (pathRd (bl (wI (bl s) 1))).length c1) (.slice A2 (destI (bl s)).length c2) (.int .i64 (numI (bl s))) (.string (dataI (bl s))))
          (try simp only [Exit.inBlock, Exit.then])
          refine bodyPost_ret (v := .tuple #[.agg #[.int .i64 (kindI (bl s)), .slice A1 (pathRd (bl (wI (bl s) 1))).length c1, .slice A2 (destI (bl s)).length c2, .int .i64 (numI (bl s)), .string (dataI (bl s))], .bool true]) ?_ rfl ?_
          · rw [results_cell_tmp rfl]
            go_simp
          have hres0 : resI (bl s) = candI (bl s) := by unfold resI; rw [if_pos HO.out]
          rw [HO.out, hres0]
          exact ⟨A1, c1, A2, c2, wp.heap.size, rfl, ST.out.row _ _ _ _ (Kd.R_lower (Kd.R_below HR1.out HB9.out) HB4.out.size), ST.out.row _ _ _ _ (Kd.R_lower (Kd.R_below HR2.out HB9.out) HB4.out.size), ST.out.keep w (Nat.le_refl _) HBW9.out⟩
        · have h5 : ((bs (callT (candI (bl s)))).toList == s.toList) = false := by rw [toList_data, toList_data, beq_eq_false_iff_ne]; show ¬ bl (bs _) = bl s; rw [bl_bs]; exact hc
          have HO := Lib.hid (show okI (bl s) = false by unfold okI; rw [decide_eq_false_iff_not]; exact fun h => hc h.2)
          clear he hc
          go_wp2_with fail
          refine (CallText_calls A1 A2 c1 c2 (candI (bl s)) _ HEC.out (Kd.R_reads' HR1.out).2.2 (Kd.R_reads' HR1.out).2.1 (Kd.R_reads' HR2.out).2.2 (Kd.R_reads' HR2.out).2.1 (candI_num _) HS1.out HS2.out).mono ?_
          rintro e w9 ⟨rfl, hb9⟩
          have HBOX9 := Lib.hid (blk_below HBOX.out hb9)
          have HRES9 := Lib.hid (blk_below HRES.out hb9)
          have HB9 := Lib.hid hb9
          have HBW9 := Lib.hid (show Below w.heap.size w w9 from HBW.out.trans (hb9.mono HBW.out.size))
          clear hb9 z0 z1 z2 z3 z4
          have r0 : w9.cell? ⟨w.heap.size, 0, none⟩ = some (.int .i64 0) := (blk_cell HRES9.out 0).trans rfl
          have f0 := blk_frozen HRES9.out 0
          have r1 : w9.cell? ⟨w.heap.size, 1, none⟩ = some (.slice none 0 0) := (blk_cell HRES9.out 1).trans rfl
          have f1 := blk_frozen HRES9.out 1
          have r2 : w9.cell? ⟨w.heap.size, 2, none⟩ = some (.slice none 0 0) := (blk_cell HRES9.out 2).trans rfl
          have f2 := blk_frozen HRES9.out 2
          have r3 : w9.cell? ⟨w.heap.size, 3, none⟩ = some (.int .i64 0) := (blk_cell HRES9.out 3).trans rfl
          have f3 := blk_frozen HRES9.out 3
          have r4 : w9.cell? ⟨w.heap.size, 4, none⟩ = some (.string ⟨#[]⟩) := (blk_cell HRES9.out 4).trans rfl
          have f4 := blk_frozen HRES9.out 4
          go_wp2
          have ST := Lib.hid (stored5 HRES9.out rfl (.int .i64 0) (.slice none 0 0) (.slice none 0 0) (.int .i64 0) (.string ⟨#[]⟩))
          (try simp only [Exit.inBlock, Exit.then])
          refine bodyPost_ret (v := .tuple #[.agg #[.int .i64 0, .slice none 0 0, .slice none 0 0, .int .i64 0, .string ⟨#[]⟩], .bool false]) ?_ rfl ?_
          · rw [results_cell_tmp rfl]
            go_simp
          have hres0 : resI (bl s) = ⟨0, [], [], 0, ⟨#[]⟩⟩ := by unfold resI; rw [if_neg (by rw [HO.out]; decide)]
          rw [HO.out, hres0]
          exact ⟨none, 0, none, 0, 0, rfl, Kd.R_nil _ _ _ _ _, Kd.R_nil _ _ _ _ _, ST.out.keep w (Nat.le_refl _) HBW9.out⟩
end Go.Proofs.YtojlffnlenldiaaDoor.F
