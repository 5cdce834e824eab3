/- The walks of cmp.Compare, cmp.Or and tuple's order. -/
import Derived.Test.YthlolfncdjaniaaDoorSame
import Derived.Test.YthlolfncdjaniaaDoorOrdA
import Derived.Deep.RegionHeld3
namespace Go.Proofs.YthlolfncdjaniaaDoor.Tu
open Go Go.RowKit Go.Proofs.YthlolfncdjaniaaDoor.PTuplePrefix Go.Proofs.YthlolfncdjaniaaDoorW.PrintWords Go.Proofs.YthlolfncdjaniaaDoorW.PrintLast Go.Proofs.YthlolfncdjaniaaDoorW.PrintMore
set_option linter.unusedVariables false
set_option linter.unusedSectionVars false
set_option linter.unusedSimpArgs false
theorem nan_any (a : Int) (W : World) : Calls Tryd.prog 58 #[.int .i64 a] W fun e w' => e = .returned (.bool false) ∧ w' = W := by
  go_enter Tryd.func58, Tryd.ntmps58
  go_wp2_with fail
  go_ret
  exact ⟨by simp, rfl⟩
theorem compare_any (a b : Int) (W : World) : Calls Tryd.prog 48 #[.int .i64 a, .int .i64 b] W fun e w' => e = .returned (.int .i64 (sgn a b)) ∧ w' = W := by
  rcases Int.lt_trichotomy a b with h | h | h
  · have e : sgn a b = -1 := if_pos h
    go_enter Tryd.func48, Tryd.ntmps48
    go_wp2_with (first | (go_at_call 58; refine (nan_any _ _).mono ?_; rintro _ _ ⟨rfl, rfl⟩))
    go_ret
    exact ⟨by rw [e]; rfl, rfl⟩
  · subst h
    have e : sgn a a = 0 := sgn_self a
    go_enter Tryd.func48, Tryd.ntmps48
    go_wp2_with (first | (go_at_call 58; refine (nan_any _ _).mono ?_; rintro _ _ ⟨rfl, rfl⟩))
    go_ret
    exact ⟨by rw [e]; rfl, rfl⟩
  · have e : sgn a b = 1 := by unfold sgn; rw [if_neg (by omega), if_pos h]
    have h' : ¬ a < b := by omega
    go_enter Tryd.func48, Tryd.ntmps48
    go_wp2_with (first | (go_at_call 58; refine (nan_any _ _).mono ?_; rintro _ _ ⟨rfl, rfl⟩))
    go_ret
    exact ⟨by rw [e]; rfl, rfl⟩
def orF : List Int → Int
  | [] => 0
  | x :: l => if x = 0 then orF l else x
theorem or_at : ∀ (l : List Int) (i : Nat), (∀ j, j < i → l.getD j 0 = 0) → orF l = orF (l.drop i)
  | l, 0, _ => rfl
  | [], i + 1, _ => rfl
  | x :: l, i + 1, h => by
    have h0 : x = 0 := by simpa using h 0 (by omega)
    rw [orF, if_pos h0, List.drop_succ_cons, or_at l i (fun j hj => by simpa using h (j + 1) (by omega))]
theorem or_any (l : List Int) (A : Option Addr) (c : Nat) (W : World) (hA : (Kd.int .i64).C W A l.length l) : Calls Tryd.prog 47 #[.slice A l.length c] W fun e w' => e = .returned (.int .i64 (orF l)) ∧ w' = W := by
  have HA := Aside0.mk hA
  have hm := Kd.C_max hA
  clear hA
  go_enter Tryd.func47, Tryd.ntmps47
  go_wp2_with fail
  go_loopw [8] (fun v8 W' => W' = W ∧ ∃ i : Nat, v8 = .int .i64 i ∧ i ≤ l.length ∧ Hid (∀ j, j < i → l.getD j 0 = 0)) (fun v8 _ => l.length - (intOf v8).toNat)
  case atStart => exact ⟨rfl, 0, rfl, by omega, Lib.hid (fun j hj => by omega)⟩
  case round =>
    obtain ⟨hww, i, rfl, hi, hs⟩ := hrel
    have hww := hww.symm
    subst hww
    by_cases hlt : i < l.length
    · have hlt' : (i : Int) < (l.length : Int) := by omega
      obtain ⟨a, rfl, ha⟩ := Kd.at_int HA.out (i : Int) (by omega) hlt'
      rw [Int.toNat_natCast] at ha
      have hr : rd l (i : Int) = l.getD i 0 := by unfold rd; rw [Int.toNat_natCast]
      rw [hr] at ha
      have hor := Lib.hid (show orF l = if l.getD i 0 = 0 then orF (l.drop (i + 1)) else l.getD i 0 by
        rw [or_at l i hs.out, List.drop_eq_getElem_cons hlt, orF, List.getD_eq_getElem?_getD, List.getElem?_eq_getElem hlt]; rfl)
      have hD := Lib.hid (show ∀ v, l.getD i 0 = v → v = 0 → ∀ j, j < i + 1 → l.getD j 0 = 0 from fun v hv h0 j hj => by
        rcases Nat.lt_or_ge j i with h | h
        · exact hs.out j h
        · obtain rfl : j = i := by omega
          rw [hv, h0])
      obtain ⟨v, hv⟩ : ∃ v, l.getD i 0 = v := ⟨_, rfl⟩
      rw [hv] at ha hor
      have HV := Lib.hid hv
      clear hv hr
      by_cases h0 : v = 0
      · have hn : (v != 0) = false := by simp [h0]
        have H0 := Lib.hid h0
        clear h0
        go_wp2_with fail
        go_roundw
        case rel => exact ⟨trivial, i + 1, by go_num, by omega, Lib.hid (hD.out v HV.out H0.out)⟩
        case measure => simp [intOf]; omega
      · have hn : (v != 0) = true := bne_iff_ne.mpr h0
        have H0 := Lib.hid h0
        clear h0
        go_wp2_with fail
        go_ret
        exact ⟨by rw [hor.out, if_neg H0.out]; rfl, rfl⟩
    · have hlt' : ¬ (i : Int) < (l.length : Int) := by omega
      obtain rfl : i = l.length := by omega
      have hor := Lib.hid (show orF l = 0 by rw [or_at l l.length hs.out, List.drop_length]; rfl)
      go_wp2_with fail
      go_ret
      exact ⟨by rw [hor.out]; rfl, rfl⟩
theorem headC_or (x y : S46) : headC x y = orF [sgn x.f0 y.f0, sgn x.f1 y.f1, cb x.f2.data.toList y.f2.data.toList] := by
  unfold headC orF orF orF orF
  by_cases h0 : sgn x.f0 y.f0 = 0
  · by_cases h1 : sgn x.f1 y.f1 = 0
    · simp [h0, h1]
    · simp [h0, h1]
  · simp [h0]
theorem ints_lit (W : World) (base : Nat) (a b c : Int) (hb : base ≤ W.heap.size) : (Kd.int .i64).C (W.alloc (.cells #[.int .i64 a, .int .i64 b, .int .i64 c] 3)) (some ⟨W.heap.size, 0, none⟩) 3 [a, b, c] := by
  have h := own_lit W base 3 .i64 [a, b, c] hb (by simp)
  have h2 : (Kd.int .i64).R 3 (W.alloc (.cells #[.int .i64 a, .int .i64 b, .int .i64 c] 3)) base (fun _ => True) (.slice (some ⟨W.heap.size, 0, none⟩) 3 3) [a, b, c] := Kd.R_of_own h (fun _ _ => trivial)
  exact (Kd.R_reads' h2).2.2
abbrev z4 : Obj := .cells #[.int .i64 0, .int .i64 0, .string ⟨#[]⟩, .slice none 0 0] 46
structure IntOk (n : Int) (W : World) (e : Ending) (W' : World) : Prop where
  end_ : e = .returned (.int .i64 n)
  below : Below W.heap.size W W'
/-- order, given what it does to the lists within. -/
def OrdAt (g : List S46 → List S46 → Int) (x y : S46) : Prop := ∀ (W : World) (A B : Option Addr) (c d : Nat), k46.C W A x.f3.length x.f3 → k46.C W B y.f3.length y.f3 →
  Calls Tryd.prog 36 #[.slice A x.f3.length c, .slice B y.f3.length d] W (IntOk (g x.f3 y.f3) W)
theorem cmpLs_at {f : S46 → S46 → Int} : ∀ (a b : List S46) (i : Nat), i ≤ a.length → i ≤ b.length → (∀ j, j < i → f (rd_T46 a (j : Int)) (rd_T46 b (j : Int)) = 0) → cmpLs f a b = cmpLs f (a.drop i) (b.drop i)
  | a, b, 0, _, _, _ => rfl
  | [], b, i + 1, h, _, _ => by simp at h
  | _ :: _, [], i + 1, _, h, _ => by simp at h
  | x :: a, y :: b, i + 1, ha, hb, h => by
    have h0 : f x y = 0 := by simpa [rd_T46] using h 0 (by omega)
    rw [cmpLs, if_pos h0, List.drop_succ_cons, List.drop_succ_cons]
    exact cmpLs_at a b i (by simpa using ha) (by simpa using hb) (fun j hj => by simpa [rd_T46] using h (j + 1) (by omega))
theorem or3 (x y : S46) (W : World) : Calls Tryd.prog 47 #[.slice (some ⟨W.heap.size, 0, none⟩) 3 3] (W.alloc (.cells #[.int .i64 (sgn x.f0 y.f0), .int .i64 (sgn x.f1 y.f1), .int .i64 (Lib.compareBytes x.f2.data.toList y.f2.data.toList)] 3)).drew
    (fun e w' => e = .returned (.int .i64 (headC x y)) ∧ Below W.heap.size W w') :=
  (or_any [sgn x.f0 y.f0, sgn x.f1 y.f1, cb x.f2.data.toList y.f2.data.toList] _ 3 _ (Kd.C_drew (ints_lit W 0 _ _ _ (Nat.zero_le _)))).mono fun e w' ⟨he, hw⟩ => ⟨by rw [he, headC_or], hw ▸ below_drew (below_alloc (Below.refl _ _) _)⟩
theorem cmp_step {f : S46 → S46 → Int} (xs ys : List S46) (i : Nat) (hx : i < xs.length) (hy : i < ys.length) (h : ∀ j, j < i → f (rd_T46 xs (j : Int)) (rd_T46 ys (j : Int)) = 0) (hn : f (rd_T46 xs (i : Int)) (rd_T46 ys (i : Int)) ≠ 0) :
    cmpLs f xs ys = f (rd_T46 xs (i : Int)) (rd_T46 ys (i : Int)) := by
  rw [cmpLs_at xs ys i (by omega) (by omega) h, List.drop_eq_getElem_cons hx, List.drop_eq_getElem_cons hy, cmpLs, ← rd_at xs i hx, ← rd_at ys i hy, if_neg hn]
theorem cmp_end {f : S46 → S46 → Int} (xs ys : List S46) (i : Nat) (hx : i ≤ xs.length) (hy : i ≤ ys.length) (h : ∀ j, j < i → f (rd_T46 xs (j : Int)) (rd_T46 ys (j : Int)) = 0) (hn : ¬ (i < xs.length ∧ i < ys.length)) :
    cmpLs f xs ys = sgn xs.length ys.length := by
  rw [cmpLs_at xs ys i hx hy h]
  by_cases h1 : i = xs.length
  · rw [List.drop_of_length_le (by omega)]
    by_cases h2 : i = ys.length
    · rw [List.drop_of_length_le (by omega), cmpLs, show xs.length = ys.length by omega, sgn_self]
    · rw [List.drop_eq_getElem_cons (show i < ys.length by omega), cmpLs, show sgn (xs.length : Int) (ys.length : Int) = -1 from if_pos (by omega)]
  · have h2 : i = ys.length := by omega
    rw [List.drop_eq_getElem_cons (show i < xs.length by omega), List.drop_of_length_le (show ys.length ≤ i by omega), cmpLs]
    unfold sgn
    rw [if_neg (by omega), if_pos (by omega)]
theorem two_blocks (wr : World) (o o' : Obj) : ((wr.alloc o).alloc o').drew.heap[wr.heap.size]? = (wr.alloc o).heap[wr.heap.size]? ∧ ((wr.alloc o).alloc o').drew.heap[wr.heap.size + 1]? = ((wr.alloc o).alloc o').heap[(wr.alloc o).heap.size]? :=
  ⟨(MapKept.heap_alloc (wr.alloc o) o').2 _ (by simp), by rw [show (wr.alloc o).heap.size = wr.heap.size + 1 by simp]; rfl⟩
set_option maxHeartbeats 4000000 in
set_option maxRecDepth 100000 in
theorem order_list (g : List S46 → List S46 → Int) (xs ys : List S46) (hx : ∀ x, x ∈ xs → ∀ y, y ∈ ys → OrdAt g x y) (W : World) (A B : Option Addr) (c d : Nat) (hA : k46.C W A xs.length xs) (hB : k46.C W B ys.length ys) :
    Calls Tryd.prog 36 #[.slice A xs.length c, .slice B ys.length d] W (IntOk (cmpLs (cmpG g) xs ys) W) := by
  have HX := Lib.hid hx
  have HA := Aside0.mk hA
  have HB := Aside0.mk hB
  have hm := Kd.C_max hA
  have hm2 := Kd.C_max hB
  clear hx hA hB
  go_enter Tryd.func36, Tryd.ntmps36
  go_wp2_with fail
  go_loopw [14] (fun v14 W' => ∃ i : Nat, v14 = .int .i64 i ∧ i ≤ xs.length ∧ i ≤ ys.length ∧ Hid (∀ j, j < i → cmpG g (rd_T46 xs (j : Int)) (rd_T46 ys (j : Int)) = 0) ∧ Aside0 (Below W.heap.size W W')) (fun v14 _ => xs.length - (intOf v14).toNat)
  case atStart => exact ⟨0, rfl, by omega, by omega, Lib.hid (fun j hj => by omega), ⟨Below.refl _ _⟩⟩
  case round =>
    obtain ⟨i, rfl, hi, hi2, hs, HW⟩ := hrel
    by_cases hlt : i < xs.length ∧ i < ys.length
    · obtain ⟨hlx, hly⟩ := hlt
      have hlt' : (i : Int) < min (xs.length : Int) (ys.length : Int) := by omega
      have hlx' : (i : Int) < (xs.length : Int) := by omega
      have hly' : (i : Int) < (ys.length : Int) := by omega
      obtain ⟨a, A3, c3, rfl, a0, a1, a2, a3, al, aC⟩ := elem46 (Kd.C_below HA.out HW.out) i hlx
      obtain ⟨b, B3, d3, rfl, b0, b1, b2, b3, bl, bC⟩ := elem46 (Kd.C_below HB.out HW.out) i hly
      have AC := Aside0.mk aC
      have BC := Aside0.mk bC
      have hord := Lib.hid (HX.out _ (rd_mem hlx) _ (rd_mem hly))
      clear aC bC
      obtain ⟨x, hxe⟩ : ∃ x, rd_T46 xs (i : Int) = x := ⟨_, rfl⟩
      obtain ⟨y, hye⟩ : ∃ y, rd_T46 ys (i : Int) = y := ⟨_, rfl⟩
      rw [hxe] at a0 a1 a2 a3 al AC hord
      rw [hye] at b0 b1 b2 b3 bl BC hord
      have HXE := Lib.hid hxe
      have HYE := Lib.hid hye
      clear hxe hye
      have na0 := World.new_ne wr _ a0
      have na1 := World.new_ne wr _ a1
      have na2 := World.new_ne wr _ a2
      have na3 := World.new_ne wr _ a3
      have nb0 := World.new_ne wr _ b0
      have nb1 := World.new_ne wr _ b1
      have nb2 := World.new_ne wr _ b2
      have nb3 := World.new_ne wr _ b3
      go_wp2_with fail
      go_region_held3 (fun w' => w'.cell? (a.add (i * 4)) = some (.int .i64 x.f0) ∧ w'.cell? ⟨(a.add (i * 4)).block, (a.add (i * 4)).off + 1, none⟩ = some (.int .i64 x.f1) ∧ w'.cell? ⟨(a.add (i * 4)).block, (a.add (i * 4)).off + 2, none⟩ = some (.string x.f2) ∧ w'.cell? ⟨(a.add (i * 4)).block, (a.add (i * 4)).off + 3, none⟩ = some (.slice A3 x.f3.length c3) ∧ w'.cell? (b.add (i * 4)) = some (.int .i64 y.f0) ∧ w'.cell? ⟨(b.add (i * 4)).block, (b.add (i * 4)).off + 1, none⟩ = some (.int .i64 y.f1) ∧ w'.cell? ⟨(b.add (i * 4)).block, (b.add (i * 4)).off + 2, none⟩ = some (.string y.f2) ∧ w'.cell? ⟨(b.add (i * 4)).block, (b.add (i * 4)).off + 3, none⟩ = some (.slice B3 y.f3.length d3)) (go_keep) (fail)
      all_goals clear na0 na1 na2 na3 nb0 nb1 nb2 nb3 a0 a1 a2 a3 b0 b1 b2 b3
      · have hR6 : RAt ((wr.alloc (ago x A3 c3)).alloc (ago y B3 d3)).drew (wr.heap.size) (.int .i64 x.f0) (.int .i64 x.f1) (.string x.f2) (.slice A3 x.f3.length c3) := ((two_blocks wr (ago x A3 c3) (ago y B3 d3)).1).trans (MapKept.heap_alloc _ _).1
        have hR7 : RAt ((wr.alloc (ago x A3 c3)).alloc (ago y B3 d3)).drew (wr.heap.size + 1) (.int .i64 y.f0) (.int .i64 y.f1) (.string y.f2) (.slice B3 y.f3.length d3) := ((two_blocks wr (ago x A3 c3) (ago y B3 d3)).2).trans (MapKept.heap_alloc _ _).1
        have hBd : Below wr.heap.size wr ((wr.alloc (ago x A3 c3)).alloc (ago y B3 d3)).drew := below_drew (below_alloc (below_alloc (Below.refl _ _) _) _)
        generalize ((wr.alloc (ago x A3 c3)).alloc (ago y B3 d3)).drew = Wd at hR6 hR7 hBd ⊢
        generalize wr.heap.size + 1 = b7 at hR7 ⊢
        generalize wr.heap.size = b6 at hR6 ⊢
        obtain ⟨⟨m0, m1, m2, m3⟩, _⟩ := hR6.cells
        obtain ⟨⟨k0, k1, k2, k3⟩, _⟩ := hR7.cells
        have HR6 := Aside0.mk hR6
        have HR7 := Aside0.mk hR7
        have HBd := Aside0.mk (HW.out.trans (hBd.mono HW.out.size))
        have HC6 := Aside0.mk (Kd.C_below AC.out hBd)
        have HC7 := Aside0.mk (Kd.C_below BC.out hBd)
        clear hR6 hR7 hBd m3 k3
        go_wp2_with fail
        go_region_held3 (fun w' => w'.cell? ⟨b6, 0, none⟩ = some (.int .i64 x.f0) ∧ w'.cell? ⟨b6, 1, none⟩ = some (.int .i64 x.f1) ∧ w'.cell? ⟨b6, 2, none⟩ = some (.string x.f2) ∧ w'.cell? ⟨b7, 0, none⟩ = some (.int .i64 y.f0) ∧ w'.cell? ⟨b7, 1, none⟩ = some (.int .i64 y.f1) ∧ w'.cell? ⟨b7, 2, none⟩ = some (.string y.f2)) (go_keep) (first | (go_at_call 48; refine (compare_any _ _ _).mono ?_; rintro _ _ ⟨rfl, rfl⟩) | (go_at_call 49; refine (Tryd.strings_Compare _ _ _).mono ?_; rintro _ _ ⟨rfl, rfl⟩) | (go_at_call 47; refine (or3 x y _).mono ?_; rintro _ w5 ⟨rfl, hb5⟩; have HB5 := Aside0.mk (HBd.out.trans (hb5.mono HBd.out.size)); have HC8 := Aside0.mk (Kd.C_below HC6.out hb5); have HC9 := Aside0.mk (Kd.C_below HC7.out hb5); obtain ⟨⟨_, _, _, m3⟩, _⟩ := RAt.cells (show RAt w5 b6 _ _ _ _ from (hb5.block _ (blk_lt HR6.out)).trans HR6.out); obtain ⟨⟨_, _, _, k3⟩, _⟩ := RAt.cells (show RAt w5 b7 _ _ _ _ from (hb5.block _ (blk_lt HR7.out)).trans HR7.out); clear hb5))
        all_goals
          by_cases h0 : headC x y = 0
          · have q0 : (headC x y == 0) = true := by simp [h0]
            have H0 := Lib.hid h0
            clear h0
            go_wp2_with fail
            go_at_call 36
            refine (hord.out w5 A3 B3 c3 d3 HC8.out HC9.out).mono ?_
            rintro _ w6 ⟨rfl, hb6⟩
            have HB6 := Aside0.mk (HB5.out.trans (hb6.mono HB5.out.size))
            have HG := Lib.hid (show cmpG g x y = g x.f3 y.f3 by unfold cmpG; rw [if_pos H0.out])
            clear hb6
            by_cases h1 : g x.f3 y.f3 = 0
            · have q1 : (g x.f3 y.f3 != 0) = false := by simp [h1]
              have H1 := Lib.hid h1
              clear h1
              go_wp2_with fail
              go_roundw
              case rel => exact ⟨i + 1, by go_num, by omega, by omega, Lib.hid (fun j hj => by
                rcases Nat.lt_or_ge j i with h | h
                · exact hs.out j h
                · obtain rfl : j = i := by omega
                  rw [HXE.out, HYE.out, HG.out, H1.out]), HB6⟩
              case measure => simp [intOf]; omega
            · have q1 : (g x.f3 y.f3 != 0) = true := bne_iff_ne.mpr h1
              have H1 := Lib.hid h1
              clear h1
              go_wp2_with fail
              go_ret
              refine ⟨?_, HB6.out⟩
              have := cmp_step (f := cmpG g) xs ys i hlx hly hs.out (by rw [HXE.out, HYE.out, HG.out]; exact H1.out)
              rw [this, HXE.out, HYE.out, HG.out]
              rfl
          · have q0 : (headC x y == 0) = false := by simpa using h0
            have q1 : (headC x y != 0) = true := bne_iff_ne.mpr h0
            have H0 := Lib.hid h0
            have HG := Lib.hid (show cmpG g x y = headC x y by unfold cmpG; rw [if_neg h0])
            clear h0
            go_wp2_with fail
            go_ret
            refine ⟨?_, HB5.out⟩
            have := cmp_step (f := cmpG g) xs ys i hlx hly hs.out (by rw [HXE.out, HYE.out, HG.out]; exact H0.out)
            rw [this, HXE.out, HYE.out, HG.out]
            rfl
      · have hR6 : RAt ((wr.alloc (ago y B3 d3)).alloc (ago x A3 c3)).drew (wr.heap.size + 1) (.int .i64 x.f0) (.int .i64 x.f1) (.string x.f2) (.slice A3 x.f3.length c3) := ((two_blocks wr (ago y B3 d3) (ago x A3 c3)).2).trans (MapKept.heap_alloc _ _).1
        have hR7 : RAt ((wr.alloc (ago y B3 d3)).alloc (ago x A3 c3)).drew (wr.heap.size) (.int .i64 y.f0) (.int .i64 y.f1) (.string y.f2) (.slice B3 y.f3.length d3) := ((two_blocks wr (ago y B3 d3) (ago x A3 c3)).1).trans (MapKept.heap_alloc _ _).1
        have hBd : Below wr.heap.size wr ((wr.alloc (ago y B3 d3)).alloc (ago x A3 c3)).drew := below_drew (below_alloc (below_alloc (Below.refl _ _) _) _)
        generalize ((wr.alloc (ago y B3 d3)).alloc (ago x A3 c3)).drew = Wd at hR6 hR7 hBd ⊢
        generalize wr.heap.size + 1 = b6 at hR6 ⊢
        generalize wr.heap.size = b7 at hR7 ⊢
        obtain ⟨⟨m0, m1, m2, m3⟩, _⟩ := hR6.cells
        obtain ⟨⟨k0, k1, k2, k3⟩, _⟩ := hR7.cells
        have HR6 := Aside0.mk hR6
        have HR7 := Aside0.mk hR7
        have HBd := Aside0.mk (HW.out.trans (hBd.mono HW.out.size))
        have HC6 := Aside0.mk (Kd.C_below AC.out hBd)
        have HC7 := Aside0.mk (Kd.C_below BC.out hBd)
        clear hR6 hR7 hBd m3 k3
        go_wp2_with fail
        go_region_held3 (fun w' => w'.cell? ⟨b6, 0, none⟩ = some (.int .i64 x.f0) ∧ w'.cell? ⟨b6, 1, none⟩ = some (.int .i64 x.f1) ∧ w'.cell? ⟨b6, 2, none⟩ = some (.string x.f2) ∧ w'.cell? ⟨b7, 0, none⟩ = some (.int .i64 y.f0) ∧ w'.cell? ⟨b7, 1, none⟩ = some (.int .i64 y.f1) ∧ w'.cell? ⟨b7, 2, none⟩ = some (.string y.f2)) (go_keep) (first | (go_at_call 48; refine (compare_any _ _ _).mono ?_; rintro _ _ ⟨rfl, rfl⟩) | (go_at_call 49; refine (Tryd.strings_Compare _ _ _).mono ?_; rintro _ _ ⟨rfl, rfl⟩) | (go_at_call 47; refine (or3 x y _).mono ?_; rintro _ w5 ⟨rfl, hb5⟩; have HB5 := Aside0.mk (HBd.out.trans (hb5.mono HBd.out.size)); have HC8 := Aside0.mk (Kd.C_below HC6.out hb5); have HC9 := Aside0.mk (Kd.C_below HC7.out hb5); obtain ⟨⟨_, _, _, m3⟩, _⟩ := RAt.cells (show RAt w5 b6 _ _ _ _ from (hb5.block _ (blk_lt HR6.out)).trans HR6.out); obtain ⟨⟨_, _, _, k3⟩, _⟩ := RAt.cells (show RAt w5 b7 _ _ _ _ from (hb5.block _ (blk_lt HR7.out)).trans HR7.out); clear hb5))
        all_goals
          by_cases h0 : headC x y = 0
          · have q0 : (headC x y == 0) = true := by simp [h0]
            have H0 := Lib.hid h0
            clear h0
            go_wp2_with fail
            go_at_call 36
            refine (hord.out w5 A3 B3 c3 d3 HC8.out HC9.out).mono ?_
            rintro _ w6 ⟨rfl, hb6⟩
            have HB6 := Aside0.mk (HB5.out.trans (hb6.mono HB5.out.size))
            have HG := Lib.hid (show cmpG g x y = g x.f3 y.f3 by unfold cmpG; rw [if_pos H0.out])
            clear hb6
            by_cases h1 : g x.f3 y.f3 = 0
            · have q1 : (g x.f3 y.f3 != 0) = false := by simp [h1]
              have H1 := Lib.hid h1
              clear h1
              go_wp2_with fail
              go_roundw
              case rel => exact ⟨i + 1, by go_num, by omega, by omega, Lib.hid (fun j hj => by
                rcases Nat.lt_or_ge j i with h | h
                · exact hs.out j h
                · obtain rfl : j = i := by omega
                  rw [HXE.out, HYE.out, HG.out, H1.out]), HB6⟩
              case measure => simp [intOf]; omega
            · have q1 : (g x.f3 y.f3 != 0) = true := bne_iff_ne.mpr h1
              have H1 := Lib.hid h1
              clear h1
              go_wp2_with fail
              go_ret
              refine ⟨?_, HB6.out⟩
              have := cmp_step (f := cmpG g) xs ys i hlx hly hs.out (by rw [HXE.out, HYE.out, HG.out]; exact H1.out)
              rw [this, HXE.out, HYE.out, HG.out]
              rfl
          · have q0 : (headC x y == 0) = false := by simpa using h0
            have q1 : (headC x y != 0) = true := bne_iff_ne.mpr h0
            have H0 := Lib.hid h0
            have HG := Lib.hid (show cmpG g x y = headC x y by unfold cmpG; rw [if_neg h0])
            clear h0
            go_wp2_with fail
            go_ret
            refine ⟨?_, HB5.out⟩
            have := cmp_step (f := cmpG g) xs ys i hlx hly hs.out (by rw [HXE.out, HYE.out, HG.out]; exact H0.out)
            rw [this, HXE.out, HYE.out, HG.out]
            rfl
    · have hlt' : ¬ (i : Int) < min (xs.length : Int) (ys.length : Int) := by omega
      have he := Lib.hid (cmp_end (f := cmpG g) xs ys i hi hi2 hs.out hlt)
      clear hlt
      go_wp2_with fail
      go_at_call 48
      refine (compare_any _ _ _).mono ?_
      rintro _ _ ⟨rfl, rfl⟩
      go_wp2_with fail
      go_ret
      exact ⟨by rw [he.out]; rfl, HW.out⟩
theorem order_any : ∀ (d : Nat) (xs ys : List S46), (∀ x, x ∈ xs → Ok46 d x) → (∀ x, x ∈ ys → Ok46 d x) → ∀ (W : World) (A B : Option Addr) (c e : Nat), k46.C W A xs.length xs → k46.C W B ys.length ys →
    Calls Tryd.prog 36 #[.slice A xs.length c, .slice B ys.length e] W (IntOk (cmpLs (cmpI d) xs ys) W)
  | 0, xs, ys, hx, hy, W, A, B, c, e, hA, hB => order_list (fun _ _ => 0) xs ys (fun x hx' y hy' W A B c e hA hB => by
      rw [ok_none (hx x hx')] at hA ⊢
      rw [ok_none (hy y hy')] at hB ⊢
      have := order_list (fun _ _ => 0) [] [] (fun x h => by simp at h) W A B c e hA hB
      rw [cmpLs] at this
      exact this) W A B c e hA hB
  | d + 1, xs, ys, hx, hy, W, A, B, c, e, hA, hB => order_list (cmpLs (cmpI d)) xs ys (fun x hx' y hy' W A B c e hA hB => order_any d x.f3 y.f3 (ok_inner (hx x hx')) (ok_inner (hy y hy')) W A B c e hA hB) W A B c e hA hB
end Go.Proofs.YthlolfncdjaniaaDoor.Tu
