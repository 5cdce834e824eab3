/- The walks of SameItem and SameItems, whatever the two are. -/
import Derived.Test.YthlolfncdjaniaaDoorRepl
namespace Go.Proofs.YthlolfncdjaniaaDoor.Tu
open Go Go.RowKit Go.Proofs.YthlolfncdjaniaaDoor.PTuplePrefix Go.Proofs.YthlolfncdjaniaaDoorW.PrintWords Go.Proofs.YthlolfncdjaniaaDoorW.PrintLast Go.Proofs.YthlolfncdjaniaaDoorW.PrintMore
set_option linter.unusedVariables false
set_option linter.unusedSectionVars false
set_option linter.unusedSimpArgs false
abbrev ago (x : S46) (A : Option Addr) (c : Nat) : Obj := .cells #[.int .i64 x.f0, .int .i64 x.f1, .string x.f2, .slice A x.f3.length c] 46
abbrev agv (x : S46) (A : Option Addr) (c : Nat) : Value := .agg #[.int .i64 x.f0, .int .i64 x.f1, .string x.f2, .slice A x.f3.length c]
/-- A block that holds an item. -/
def RAt (w : World) (b : Nat) (v0 v1 v2 v3 : Value) : Prop := w.heap[b]? = some (.cells #[v0, v1, v2, v3] 46 (0, 0))
theorem RAt.cells {w : World} {b : Nat} {v0 v1 v2 v3 : Value} (h : RAt w b v0 v1 v2 v3) : (w.cell? ⟨b, 0, none⟩ = some v0 ∧ w.cell? ⟨b, 1, none⟩ = some v1 ∧ w.cell? ⟨b, 2, none⟩ = some v2 ∧ w.cell? ⟨b, 3, none⟩ = some v3) ∧ ∀ i, w.frozen? ⟨b, i, none⟩ = false :=
  ⟨⟨blk_cell h 0, blk_cell h 1, blk_cell h 2, blk_cell h 3⟩, fun i => blk_frozen h i⟩
structure BoolOk (b : Bool) (W : World) (e : Ending) (W' : World) : Prop where
  end_ : e = .returned (.bool b)
  below : Below W.heap.size W W'
noncomputable def eqL (xs ys : List S46) : Bool := by classical exact decide (xs = ys)
noncomputable def eqI (x y : S46) : Bool := by classical exact decide (x = y)
theorem eqL_true {xs ys : List S46} : eqL xs ys = true ↔ xs = ys := by simp [eqL]
theorem eqI_true {x y : S46} : eqI x y = true ↔ x = y := by simp [eqI]
theorem eqL_false {xs ys : List S46} (h : xs ≠ ys) : eqL xs ys = false := by simp [eqL, h]
theorem eqI_false {x y : S46} (h : x ≠ y) : eqI x y = false := by simp [eqI, h]
/-- SameItem says so, of x and any other. -/
def SameAt (x : S46) : Prop := ∀ (y : S46) (W : World) (A B : Option Addr) (c d : Nat), x.f3.length ≤ c → y.f3.length ≤ d → k46.C W A x.f3.length x.f3 → k46.C W B y.f3.length y.f3 →
  Calls Tryd.prog 30 #[agv x A c, agv y B d] W (BoolOk (eqI x y) W)
theorem rd_at (xs : List S46) (i : Nat) (h : i < xs.length) : rd_T46 xs (i : Int) = xs[i] := by
  unfold rd_T46
  rw [Int.toNat_natCast, List.getD_eq_getElem?_getD, List.getElem?_eq_getElem h]
  rfl
theorem rd_mem {xs : List S46} {i : Nat} (h : i < xs.length) : rd_T46 xs (i : Int) ∈ xs := by rw [rd_at xs i h]; exact List.getElem_mem h
theorem elem46 {w : World} {A : Option Addr} {n : Nat} {l : List S46} (h : k46.C w A n l) (i : Nat) (hi : i < n) : ∃ (a : Addr) (B : Option Addr) (e : Nat), A = some a ∧
    w.cell? (a.add (i * 4)) = some (.int .i64 (rd_T46 l i).f0) ∧ w.cell? ⟨(a.add (i * 4)).block, (a.add (i * 4)).off + 1, none⟩ = some (.int .i64 (rd_T46 l i).f1) ∧
    w.cell? ⟨(a.add (i * 4)).block, (a.add (i * 4)).off + 2, none⟩ = some (.string (rd_T46 l i).f2) ∧ w.cell? ⟨(a.add (i * 4)).block, (a.add (i * 4)).off + 3, none⟩ = some (.slice B (rd_T46 l i).f3.length e) ∧
    (rd_T46 l i).f3.length ≤ e ∧ k46.C w B (rd_T46 l i).f3.length (rd_T46 l i).f3 := by
  obtain ⟨a, B, e, hA, h0, h1, h2, h3, h4, h5⟩ := at_T46 h (i : Int) (by omega) (by omega)
  simp only [Int.toNat_natCast] at h0 h1 h2 h3
  exact ⟨a, B, e, hA, h0, h1, h2, h3, h4, h5⟩
theorem take_same {xs ys : List S46} (hl : xs.length = ys.length) (h : ∀ j (h1 : j < xs.length) (h2 : j < ys.length), xs[j] = ys[j]) : xs = ys := List.ext_getElem hl h
set_option maxHeartbeats 2000000 in
set_option maxRecDepth 100000 in
theorem same_list (xs ys : List S46) (hx : ∀ y, y ∈ xs → SameAt y) (W : World) (A B : Option Addr) (c d : Nat) (hA : k46.C W A xs.length xs) (hB : k46.C W B ys.length ys) :
    Calls Tryd.prog 11 #[.slice A xs.length c, .slice B ys.length d] W (BoolOk (eqL xs ys) W) := by
  have HX := Lib.hid hx
  have HA := Aside0.mk hA
  have HB := Aside0.mk hB
  have hm := Kd.C_max hA
  have hm2 := Kd.C_max hB
  clear hx hA hB
  by_cases hlen : xs.length = ys.length
  · have hle : ((xs.length : Int) != (ys.length : Int)) = false := by simp [hlen]
    go_enter Tryd.func11, Tryd.ntmps11
    have HL := Lib.hid hlen
    clear hlen
    go_wp2_with fail
    go_loopw [5] (fun v5 W' => ∃ i : Nat, v5 = .int .i64 i ∧ i ≤ xs.length ∧ Hid (∀ j, j < i → rd_T46 xs (j : Int) = rd_T46 ys (j : Int)) ∧ Aside0 (Below W.heap.size W W')) (fun v5 _ => xs.length - (intOf v5).toNat)
    case atStart => exact ⟨0, rfl, by omega, Lib.hid (fun j hj => by omega), ⟨Below.refl _ _⟩⟩
    case round =>
      obtain ⟨i, rfl, hi, hs, HW⟩ := hrel
      by_cases hlt : i < xs.length
      · have hlt' : (i : Int) < (xs.length : Int) := by omega
        have hlty : i < ys.length := by rw [← HL.out]; exact hlt
        have hlty' : (i : Int) < (ys.length : Int) := by omega
        obtain ⟨a, A3, c3, rfl, a0, a1, a2, a3, al, aC⟩ := elem46 (Kd.C_below HA.out HW.out) i hlt
        obtain ⟨b, B3, d3, rfl, b0, b1, b2, b3, bl, bC⟩ := elem46 (Kd.C_below HB.out HW.out) i hlty
        have AC := Aside0.mk aC
        have BC := Aside0.mk bC
        have hmem := Lib.hid (rd_mem hlt)
        clear aC bC
        obtain ⟨x, hxe⟩ : ∃ x, rd_T46 xs (i : Int) = x := ⟨_, rfl⟩
        obtain ⟨y, hye⟩ : ∃ y, rd_T46 ys (i : Int) = y := ⟨_, rfl⟩
        rw [hxe] at a0 a1 a2 a3 al AC hmem
        rw [hye] at b0 b1 b2 b3 bl BC
        have HXE := Lib.hid hxe
        have HYE := Lib.hid hye
        clear hxe hye
        go_wp2_with fail
        go_region_law (go_simp; go_at_call 30; refine (HX.out _ hmem.out y _ A3 B3 c3 d3 al bl (Kd.C_drew AC.out) (Kd.C_drew BC.out)).mono ?_; rintro e w1 ⟨rfl, hb1⟩; have HB1 := Aside0.mk ((below_drew HW.out).trans (hb1.mono HW.out.size)); clear hb1)
        all_goals
          by_cases hxy : x = y
          · have he : eqI x y = true := eqI_true.2 hxy
            have HXY := Lib.hid hxy
            clear hxy
            go_wp2_with fail
            go_roundw
            case rel => exact ⟨i + 1, by go_num, by omega, Lib.hid (fun j hj => by
              rcases Nat.lt_or_ge j i with h | h
              · exact hs.out j h
              · obtain rfl : j = i := by omega
                rw [HXE.out, HYE.out, HXY.out]), HB1⟩
            case measure => simp [intOf]; omega
          · have he : eqI x y = false := eqI_false hxy
            have hne : eqL xs ys = false := eqL_false (fun h => hxy (by rw [← HXE.out, ← HYE.out, h]))
            have HNE := Lib.hid hne
            clear hne hxy
            go_wp2_with fail
            go_ret
            exact ⟨by rw [HNE.out]; rfl, HB1.out⟩
      · have hlt' : ¬ (i : Int) < (xs.length : Int) := by omega
        have he := Lib.hid (show eqL xs ys = true from eqL_true.2 (take_same HL.out (fun j h1 h2 => by
          have := hs.out j (by omega)
          rwa [rd_at xs j h1, rd_at ys j h2] at this)))
        go_wp2_with fail
        go_ret
        exact ⟨by rw [he.out]; rfl, HW.out⟩
  · have hle : ((xs.length : Int) != (ys.length : Int)) = true := bne_iff_ne.mpr (by omega)
    have he := Lib.hid (eqL_false (xs := xs) (ys := ys) (fun h => hlen (by rw [h])))
    clear hlen
    go_enter Tryd.func11, Tryd.ntmps11
    go_wp2_with fail
    go_ret
    exact ⟨by rw [he.out]; rfl, Below.refl _ _⟩
set_option maxHeartbeats 2000000 in
set_option maxRecDepth 100000 in
theorem same_at (x : S46) (hx : ∀ y, y ∈ x.f3 → SameAt y) : SameAt x := by
  intro y W A B c d hc hd hA hB
  have HX := Lib.hid hx
  have HA := Aside0.mk hA
  have HB := Aside0.mk hB
  clear hx hA hB
  have HBW := Aside0.mk (below_alloc (below_alloc (Below.refl W.heap.size W) (ago x A c)) (ago y B d))
  go_enter Tryd.func30, Tryd.ntmps30
  go_wp2_with fail
  go_at_call 11
  refine (same_list x.f3 y.f3 HX.out _ A B c d (by exact (Kd.C_alloc (Kd.C_alloc HA.out _) _)) (by exact (Kd.C_alloc (Kd.C_alloc HB.out _) _))).mono ?_
  rintro e w1 ⟨rfl, hb1⟩
  have HB1 := Aside0.mk (HBW.out.trans (hb1.mono HBW.out.size))
  have hP : ((W.alloc (ago x A c)).alloc (ago y B d)).heap[W.heap.size]? = some (.cells #[.int .i64 x.f0, .int .i64 x.f1, .string x.f2, .slice A x.f3.length c] 46 (0, 0)) := ((MapKept.heap_alloc _ _).2 _ (by simp)).trans (MapKept.heap_alloc _ _).1
  have hQ : ((W.alloc (ago x A c)).alloc (ago y B d)).heap[W.heap.size + 1]? = some (.cells #[.int .i64 y.f0, .int .i64 y.f1, .string y.f2, .slice B y.f3.length d] 46 (0, 0)) := by
    have e1 : (W.alloc (ago x A c)).heap.size = W.heap.size + 1 := by simp
    rw [← e1]
    exact (MapKept.heap_alloc _ _).1
  have hP1 : RAt w1 W.heap.size _ _ _ _ := (hb1.block _ (by simp; omega)).trans hP
  have hQ1 : RAt w1 (W.heap.size + 1) _ _ _ _ := (hb1.block _ (by simp)).trans hQ
  obtain ⟨⟨m0, m1, m2, m3⟩, _⟩ := hP1.cells
  obtain ⟨⟨k0, k1, k2, k3⟩, _⟩ := hQ1.cells
  clear hP hQ hP1 hQ1 hb1 m3 k3
  have hfin : ∀ (b : Bool), (b = true ↔ x.f0 = y.f0 ∧ x.f1 = y.f1 ∧ x.f2 = y.f2 ∧ x.f3 = y.f3) → b = eqI x y := fun b hb => by
    by_cases h : x = y
    · rw [eqI_true.2 h]; exact hb.2 (by subst h; exact ⟨rfl, rfl, rfl, rfl⟩)
    · rw [eqI_false h]
      cases b with
      | false => rfl
      | true => obtain ⟨h0, h1, h2, h3⟩ := hb.1 rfl; exact absurd (by cases x; cases y; simp_all) h
  have HF := Lib.hid hfin
  clear hfin
  by_cases h3 : x.f3 = y.f3
  · have he : eqL x.f3 y.f3 = true := eqL_true.2 h3
    have H3 := Lib.hid h3
    clear h3
    by_cases h0 : x.f0 = y.f0
    · have q0 : (x.f0 == y.f0) = true := by simp [h0]
      have H0 := Lib.hid h0
      clear h0
      by_cases h1 : x.f1 = y.f1
      · have q1 : (x.f1 == y.f1) = true := by simp [h1]
        have H1 := Lib.hid h1
        clear h1
        by_cases h2 : x.f2 = y.f2
        · have q2 : (x.f2.toList == y.f2.toList) = true := (Lib.bytes_beq_iff _ _).2 h2
          have H2 := Lib.hid h2
          clear h2
          go_wp2_with fail
          go_ret
          exact ⟨by rw [← HF.out true ⟨fun _ => ⟨H0.out, H1.out, H2.out, H3.out⟩, fun _ => rfl⟩]; rfl, HB1.out⟩
        · have q2 : (x.f2.toList == y.f2.toList) = false := (Lib.bytes_beq_false_iff _ _).2 h2
          have H2 := Lib.hid h2
          clear h2
          go_wp2_with fail
          go_ret
          exact ⟨by rw [← HF.out false ⟨fun h => (by cases h), fun h => absurd h.2.2.1 H2.out⟩]; rfl, HB1.out⟩
      · have q1 : (x.f1 == y.f1) = false := by simpa using h1
        have H1 := Lib.hid h1
        clear h1
        go_wp2_with fail
        go_ret
        exact ⟨by rw [← HF.out false ⟨fun h => (by cases h), fun h => absurd h.2.1 H1.out⟩]; rfl, HB1.out⟩
    · have q0 : (x.f0 == y.f0) = false := by simpa using h0
      have H0 := Lib.hid h0
      clear h0
      go_wp2_with fail
      go_ret
      exact ⟨by rw [← HF.out false ⟨fun h => (by cases h), fun h => absurd h.1 H0.out⟩]; rfl, HB1.out⟩
  · have he : eqL x.f3 y.f3 = false := eqL_false h3
    have H3 := Lib.hid h3
    clear h3
    go_wp2_with fail
    go_ret
    exact ⟨by rw [← HF.out false ⟨fun h => (by cases h), fun h => absurd h.2.2.2 H3.out⟩]; rfl, HB1.out⟩
theorem same_all : ∀ (n : Nat) (x : S46), SizeOf.sizeOf x ≤ n → SameAt x
  | 0, x, h => by cases x; simp at h
  | n + 1, x, h => same_at x fun y hy => same_all n y (by
      have h1 := List.sizeOf_lt_of_mem hy
      have h2 : SizeOf.sizeOf x = 1 + SizeOf.sizeOf x.f0 + SizeOf.sizeOf x.f1 + SizeOf.sizeOf x.f2 + SizeOf.sizeOf x.f3 := by cases x; rw [S46.mk.sizeOf_spec]
      omega)
/-- SameItems: are they the same? -/
theorem same_any (xs ys : List S46) (W : World) (A B : Option Addr) (c d : Nat) (hA : k46.C W A xs.length xs) (hB : k46.C W B ys.length ys) :
    Calls Tryd.prog 11 #[.slice A xs.length c, .slice B ys.length d] W (BoolOk (eqL xs ys) W) := same_list xs ys (fun y _ => same_all _ y (Nat.le_refl _)) W A B c d hA hB
end Go.Proofs.YthlolfncdjaniaaDoor.Tu
