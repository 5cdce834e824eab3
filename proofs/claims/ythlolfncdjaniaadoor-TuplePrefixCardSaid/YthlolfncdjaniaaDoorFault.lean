/- The walks of tuple's fault and check, at a list that may be. -/
import Derived.Test.YthlolfncdjaniaaDoorMay
namespace Go.Proofs.YthlolfncdjaniaaDoor.Tu
open Go Go.RowKit Go.Proofs.YthlolfncdjaniaaDoor.PTuplePrefix Go.Proofs.YthlolfncdjaniaaDoorW.PrintWords Go.Proofs.YthlolfncdjaniaaDoorW.PrintLast Go.Proofs.YthlolfncdjaniaaDoorW.PrintMore
set_option linter.unusedVariables false
set_option linter.unusedSectionVars false
set_option linter.unusedSimpArgs false
structure CountOk (n : Nat) (W : World) (e : Ending) (W' : World) : Prop where
  end_ : e = .returned (.tuple #[.int .i64 n, .nilIface])
  below : Below W.heap.size W W'
/-- What fault is asked of: the lists within. -/
def FaultAt (d lists : Nat) (l : List S46) : Prop := ∀ (W : World) (A : Option Addr) (c : Nat), k46.C W A l.length l → Calls Tryd.prog 39 #[.slice A l.length c, .int .i64 ((lists : Int) + 1)] W (CountOk (encL d l).length W)
theorem enc_snoc (d : Nat) (l : List S46) (i : Nat) (h : i < l.length) : encL d (l.take (i + 1)) = encL d (l.take i) ++ encI d (rd_T46 l (i : Int)) := by
  rw [rd_at l i h, List.take_succ_eq_append_getElem h, encL_app]
  simp [encL]
theorem enc_bound {d : Nat} {l : List S46} (h : ∀ y, y ∈ l → Ok46 d y) (hl : l.length ≤ 16) (hd : d ≤ 4) (i : Nat) : (encL d (l.take i)).length ≤ 146632728000 := by
  have h1 := enc_len_in (d := d) (N := most d) (f := encI d) (l := l.take i) (fun y hy => enc_most d y (h y (List.mem_of_mem_take hy)))
  have h2 : (l.take i).length ≤ 16 := by rw [List.length_take]; omega
  have h3 : most d ≤ 9164545500 := by
    have : d = 0 ∨ d = 1 ∨ d = 2 ∨ d = 3 ∨ d = 4 := by omega
    rcases this with rfl | rfl | rfl | rfl | rfl <;> decide
  exact Nat.le_trans h1 (Nat.le_trans (Nat.mul_le_mul h3 h2) (by decide))
theorem len_null (d : Nat) : (encI d ⟨1, 0, ⟨#[]⟩, []⟩).length = 1 := by cases d <;> rfl
theorem len_flag (d : Nat) (n : Int) : (encI d ⟨2, n, ⟨#[]⟩, []⟩).length = 2 := by cases d <;> rfl
theorem len_num (d : Nat) (n : Int) : (encI d ⟨3, n, ⟨#[]⟩, []⟩).length = 9 := by cases d <;> simp [encI, restB, numB, be_len]
theorem len_text (d : Nat) (t : ByteArray) : (encI d ⟨4, 0, t, []⟩).length = 3 + t.size + t.data.toList.count 0 := by
  have h := esc_len t.data.toList
  rw [slen] at h
  cases d <;> (show (_ :: (esc t.data.toList ++ [0, 0])).length = _; rw [List.length_cons, List.length_append, h]; show _ + 2 + 1 = _; omega)
theorem len_list (d : Nat) (l : List S46) : (encI (d + 1) ⟨5, 0, ⟨#[]⟩, l⟩).length = 2 + (encL d l).length := by simp [encI, restB, encL]; omega
theorem sum3 (a b c : Nat) (h : a + b + c + 3 ≤ 9223372036854775807) : IntKind.i64.wrap ((a : Int) + IntKind.i64.wrap (IntKind.i64.wrap (3 + (b : Int)) + (c : Int))) = ((a + (3 + b + c) : Nat) : Int) := by
  rw [IntWalk.i64_in (3 + (b : Int)) ⟨by omega, by omega⟩, IntWalk.i64_in (3 + (b : Int) + (c : Int)) ⟨by omega, by omega⟩, IntWalk.i64_in _ ⟨by omega, by omega⟩]
  omega
set_option maxHeartbeats 8000000 in
set_option maxRecDepth 100000 in
theorem fault_list (d lists : Nat) (hd : lists + d = 4) (l : List S46) (hok : ∀ y, y ∈ l → Ok46 d y) (hl : l.length ≤ 16) (hin : ∀ d', d = d' + 1 → ∀ y, y ∈ l → FaultAt d' lists y.f3) (W : World) (A : Option Addr) (c : Nat) (hA : k46.C W A l.length l) :
    Calls Tryd.prog 39 #[.slice A l.length c, .int .i64 lists] W (CountOk (encL d l).length W) := by
  have HA := Aside0.mk hA
  have HI := Lib.hid hin
  have HO := Lib.hid hok
  have HBD := Lib.hid (fun i => enc_bound hok hl (by omega) i)
  have hl' : ¬ (16 : Int) < (l.length : Int) := by omega
  clear hA hin hok
  go_enter Tryd.func39, Tryd.ntmps39
  go_wp2_with fail
  go_loopw [6, 17] (fun v6 v17 W' => ∃ i : Nat, v6 = .int .i64 (encL d (l.take i)).length ∧ v17 = .int .i64 i ∧ i ≤ l.length ∧ Aside0 (Below W.heap.size W W')) (fun _ v17 _ => l.length - (intOf v17).toNat)
  case atStart => exact ⟨0, rfl, rfl, by omega, ⟨Below.refl _ _⟩⟩
  case round =>
    obtain ⟨i, rfl, rfl, hi, HW⟩ := hrel
    by_cases hlt : i < l.length
    · have hlt' : (i : Int) < (l.length : Int) := by omega
      obtain ⟨a, B, e, rfl, a0, a1, a2, a3, ae, aC⟩ := elem46 (Kd.C_below HA.out HW.out) i hlt
      have hsn := enc_snoc d l i hlt
      have hx := HO.out _ (rd_mem hlt)
      have hf := Lib.hid (fun d' hd' => HI.out d' hd' _ (rd_mem hlt))
      have hb0 := HBD.out i
      have hb1 := HBD.out (i + 1)
      have hln := congrArg List.length hsn
      rw [List.length_append] at hln
      generalize rd_T46 l (i : Int) = x at a0 a1 a2 a3 ae aC hx hf hln
      generalize (encL d (l.take i)).length = n0 at hb0 hln ⊢
      have HLN := Lib.hid hln
      have HX := Lib.hid hx
      have AC := Aside0.mk aC
      have hmay := Lib.hid (fun W => may_any d x hx B e W)
      clear hsn aC
      cases hx with
      | null =>
        have HLX := Lib.hid (len_null d)
        have hle := hln
        rw [HLX.out] at hle
        dsimp only at a0 a1 a2 a3 ae AC hmay
        clear hln
        go_wp2_with fail
        go_at_call 51
        refine (hmay.out _).mono ?_
        rintro _ w2 ⟨rfl, hb2⟩
        obtain ⟨⟨m0, m1, m2, m3⟩, _⟩ := RAt.cells (show RAt w2 wr.heap.size _ _ _ _ from (hb2.block _ (by simp)).trans (MapKept.heap_alloc _ _).1)
        have HB2 := Aside0.mk (HW.out.trans ((below_alloc (Below.refl wr.heap.size wr) _).trans (hb2.mono (by simp))|>.mono HW.out.size))
        have hb2' := Lib.hid hb2
        clear hb2
        go_wp2_with fail
        go_roundw
        case rel => exact ⟨i + 1, by rw [HLN.out, HLX.out]; go_num, by go_num, by omega, HB2⟩
        case measure => simp [intOf]; omega
      | flag _ n h =>
        have HLX := Lib.hid (len_flag d n)
        have hle := hln
        rw [HLX.out] at hle
        dsimp only at a0 a1 a2 a3 ae AC hmay
        clear hln
        go_wp2_with fail
        go_at_call 51
        refine (hmay.out _).mono ?_
        rintro _ w2 ⟨rfl, hb2⟩
        obtain ⟨⟨m0, m1, m2, m3⟩, _⟩ := RAt.cells (show RAt w2 wr.heap.size _ _ _ _ from (hb2.block _ (by simp)).trans (MapKept.heap_alloc _ _).1)
        have HB2 := Aside0.mk (HW.out.trans ((below_alloc (Below.refl wr.heap.size wr) _).trans (hb2.mono (by simp))|>.mono HW.out.size))
        have hb2' := Lib.hid hb2
        clear hb2
        go_wp2_with fail
        go_roundw
        case rel => exact ⟨i + 1, by rw [HLN.out, HLX.out]; go_num, by go_num, by omega, HB2⟩
        case measure => simp [intOf]; omega
      | num _ n h =>
        have HLX := Lib.hid (len_num d n)
        have hle := hln
        rw [HLX.out] at hle
        dsimp only at a0 a1 a2 a3 ae AC hmay
        clear hln
        go_wp2_with fail
        go_at_call 51
        refine (hmay.out _).mono ?_
        rintro _ w2 ⟨rfl, hb2⟩
        obtain ⟨⟨m0, m1, m2, m3⟩, _⟩ := RAt.cells (show RAt w2 wr.heap.size _ _ _ _ from (hb2.block _ (by simp)).trans (MapKept.heap_alloc _ _).1)
        have HB2 := Aside0.mk (HW.out.trans ((below_alloc (Below.refl wr.heap.size wr) _).trans (hb2.mono (by simp))|>.mono HW.out.size))
        have hb2' := Lib.hid hb2
        clear hb2
        go_wp2_with fail
        go_roundw
        case rel => exact ⟨i + 1, by rw [HLN.out, HLX.out]; go_num, by go_num, by omega, HB2⟩
        case measure => simp [intOf]; omega
      | text _ t h =>
        have HLX := Lib.hid (len_text d t)
        have hle := hln
        rw [HLX.out] at hle
        dsimp only at a0 a1 a2 a3 ae AC hmay
        clear hln
        go_wp2_with fail
        go_at_call 51
        refine (hmay.out _).mono ?_
        rintro _ w2 ⟨rfl, hb2⟩
        obtain ⟨⟨m0, m1, m2, m3⟩, _⟩ := RAt.cells (show RAt w2 wr.heap.size _ _ _ _ from (hb2.block _ (by simp)).trans (MapKept.heap_alloc _ _).1)
        have HB2 := Aside0.mk (HW.out.trans ((below_alloc (Below.refl wr.heap.size wr) _).trans (hb2.mono (by simp))|>.mono HW.out.size))
        have hb2' := Lib.hid hb2
        clear hb2
        have hcl : t.data.toList.count 0 ≤ t.size := by rw [← slen]; exact List.count_le_length
        obtain ⟨k, hk⟩ : ∃ k, t.data.toList.count 0 = k := ⟨_, rfl⟩
        rw [hk] at hcl hle
        have HLX := Lib.hid (HLX.out.trans (by rw [hk]))
        have HK := Lib.hid (show Lib.countByte t.data.toList 0 = k from hk)
        clear hk
        go_wp2_with fail
        go_region_held3 (fun w' => w'.cell? ⟨wr.heap.size, 2, none⟩ = some (.string t)) (go_keep) (first | (go_at_call 52; refine (Tryd.strings_Count_one t 0 _).mono ?_; rintro _ _ ⟨rfl, rfl⟩; rw [HK.out]))
        all_goals
          go_wp2_with fail
          go_roundw
          case rel => exact ⟨i + 1, by rw [HLN.out, HLX.out, sum3 n0 t.size k (by omega)], by go_num, by omega, ⟨below_drew HB2.out⟩⟩
          case measure => simp [intOf]; omega

      | list d l2 hl2 hok2 =>
        have HLX := Lib.hid (len_list d l2)
        have hle := hln
        rw [HLX.out] at hle
        dsimp only at a0 a1 a2 a3 ae AC hmay
        clear hln
        go_wp2_with fail
        go_at_call 51
        refine (hmay.out _).mono ?_
        rintro _ w2 ⟨rfl, hb2⟩
        obtain ⟨⟨m0, m1, m2, m3⟩, _⟩ := RAt.cells (show RAt w2 wr.heap.size _ _ _ _ from (hb2.block _ (by simp)).trans (MapKept.heap_alloc _ _).1)
        have HB2 := Aside0.mk (HW.out.trans ((below_alloc (Below.refl wr.heap.size wr) _).trans (hb2.mono (by simp))|>.mono HW.out.size))
        have hb2' := Lib.hid hb2
        clear hb2
        have hd4 : ¬ (4 : Int) ≤ (lists : Int) := by omega
        go_wp2_with fail
        go_at_call 39
        refine (hf.out _ rfl _ B e (by exact (Kd.C_below AC.out ((below_alloc (Below.refl wr.heap.size wr) _).trans (hb2'.out.mono (by simp)))))).mono ?_
        rintro _ w3 ⟨rfl, hb3⟩
        have HB3 := Aside0.mk (HB2.out.trans (hb3.mono HB2.out.size))
        clear hb3
        go_wp2_with fail
        go_roundw
        case rel => exact ⟨i + 1, by rw [HLN.out, HLX.out]; go_num, by go_num, by omega, HB3⟩
        case measure => simp [intOf]; omega
    · have hlt' : ¬ (i : Int) < (l.length : Int) := by omega
      obtain rfl : i = l.length := by omega
      rw [List.take_length]
      go_wp2_with fail
      go_ret2
      exact ⟨rfl, HW.out⟩
theorem fault_any : ∀ (d lists : Nat), lists + d = 4 → ∀ (l : List S46), (∀ y, y ∈ l → Ok46 d y) → l.length ≤ 16 → ∀ (W : World) (A : Option Addr) (c : Nat), k46.C W A l.length l →
    Calls Tryd.prog 39 #[.slice A l.length c, .int .i64 lists] W (CountOk (encL d l).length W)
  | 0, lists, hd, l, hok, hl, W, A, c, hA => fault_list 0 lists hd l hok hl (fun d' h => by omega) W A c hA
  | d + 1, lists, hd, l, hok, hl, W, A, c, hA => fault_list (d + 1) lists hd l hok hl (fun d' h y hy W' A' c' hA' => by
      obtain rfl : d = d' := by omega
      have := fault_any d (lists + 1) (by omega) y.f3 (ok_inner (hok y hy)) (by cases hok y hy with | list _ l hl h => exact hl | _ => simp) W' A' c' hA'
      rw [Int.natCast_add] at this
      exact this) W A c hA
structure NilOk (W : World) (e : Ending) (W' : World) : Prop where
  end_ : e = .returned .nilIface
  below : Below W.heap.size W W'
set_option maxHeartbeats 1000000 in
theorem check_any (l : List S46) (hok : ∀ y, y ∈ l → Ok46 4 y) (hl : l.length ≤ 16) (ht : (encL 4 l).length ≤ 65536) (W : World) (A : Option Addr) (c : Nat) (hA : k46.C W A l.length l) :
    Calls Tryd.prog 27 #[.slice A l.length c] W (NilOk W) := by
  have HA := Aside0.mk hA
  have ht' : ¬ (65536 : Int) < ((encL 4 l).length : Int) := by omega
  clear hA
  go_enter Tryd.func27, Tryd.ntmps27
  go_wp2_with fail
  go_at_call 39
  refine (fault_any 4 0 rfl l hok hl W A c HA.out).mono ?_
  rintro _ w1 ⟨rfl, hb1⟩
  have HB1 := Aside0.mk hb1
  clear hb1
  go_wp2_with fail
  go_ret
  exact ⟨rfl, HB1.out⟩
end Go.Proofs.YthlolfncdjaniaaDoor.Tu
