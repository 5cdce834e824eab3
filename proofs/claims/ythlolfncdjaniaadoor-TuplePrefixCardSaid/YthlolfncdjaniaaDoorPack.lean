/- The walks of tuple's Pack and Compare, at lists that may be; of the law's own order. -/
import Derived.Test.YthlolfncdjaniaaDoorWrite
namespace Go.Proofs.YthlolfncdjaniaaDoor.Tu
open Go Go.RowKit Go.Proofs.YthlolfncdjaniaaDoor.PTuplePrefix Go.Proofs.YthlolfncdjaniaaDoorW.PrintWords Go.Proofs.YthlolfncdjaniaaDoorW.PrintLast Go.Proofs.YthlolfncdjaniaaDoorW.PrintMore
set_option linter.unusedVariables false
set_option linter.unusedSectionVars false
set_option linter.unusedSimpArgs false
theorem write_any : ∀ (d : Nat), d ≤ 4 → ∀ l : List S46, (∀ y, y ∈ l → Ok46 d y) → WriteAt d l
  | 0, hd, l, hok => write_list 0 hd l hok (fun d' h => by omega)
  | d + 1, hd, l, hok => write_list (d + 1) hd l hok (fun d' h y hy => by
      obtain rfl : d = d' := by omega
      exact write_any d (by omega) y.f3 (ok_inner (hok y hy)))
/-- A list that may be, and has a text. -/
structure OkL (l : List S46) : Prop where
  ok : ∀ y, y ∈ l → Ok46 4 y
  len : l.length ≤ 16
  size : (encL 4 l).length ≤ 65536
def packS (l : List S46) : ByteArray := ⟨(encL 4 l).toArray⟩
theorem packS_data (l : List S46) : (packS l).data.toList = encL 4 l := by simp [packS]
theorem packS_size {l : List S46} (h : OkL l) : (packS l).size ≤ 65536 := by rw [← slen, packS_data]; exact h.size
set_option maxHeartbeats 1000000 in
theorem pack_any (l : List S46) (hl : OkL l) (W : World) (A : Option Addr) (c : Nat) (hA : k46.C W A l.length l) :
    Calls Tryd.prog 15 #[.slice A l.length c] W fun e w' => e = .returned (.tuple #[.string (packS l), .nilIface]) ∧ Below W.heap.size W w' := by
  have HA := Aside0.mk hA
  clear hA
  go_enter Tryd.func15, Tryd.ntmps15
  go_wp2_with fail
  go_at_call 27
  refine (check_any l hl.ok hl.len hl.size W A c HA.out).mono ?_
  rintro _ w1 ⟨rfl, hb1⟩
  have HB1 := Aside0.mk hb1
  have HW := Aside0.mk (wb_new w1)
  have HA1 := Aside0.mk (Kd.C_below HA.out hb1)
  have HBn := Aside0.mk (below_alloc (Below.refl w1.heap.size w1) (.cells #[.pointer none, .slice none 0 0] 70))
  clear hb1
  go_wp2_with fail
  go_at_call 34
  refine (write_any 4 (by omega) l hl.ok w1 A c HA1.out w1.heap.size [] _ HBn.out HW.out (by have := hl.size; simp; omega)).mono ?_
  rintro _ w2 ⟨rfl, ha2, hb2, _⟩
  have HW2 := Aside0.mk (show Wb w1.heap.size w1.heap.size (encL 4 l) w2 by simpa using ha2)
  have HB2 := Aside0.mk (HBn.out.trans hb2)
  have hs2 := HB2.out.size
  clear ha2 hb2
  go_wp2_with fail
  go_at_call 35
  refine (wstring w1.heap.size w1.heap.size _ w2 HW2.out hs2).mono ?_
  rintro _ w3 ⟨rfl, hb3⟩
  have HB3 := Aside0.mk (HB2.out.trans hb3)
  clear hb3
  go_wp2_with fail
  go_ret2
  exact ⟨rfl, HB1.out.trans (HB3.out.mono HB1.out.size)⟩
set_option maxHeartbeats 1000000 in
theorem compareL_any (a b : List S46) (ha : OkL a) (hb : OkL b) (W : World) (A B : Option Addr) (c e : Nat) (hA : k46.C W A a.length a) (hB : k46.C W B b.length b) :
    Calls Tryd.prog 19 #[.slice A a.length c, .slice B b.length e] W fun e w' => e = .returned (.tuple #[.int .i64 (cmpLs (cmpI 4) a b), .nilIface]) ∧ Below W.heap.size W w' := by
  have HA := Aside0.mk hA
  have HB := Aside0.mk hB
  clear hA hB
  go_enter Tryd.func19, Tryd.ntmps19
  go_wp2_with fail
  go_at_call 27
  refine (check_any a ha.ok ha.len ha.size W A c HA.out).mono ?_
  rintro _ w1 ⟨rfl, hb1⟩
  have HB1 := Aside0.mk hb1
  clear hb1
  go_wp2_with fail
  go_at_call 27
  refine (check_any b hb.ok hb.len hb.size w1 B e (Kd.C_below HB.out HB1.out)).mono ?_
  rintro _ w2 ⟨rfl, hb2⟩
  have HB2 := Aside0.mk (HB1.out.trans (hb2.mono HB1.out.size))
  clear hb2
  go_wp2_with fail
  go_at_call 36
  refine (order_any 4 a b ha.ok hb.ok w2 A B c e (Kd.C_below HA.out HB2.out) (Kd.C_below HB.out HB2.out)).mono ?_
  rintro _ w3 ⟨rfl, hb3⟩
  have HB3 := Aside0.mk (HB2.out.trans (hb3.mono HB2.out.size))
  clear hb3
  go_wp2_with fail
  go_ret2
  exact ⟨rfl, HB3.out⟩
theorem cb_at : ∀ (s t : List UInt8) (i : Nat), i ≤ s.length → i ≤ t.length → s.take i = t.take i → cb s t = cb (s.drop i) (t.drop i)
  | s, t, 0, _, _, _ => rfl
  | [], t, i + 1, h, _, _ => by simp at h
  | _ :: _, [], i + 1, _, h, _ => by simp at h
  | a :: s, b :: t, i + 1, hs, ht, h => by
    rw [List.take_succ_cons, List.take_succ_cons] at h
    injection h with h1 h2
    subst h1
    rw [cb_same, List.drop_succ_cons, List.drop_succ_cons]
    exact cb_at s t i (by simpa using hs) (by simpa using ht) h2
theorem cb_step (s t : ByteArray) (i : Nat) (hs : i < s.size) (ht : i < t.size) (h : s.data.toList.take i = t.data.toList.take i) :
    cb s.data.toList t.data.toList = if s[i] < t[i] then -1 else if t[i] < s[i] then 1 else cb (s.data.toList.drop (i + 1)) (t.data.toList.drop (i + 1)) := by
  have h1 := slen s
  have h2 := slen t
  rw [cb_at _ _ i (by omega) (by omega) h, List.drop_eq_getElem_cons (show i < s.data.toList.length by omega), List.drop_eq_getElem_cons (show i < t.data.toList.length by omega), cb_cons]
  rfl
theorem take_more (s t : ByteArray) (i : Nat) (hs : i < s.size) (ht : i < t.size) (h : s.data.toList.take i = t.data.toList.take i) (he : s[i] = t[i]) : s.data.toList.take (i + 1) = t.data.toList.take (i + 1) := by
  have h1 := slen s
  have h2 := slen t
  rw [List.take_succ_eq_append_getElem (show i < s.data.toList.length by omega), List.take_succ_eq_append_getElem (show i < t.data.toList.length by omega), h]
  congr 2
theorem cb_end (s t : ByteArray) (i : Nat) (hs : i ≤ s.size) (ht : i ≤ t.size) (h : s.data.toList.take i = t.data.toList.take i) (hn : ¬ (i < s.size ∧ i < t.size)) : cb s.data.toList t.data.toList = sgn s.size t.size := by
  have h1 := slen s
  have h2 := slen t
  rw [cb_at _ _ i (by omega) (by omega) h]
  by_cases h1' : i = s.size
  · rw [List.drop_of_length_le (by omega)]
    by_cases h2' : i = t.size
    · rw [List.drop_of_length_le (by omega), show (s.size : Int) = t.size by omega, sgn_self]; rfl
    · rw [List.drop_eq_getElem_cons (show i < t.data.toList.length by omega), show sgn (s.size : Int) (t.size : Int) = -1 from if_pos (by omega)]; rfl
  · rw [List.drop_eq_getElem_cons (show i < s.data.toList.length by omega), List.drop_of_length_le (show t.data.toList.length ≤ i by omega)]
    unfold sgn
    rw [if_neg (by omega), if_pos (by omega)]; rfl
set_option maxHeartbeats 2000000 in
set_option maxRecDepth 100000 in
theorem bytes_order (s t : ByteArray) (hs : s.size ≤ 1000000000) (ht : t.size ≤ 1000000000) (W : World) : Calls Tryd.prog 20 #[.string s, .string t] W fun e w' => e = .returned (.int .i64 (cb s.data.toList t.data.toList)) ∧ Below W.heap.size W w' := by
  go_enter Tryd.func20, Tryd.ntmps20
  go_wp2_with fail
  go_loopw [5] (fun v5 W' => ∃ i : Nat, v5 = .int .i64 i ∧ i ≤ s.size ∧ i ≤ t.size ∧ Hid (s.data.toList.take i = t.data.toList.take i) ∧ Aside0 (Below W.heap.size W W')) (fun v5 _ => s.size - (intOf v5).toNat)
  case atStart => exact ⟨0, rfl, by omega, by omega, Lib.hid rfl, ⟨Below.refl _ _⟩⟩
  case round =>
    obtain ⟨i, rfl, hi, hi2, hs', HW⟩ := hrel
    by_cases hlt : i < s.size ∧ i < t.size
    · obtain ⟨h1, h2⟩ := hlt
      have h1' : (i : Int) < (s.size : Int) := by omega
      have h2' : (i : Int) < (t.size : Int) := by omega
      have r1 := (s[i]).toNat_lt
      have r2 := (t[i]).toNat_lt
      have hst := Lib.hid (cb_step s t i h1 h2 hs'.out)
      by_cases he : ((s[i]).toNat : Int) = ((t[i]).toNat : Int)
      · have q0 : (((s[i]).toNat : Int) != ((t[i]).toNat : Int)) = false := by simp [he]
        have hm := Lib.hid (take_more s t i h1 h2 hs'.out (UInt8.toNat_inj.1 (by omega)))
        clear he
        go_wp2_with fail
        go_quiet (fail)
        go_wp2_with fail
        go_roundw
        case rel => exact ⟨i + 1, by go_num, by omega, by omega, hm, ⟨pw_below_drewN HW.out _⟩⟩
        case measure => simp [intOf]; omega
      · have q0 : (((s[i]).toNat : Int) != ((t[i]).toNat : Int)) = true := bne_iff_ne.mpr he
        by_cases hl : ((s[i]).toNat : Int) < ((t[i]).toNat : Int)
        · have hc := Lib.hid (show cb s.data.toList t.data.toList = -1 by rw [hst.out, if_pos (by rw [UInt8.lt_iff_toNat_lt]; omega)])
          clear he
          go_wp2_with fail
          go_quiet (fail)
          go_wp2_with fail
          go_quiet (fail)
          go_wp2_with fail
          go_ret
          exact ⟨by rw [hc.out]; rfl, pw_below_drewN (pw_below_drewN HW.out _) _⟩
        · have hc := Lib.hid (show cb s.data.toList t.data.toList = 1 by rw [hst.out, if_neg (by rw [UInt8.lt_iff_toNat_lt]; omega), if_pos (by rw [UInt8.lt_iff_toNat_lt]; omega)])
          clear he
          go_wp2_with fail
          go_quiet (fail)
          go_wp2_with fail
          go_quiet (fail)
          go_wp2_with fail
          go_ret
          exact ⟨by rw [hc.out]; rfl, pw_below_drewN (pw_below_drewN HW.out _) _⟩
    · have hc := Lib.hid (cb_end s t i hi hi2 hs'.out hlt)
      have hcase : (¬ (i : Int) < (s.size : Int)) ∨ ((i : Int) < (s.size : Int) ∧ ¬ (i : Int) < (t.size : Int)) := by omega
      clear hlt
      rcases Int.lt_trichotomy (s.size : Int) (t.size : Int) with h | h | h
      · have e : sgn (s.size : Int) (t.size : Int) = -1 := if_pos h
        rcases hcase with q | ⟨q, q'⟩
        all_goals
          go_wp2_with fail
          go_ret
          exact ⟨by rw [hc.out, e]; rfl, HW.out⟩
      · have e : sgn (s.size : Int) (t.size : Int) = 0 := by rw [h, sgn_self]
        have n1 : ¬ (s.size : Int) < (t.size : Int) := by omega
        have n2 : ¬ (t.size : Int) < (s.size : Int) := by omega
        clear h
        rcases hcase with q | ⟨q, q'⟩
        all_goals
          go_wp2_with fail
          go_ret
          exact ⟨by rw [hc.out, e]; rfl, HW.out⟩
      · have e : sgn (s.size : Int) (t.size : Int) = 1 := by unfold sgn; rw [if_neg (by omega), if_pos h]
        have n1 : ¬ (s.size : Int) < (t.size : Int) := by omega
        rcases hcase with q | ⟨q, q'⟩
        all_goals
          go_wp2_with fail
          go_ret
          exact ⟨by rw [hc.out, e]; rfl, HW.out⟩
end Go.Proofs.YthlolfncdjaniaaDoor.Tu
