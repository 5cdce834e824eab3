/- The walk of the law's own tidy; that what it makes may be. -/
import Derived.Test.YthlolfncdjaniaaDoorPack
namespace Go.Proofs.YthlolfncdjaniaaDoor.Tu
open Go Go.RowKit Go.Proofs.YthlolfncdjaniaaDoor.PTuplePrefix Go.Proofs.YthlolfncdjaniaaDoorW.PrintWords Go.Proofs.YthlolfncdjaniaaDoorW.PrintLast Go.Proofs.YthlolfncdjaniaaDoorW.PrintMore
set_option linter.unusedVariables false
set_option linter.unusedSectionVars false
set_option linter.unusedSimpArgs false
def pickF (k n : Int) : Int := if Int.tmod k n < 0 then Int.tmod k n + n else Int.tmod k n
theorem pickF_range (k n : Int) (hn : 1 ≤ n) : 0 ≤ pickF k n ∧ pickF k n < n := by
  have h1 := Int.tmod_lt_of_pos k (show 0 < n by omega)
  have h2 : -n < Int.tmod k n := by
    have := Int.lt_tmod_of_pos k (show 0 < n by omega)
    omega
  unfold pickF
  split <;> omega
set_option maxRecDepth 100000 in
theorem pick_walk (k n : Int) (hn : 1 ≤ n) (hm : n ≤ 9223372036854775807) (W : World) : Calls Tryd.prog 32 #[.int .i64 k, .int .i64 n] W fun e w' => e = .returned (.int .i64 (pickF k n)) ∧ w' = W := by
  have h1 : ¬ n < 1 := by omega
  have h0 : (n == 0) = false := by rw [beq_eq_false_iff_ne]; omega
  have hn0 : ¬ n = 0 := by omega
  have hr := pickF_range k n hn
  have hlt := Int.tmod_lt_of_pos k (show 0 < n by omega)
  by_cases hneg : Int.tmod k n < 0
  · have e : pickF k n = Int.tmod k n + n := if_pos hneg
    rw [e] at hr
    go_enter Tryd.func32, Tryd.ntmps32
    go_wp2_with fail
    go_ret
    exact ⟨(by first | rfl | (rw [e]; rfl)), rfl⟩
  · have e : pickF k n = Int.tmod k n := if_neg hneg
    go_enter Tryd.func32, Tryd.ntmps32
    go_wp2_with fail
    go_ret
    exact ⟨(by first | rfl | (rw [e]; rfl)), rfl⟩
/-- copsekit.Head with 12. -/
def headF (s : ByteArray) : ByteArray := if s.size ≤ 12 then s else s.extract 0 12
theorem headF_size (s : ByteArray) : (headF s).size ≤ 12 := by
  unfold headF
  split
  · assumption
  · simp; omega
theorem head_walk (s : ByteArray) (W : World) : Calls Tryd.prog 33 #[.string s, .int .i64 12] W fun e w' => e = .returned (.string (headF s)) ∧ w' = W := by
  by_cases h : s.size ≤ 12
  · have e : headF s = s := if_pos h
    have h' : (s.size : Int) ≤ 12 := by omega
    go_enter Tryd.func33, Tryd.ntmps33
    go_wp2_with fail
    go_ret
    exact ⟨(by first | rfl | (rw [e]; rfl)), rfl⟩
  · have e : headF s = s.extract 0 12 := if_neg h
    have h' : ¬ (s.size : Int) ≤ 12 := by omega
    have h2 : (12 : Int) ≤ (s.size : Int) := by omega
    go_enter Tryd.func33, Tryd.ntmps33
    go_wp2_with fail
    go_ret
    exact ⟨(by first | rfl | (rw [e]; rfl)), rfl⟩
/-- An item as it may come in: numbers are int64s, inner ones too. -/
inductive Fit46 : S46 → Prop
  | mk (x : S46) (h1 : -9223372036854775808 ≤ x.f1 ∧ x.f1 ≤ 9223372036854775807) (h2 : x.f2.size ≤ 140737488351232) (h3 : x.f3.length * 56 ≤ 140737488351232) (h4 : ∀ y, y ∈ x.f3 → Fit46 y) : Fit46 x
def pk (x : S46) : Int := pickF (wrap64 (x.f0 - 1)) 5
def tidyI : Nat → S46 → S46
  | 0, x => if pk x = 1 then ⟨2, pickF x.f1 2, ⟨#[]⟩, []⟩ else if pk x = 2 then ⟨3, x.f1, ⟨#[]⟩, []⟩ else if pk x = 3 then ⟨4, 0, headF x.f2, []⟩ else ⟨1, 0, ⟨#[]⟩, []⟩
  | d + 1, x => if pk x = 1 then ⟨2, pickF x.f1 2, ⟨#[]⟩, []⟩ else if pk x = 2 then ⟨3, x.f1, ⟨#[]⟩, []⟩ else if pk x = 3 then ⟨4, 0, headF x.f2, []⟩ else if pk x = 4 then ⟨5, 0, ⟨#[]⟩, (x.f3.take 4).map (tidyI d)⟩ else ⟨1, 0, ⟨#[]⟩, []⟩
def tidyL (d : Nat) (l : List S46) : List S46 := (l.take 4).map (tidyI d)
theorem tidy0 (d : Nat) (x : S46) (h : pk x = 0) : tidyI d x = ⟨1, 0, ⟨#[]⟩, []⟩ := by cases d <;> (unfold tidyI; rw [h]; rfl)
theorem tidy1 (d : Nat) (x : S46) (h : pk x = 1) : tidyI d x = ⟨2, pickF x.f1 2, ⟨#[]⟩, []⟩ := by cases d <;> (unfold tidyI; rw [if_pos h])
theorem tidy2 (d : Nat) (x : S46) (h : pk x = 2) : tidyI d x = ⟨3, x.f1, ⟨#[]⟩, []⟩ := by cases d <;> (unfold tidyI; rw [if_neg (by omega), if_pos h])
theorem tidy3 (d : Nat) (x : S46) (h : pk x = 3) : tidyI d x = ⟨4, 0, headF x.f2, []⟩ := by cases d <;> (unfold tidyI; rw [if_neg (by omega), if_neg (by omega), if_pos h])
theorem tidy4z (x : S46) (h : pk x = 4) : tidyI 0 x = ⟨1, 0, ⟨#[]⟩, []⟩ := by unfold tidyI; rw [if_neg (by omega), if_neg (by omega), if_neg (by omega)]
theorem tidy4 (d : Nat) (x : S46) (h : pk x = 4) : tidyI (d + 1) x = ⟨5, 0, ⟨#[]⟩, tidyL d x.f3⟩ := by unfold tidyI; rw [if_neg (by omega), if_neg (by omega), if_neg (by omega), if_pos h]; rfl
theorem pk_range (x : S46) : pk x = 0 ∨ pk x = 1 ∨ pk x = 2 ∨ pk x = 3 ∨ pk x = 4 := by
  have := pickF_range (wrap64 (x.f0 - 1)) 5 (by omega)
  unfold pk
  omega
theorem tidyL_len (d : Nat) (l : List S46) : (tidyL d l).length ≤ 4 := by unfold tidyL; rw [List.length_map, List.length_take]; omega
/-- How long the text of what tidy makes is at most. -/
def mostT : Nat → Nat
  | 0 => 27
  | d + 1 => 4 * mostT d + 2
theorem mostT_ge : ∀ d, 27 ≤ mostT d
  | 0 => Nat.le_refl _
  | d + 1 => by have := mostT_ge d; unfold mostT; omega
theorem tidy_ok : ∀ (d : Nat) (x : S46), Fit46 x → Ok46 d (tidyI d x) ∧ (encI d (tidyI d x)).length ≤ mostT d := by
  intro d
  induction d with
  | zero =>
    rintro x ⟨_, h1, h2, h3, h4⟩
    rcases pk_range x with h | h | h | h | h
    · rw [tidy0 0 x h]; exact ⟨.null 0, by decide⟩
    · rw [tidy1 0 x h]; have := pickF_range x.f1 2 (by omega); exact ⟨.flag 0 _ (by omega), by rw [len_flag]; decide⟩
    · rw [tidy2 0 x h]; exact ⟨.num 0 _ h1, by rw [len_num]; decide⟩
    · rw [tidy3 0 x h]
      have hs := headF_size x.f2
      have hc : (headF x.f2).data.toList.count 0 ≤ (headF x.f2).data.toList.length := List.count_le_length
      rw [slen] at hc
      exact ⟨.text 0 _ (by omega), by rw [len_text]; show _ ≤ 27; omega⟩
    · rw [tidy4z x h]; exact ⟨.null 0, by decide⟩
  | succ d ih =>
    rintro x ⟨_, h1, h2, h3, h4⟩
    have hge := mostT_ge d
    rcases pk_range x with h | h | h | h | h
    · rw [tidy0 _ x h]; exact ⟨.null _, by rw [len_null]; unfold mostT; omega⟩
    · rw [tidy1 _ x h]; have := pickF_range x.f1 2 (by omega); exact ⟨.flag _ _ (by omega), by rw [len_flag]; unfold mostT; omega⟩
    · rw [tidy2 _ x h]; exact ⟨.num _ _ h1, by rw [len_num]; unfold mostT; omega⟩
    · rw [tidy3 _ x h]
      have hs := headF_size x.f2
      have hc : (headF x.f2).data.toList.count 0 ≤ (headF x.f2).data.toList.length := List.count_le_length
      rw [slen] at hc
      exact ⟨.text _ _ (by omega), by rw [len_text]; unfold mostT; omega⟩
    · rw [tidy4 d x h]
      have hin : ∀ y, y ∈ tidyL d x.f3 → Ok46 d y ∧ (encI d y).length ≤ mostT d := fun y hy => by
        obtain ⟨z, hz, rfl⟩ := List.mem_map.1 hy
        exact ih z (h4 z (List.mem_of_mem_take hz))
      have hl := tidyL_len d x.f3
      refine ⟨.list d _ (by omega) (fun y hy => (hin y hy).1), ?_⟩
      rw [len_list]
      have := enc_len_in (d := d) (N := mostT d) (f := encI d) (l := tidyL d x.f3) (fun y hy => (hin y hy).2)
      have h5 : mostT d * (tidyL d x.f3).length ≤ mostT d * 4 := Nat.mul_le_mul_left _ hl
      unfold encL mostT
      omega
theorem tidy_okL (l : List S46) (h : ∀ y, y ∈ l → Fit46 y) : OkL (tidyL 4 l) ∧ (encL 4 (tidyL 4 l)).length ≤ 32640 := by
  have hl := tidyL_len 4 l
  have hin : ∀ y, y ∈ tidyL 4 l → Ok46 4 y ∧ (encI 4 y).length ≤ mostT 4 := fun y hy => by
    obtain ⟨z, hz, rfl⟩ := List.mem_map.1 hy
    exact tidy_ok 4 z (h z (List.mem_of_mem_take hz))
  have h1 := enc_len_in (d := 4) (N := mostT 4) (f := encI 4) (l := tidyL 4 l) (fun y hy => (hin y hy).2)
  have h2 : mostT 4 * (tidyL 4 l).length ≤ mostT 4 * 4 := Nat.mul_le_mul_left _ hl
  have h3 : mostT 4 * 4 ≤ 32640 := by decide
  have h4 : (encL 4 (tidyL 4 l)).length ≤ 32640 := Nat.le_trans h1 (Nat.le_trans h2 h3)
  exact ⟨⟨fun y hy => (hin y hy).1, by omega, by omega⟩, h4⟩
/-- What tidy is asked of: the lists within. -/
def TidyAt (d lists : Nat) (l : List S46) : Prop := ∀ (W : World) (A : Option Addr) (c : Nat), k46.C W A l.length l → Calls Tryd.prog 13 #[.slice A l.length c, .int .i64 ((lists : Int) + 1)] W fun e w' => ∃ v, e = .returned v ∧ k46.R 46 w' W.heap.size (fun _ => True) v (tidyL d l) ∧ Below W.heap.size W w'
theorem take_tidy (d : Nat) (l : List S46) (i : Nat) (h : i < l.length) : (l.take (i + 1)).map (tidyI d) = (l.take i).map (tidyI d) ++ [tidyI d (rd_T46 l (i : Int))] := by
  rw [rd_at l i h, List.take_succ_eq_append_getElem h, List.map_append]
  rfl
theorem tidy_at (d : Nat) (l : List S46) (i : Nat) (hi : i ≤ l.length) (hi4 : i ≤ 4) (h : ¬ (i < l.length ∧ i < 4)) : (l.take i).map (tidyI d) = tidyL d l := by
  unfold tidyL
  rcases Nat.lt_or_ge i 4 with h1 | h1
  · obtain rfl : i = l.length := by omega
    rw [List.take_length, List.take_of_length_le (by omega)]
  · obtain rfl : i = 4 := by omega
    rfl
set_option maxHeartbeats 8000000 in
set_option maxRecDepth 100000 in
theorem tidy_list (d lists : Nat) (hd : lists + d = 4) (l : List S46) (hin : ∀ d', d = d' + 1 → ∀ y, y ∈ l → TidyAt d' lists y.f3) (W : World) (A : Option Addr) (c : Nat) (hA : k46.C W A l.length l) :
    Calls Tryd.prog 13 #[.slice A l.length c, .int .i64 lists] W fun e w' => ∃ v, e = .returned v ∧ k46.R 46 w' W.heap.size (fun _ => True) v (tidyL d l) ∧ Below W.heap.size W w' := by
  have HA := Aside0.mk hA
  have HI := Lib.hid hin
  have hm := Kd.C_max hA
  clear hA hin
  go_enter Tryd.func13, Tryd.ntmps13
  go_wp2_with fail
  go_loopw [5, 6] (fun v5 v6 W' => ∃ i : Nat, v6 = .int .i64 i ∧ i ≤ l.length ∧ i ≤ 4 ∧ Aside0 (k46.R 46 W' W.heap.size (fun _ => True) v5 ((l.take i).map (tidyI d))) ∧ Aside0 (Below W.heap.size W W')) (fun _ v6 _ => l.length - (intOf v6).toNat)
  case atStart => exact ⟨0, rfl, by omega, by omega, ⟨Kd.R_nil _ _ _ _ _⟩, ⟨Below.refl _ _⟩⟩
  case round =>
    obtain ⟨i, rfl, hi, hi4, HR, HB⟩ := hrel
    have hlen := Lib.hid (show ((l.take i).map (tidyI d)).length = i by rw [List.length_map, List.length_take]; omega)
    have hbs := HB.out.size
    by_cases hgo : i < l.length ∧ i < 4
    · obtain ⟨hlt, h4⟩ := hgo
      have hlt' : (i : Int) < (l.length : Int) := by omega
      have h4' : (i : Int) < 4 := by omega
      obtain ⟨a, B, e, rfl, a0, a1, a2, a3, ae, aC⟩ := elem46 (Kd.C_below HA.out HB.out) i hlt
      have htk := Lib.hid (take_tidy d l i hlt)
      have hf := Lib.hid (fun d' hd' => HI.out d' hd' _ (rd_mem hlt))
      generalize rd_T46 l (i : Int) = x at a0 a1 a2 a3 ae aC htk hf
      generalize hl : (l.take i).map (tidyI d) = xs at HR htk hlen
      obtain ⟨A1, c1, rfl⟩ := Kd.R_slice HR.out
      clear hl
      have AC := Aside0.mk aC
      have g1 : ∀ o, Below wr.heap.size wr (wr.alloc o) := fun o => below_alloc (Below.refl _ _) _
      have p0 := fun o => pw_cell_below (g1 o) a0
      have p1 := fun o => pw_cell_below (g1 o) a1
      have p2 := fun o => pw_cell_below (g1 o) a2
      have p3 := fun o => pw_cell_below (g1 o) a3
      have hpr := pk_range x
      obtain ⟨p, hp⟩ : ∃ p, pickF (wrap64 (x.f0 - 1)) 5 = p := ⟨_, rfl⟩
      have hpk : pk x = p := hp
      rw [hpk] at hpr
      have HPK := Lib.hid hpk
      have HP := Lib.hid hp
      clear aC g1 hpk hp
      go_wp2_with fail
      go_at_call 32
      refine (pick_walk _ 5 (by omega) (by omega) _).mono ?_
      rintro _ wr ⟨rfl, rfl⟩
      rw [HP.out]
      rcases hpr with rfl | rfl | rfl | rfl | rfl
      · have HR2 := Aside0.mk (Kd.R_alloc HR.out (.cells #[.int .i64 1, .int .i64 0, .string ⟨#[]⟩, .slice none 0 0] 46))
        have HB2 := Aside0.mk (HB.out.alloc hbs (.cells #[.int .i64 1, .int .i64 0, .string ⟨#[]⟩, .slice none 0 0] 46))
        have hbs2 : W.heap.size ≤ (wr.alloc (.cells #[.int .i64 1, .int .i64 0, .string ⟨#[]⟩, .slice none 0 0] 46)).heap.size := by simp; omega
        go_wp2_with ((with_reducible refine gate_builtin (b := .append) (xs := #[.tmp 69, .tmp 71]) rfl ?_); at_builtin; refine Kd.R_append k46 (w0 := W) W.heap.size rfl (.tmp 69) (.tmp 71) 22 46 (.agg #[.int .i64 0, .int .i64 0, .string ⟨#[]⟩, .slice none 0 0]) 56 rfl Tryd.underlying22 info46 rfl (by decide) (by omega) (.slice A1 xs.length c1) xs (⟨1, 0, ⟨#[]⟩, []⟩) [.int .i64 1, .int .i64 0, .string ⟨#[]⟩, .slice none 0 0] (fun _ => True) (fun _ => False) rfl (by simp [Act.eval]) (k46_mkM _ _ _ (⟨1, 0, ⟨#[]⟩, []⟩) (v3 := .slice none 0 0) (Kd.R_nil _ _ _ _ _)) (fun _ hk => hk.elim) (fun _ _ => trivial) HR2.out HB2.out hbs2 (by have := hlen.out; omega) ?_; intro v5 w5 ho5 hb5 hg5 hat5; have HO5 := Aside0.mk ho5; have HB5 := Aside0.mk hb5; clear ho5 hb5 hg5 hat5)
        go_roundw
        case rel => exact ⟨i + 1, by go_num, by omega, by omega, ⟨by rw [htk.out, tidy0 d x HPK.out]; exact HO5.out⟩, HB5⟩
        case measure => simp [intOf]; omega
      · have hr1 := pickF_range x.f1 2 (by omega)
        go_wp2_with fail
        go_at_call 32
        refine (pick_walk _ 2 (by omega) (by omega) _).mono ?_
        rintro _ wr ⟨rfl, rfl⟩
        have HR2 := Aside0.mk (Kd.R_alloc HR.out (.cells #[.int .i64 2, .int .i64 (pickF x.f1 2), .string ⟨#[]⟩, .slice none 0 0] 46))
        have HB2 := Aside0.mk (HB.out.alloc hbs (.cells #[.int .i64 2, .int .i64 (pickF x.f1 2), .string ⟨#[]⟩, .slice none 0 0] 46))
        have hbs2 : W.heap.size ≤ (wr.alloc (.cells #[.int .i64 2, .int .i64 (pickF x.f1 2), .string ⟨#[]⟩, .slice none 0 0] 46)).heap.size := by simp; omega
        go_wp2_with ((with_reducible refine gate_builtin (b := .append) (xs := #[.tmp 69, .tmp 71]) rfl ?_); at_builtin; refine Kd.R_append k46 (w0 := W) W.heap.size rfl (.tmp 69) (.tmp 71) 22 46 (.agg #[.int .i64 0, .int .i64 0, .string ⟨#[]⟩, .slice none 0 0]) 56 rfl Tryd.underlying22 info46 rfl (by decide) (by omega) (.slice A1 xs.length c1) xs (⟨2, pickF x.f1 2, ⟨#[]⟩, []⟩) [.int .i64 2, .int .i64 (pickF x.f1 2), .string ⟨#[]⟩, .slice none 0 0] (fun _ => True) (fun _ => False) rfl (by simp [Act.eval]) (k46_mkM _ _ _ (⟨2, pickF x.f1 2, ⟨#[]⟩, []⟩) (v3 := .slice none 0 0) (Kd.R_nil _ _ _ _ _)) (fun _ hk => hk.elim) (fun _ _ => trivial) HR2.out HB2.out hbs2 (by have := hlen.out; omega) ?_; intro v5 w5 ho5 hb5 hg5 hat5; have HO5 := Aside0.mk ho5; have HB5 := Aside0.mk hb5; clear ho5 hb5 hg5 hat5)
        go_roundw
        case rel => exact ⟨i + 1, by go_num, by omega, by omega, ⟨by rw [htk.out, tidy1 d x HPK.out]; exact HO5.out⟩, HB5⟩
        case measure => simp [intOf]; omega
      · have HR2 := Aside0.mk (Kd.R_alloc HR.out (.cells #[.int .i64 3, .int .i64 x.f1, .string ⟨#[]⟩, .slice none 0 0] 46))
        have HB2 := Aside0.mk (HB.out.alloc hbs (.cells #[.int .i64 3, .int .i64 x.f1, .string ⟨#[]⟩, .slice none 0 0] 46))
        have hbs2 : W.heap.size ≤ (wr.alloc (.cells #[.int .i64 3, .int .i64 x.f1, .string ⟨#[]⟩, .slice none 0 0] 46)).heap.size := by simp; omega
        go_wp2_with ((with_reducible refine gate_builtin (b := .append) (xs := #[.tmp 69, .tmp 71]) rfl ?_); at_builtin; refine Kd.R_append k46 (w0 := W) W.heap.size rfl (.tmp 69) (.tmp 71) 22 46 (.agg #[.int .i64 0, .int .i64 0, .string ⟨#[]⟩, .slice none 0 0]) 56 rfl Tryd.underlying22 info46 rfl (by decide) (by omega) (.slice A1 xs.length c1) xs (⟨3, x.f1, ⟨#[]⟩, []⟩) [.int .i64 3, .int .i64 x.f1, .string ⟨#[]⟩, .slice none 0 0] (fun _ => True) (fun _ => False) rfl (by simp [Act.eval]) (k46_mkM _ _ _ (⟨3, x.f1, ⟨#[]⟩, []⟩) (v3 := .slice none 0 0) (Kd.R_nil _ _ _ _ _)) (fun _ hk => hk.elim) (fun _ _ => trivial) HR2.out HB2.out hbs2 (by have := hlen.out; omega) ?_; intro v5 w5 ho5 hb5 hg5 hat5; have HO5 := Aside0.mk ho5; have HB5 := Aside0.mk hb5; clear ho5 hb5 hg5 hat5)
        go_roundw
        case rel => exact ⟨i + 1, by go_num, by omega, by omega, ⟨by rw [htk.out, tidy2 d x HPK.out]; exact HO5.out⟩, HB5⟩
        case measure => simp [intOf]; omega
      · go_wp2_with fail
        go_at_call 33
        refine (head_walk _ _).mono ?_
        rintro _ wr ⟨rfl, rfl⟩
        have HR2 := Aside0.mk (Kd.R_alloc HR.out (.cells #[.int .i64 4, .int .i64 0, .string (headF x.f2), .slice none 0 0] 46))
        have HB2 := Aside0.mk (HB.out.alloc hbs (.cells #[.int .i64 4, .int .i64 0, .string (headF x.f2), .slice none 0 0] 46))
        have hbs2 : W.heap.size ≤ (wr.alloc (.cells #[.int .i64 4, .int .i64 0, .string (headF x.f2), .slice none 0 0] 46)).heap.size := by simp; omega
        go_wp2_with ((with_reducible refine gate_builtin (b := .append) (xs := #[.tmp 69, .tmp 71]) rfl ?_); at_builtin; refine Kd.R_append k46 (w0 := W) W.heap.size rfl (.tmp 69) (.tmp 71) 22 46 (.agg #[.int .i64 0, .int .i64 0, .string ⟨#[]⟩, .slice none 0 0]) 56 rfl Tryd.underlying22 info46 rfl (by decide) (by omega) (.slice A1 xs.length c1) xs (⟨4, 0, headF x.f2, []⟩) [.int .i64 4, .int .i64 0, .string (headF x.f2), .slice none 0 0] (fun _ => True) (fun _ => False) rfl (by simp [Act.eval]) (k46_mkM _ _ _ (⟨4, 0, headF x.f2, []⟩) (v3 := .slice none 0 0) (Kd.R_nil _ _ _ _ _)) (fun _ hk => hk.elim) (fun _ _ => trivial) HR2.out HB2.out hbs2 (by have := hlen.out; omega) ?_; intro v5 w5 ho5 hb5 hg5 hat5; have HO5 := Aside0.mk ho5; have HB5 := Aside0.mk hb5; clear ho5 hb5 hg5 hat5)
        go_roundw
        case rel => exact ⟨i + 1, by go_num, by omega, by omega, ⟨by rw [htk.out, tidy3 d x HPK.out]; exact HO5.out⟩, HB5⟩
        case measure => simp [intOf]; omega
      · cases d with
        | zero =>
          have hl4 : (4 : Int) ≤ (lists : Int) := by omega
          have HR2 := Aside0.mk (Kd.R_alloc HR.out (.cells #[.int .i64 1, .int .i64 0, .string ⟨#[]⟩, .slice none 0 0] 46))
          have HB2 := Aside0.mk (HB.out.alloc hbs (.cells #[.int .i64 1, .int .i64 0, .string ⟨#[]⟩, .slice none 0 0] 46))
          have hbs2 : W.heap.size ≤ (wr.alloc (.cells #[.int .i64 1, .int .i64 0, .string ⟨#[]⟩, .slice none 0 0] 46)).heap.size := by simp; omega
          go_wp2_with ((with_reducible refine gate_builtin (b := .append) (xs := #[.tmp 69, .tmp 71]) rfl ?_); at_builtin; refine Kd.R_append k46 (w0 := W) W.heap.size rfl (.tmp 69) (.tmp 71) 22 46 (.agg #[.int .i64 0, .int .i64 0, .string ⟨#[]⟩, .slice none 0 0]) 56 rfl Tryd.underlying22 info46 rfl (by decide) (by omega) (.slice A1 xs.length c1) xs (⟨1, 0, ⟨#[]⟩, []⟩) [.int .i64 1, .int .i64 0, .string ⟨#[]⟩, .slice none 0 0] (fun _ => True) (fun _ => False) rfl (by simp [Act.eval]) (k46_mkM _ _ _ (⟨1, 0, ⟨#[]⟩, []⟩) (v3 := .slice none 0 0) (Kd.R_nil _ _ _ _ _)) (fun _ hk => hk.elim) (fun _ _ => trivial) HR2.out HB2.out hbs2 (by have := hlen.out; omega) ?_; intro v5 w5 ho5 hb5 hg5 hat5; have HO5 := Aside0.mk ho5; have HB5 := Aside0.mk hb5; clear ho5 hb5 hg5 hat5)
          go_roundw
          case rel => exact ⟨i + 1, by go_num, by omega, by omega, ⟨by rw [htk.out, tidy4z x HPK.out]; exact HO5.out⟩, HB5⟩
          case measure => simp [intOf]; omega
        | succ d =>
          have hl4 : ¬ (4 : Int) ≤ (lists : Int) := by omega
          go_wp2_with fail
          go_at_call 13
          refine (hf.out d rfl _ B e (by exact (Kd.C_alloc AC.out _))).mono ?_
          rintro _ w3 ⟨v3, rfl, hr3, hb3⟩
          obtain ⟨A3, c3, rfl⟩ := Kd.R_slice hr3
          have HX := Aside0.mk (show RAt w3 wr.heap.size (.int .i64 5) (.int .i64 0) (.string ⟨#[]⟩) (.slice none 0 0) from (hb3.block _ (by simp)).trans (MapKept.heap_alloc _ _).1)
          have hsz3 : wr.heap.size < w3.heap.size := blk_lt HX.out
          have HRo := Aside0.mk (Kd.R_below (Kd.R_alloc HR.out (.cells #[.int .i64 5, .int .i64 0, .string ⟨#[]⟩, .slice none 0 0] 46)) hb3)
          have HBo := Aside0.mk ((HB.out.alloc hbs (.cells #[.int .i64 5, .int .i64 0, .string ⟨#[]⟩, .slice none 0 0] 46)).trans (hb3.mono (by simp; omega)))
          have hOB := Lib.hid (fun k (h : (Value.slice A1 xs.length c1).ownBlock = some k) => own_lt (Kd.R_own HR.out).choose_spec k h)
          have HR3 := Aside0.mk (show k46.R 46 w3 W.heap.size (fun k => wr.heap.size < k) (.slice A3 (tidyL d x.f3).length c3) (tidyL d x.f3) from Kd.R_lower (Kd.R_mono (Kd.R_bound hr3) (fun k hk => by have := hk.2.1; simp at this; omega)) (by simp; omega))
          obtain ⟨⟨m0, m1, m2, m3⟩, mf⟩ := HX.out.cells
          have ylt := hsz3
          have HRb := Kd.R_below (Kd.R_alloc (Kd.R_mono (Kd.R_bound HR.out) (fun k hk => (hk.2.2.1 : k < wr.heap.size))) (.cells #[.int .i64 5, .int .i64 0, .string ⟨#[]⟩, .slice none 0 0] 46)) hb3
          have HR2 := Aside0.mk (Kd.R_mono (Kd.R_far (p := ⟨wr.heap.size, 3, none⟩) HRb (fun k hk => by show k ≠ wr.heap.size; omega) (.slice A3 (tidyL d x.f3).length c3)) (ok' := fun _ => True) (fun _ _ => trivial))
          have HB2 := Aside0.mk (HBo.out.setCell (p := ⟨wr.heap.size, 3, none⟩) hbs (.slice A3 (tidyL d x.f3).length c3))
          have hbs2 := HB2.out.size
          have HM3 := Aside0.mk (k46_mkM _ _ _ ⟨5, 0, ⟨#[]⟩, tidyL d x.f3⟩ (Kd.R_far (p := ⟨wr.heap.size, 3, none⟩) HR3.out (fun k hk => by show k ≠ wr.heap.size; omega) (.slice A3 (tidyL d x.f3).length c3)))
          clear hr3 hb3 HRb
          go_wp2_with ((with_reducible refine gate_builtin (b := .append) (xs := #[.tmp 69, .tmp 71]) rfl ?_); at_builtin; refine Kd.R_append k46 (w0 := W) W.heap.size rfl (.tmp 69) (.tmp 71) 22 46 (.agg #[.int .i64 0, .int .i64 0, .string ⟨#[]⟩, .slice none 0 0]) 56 rfl Tryd.underlying22 info46 rfl (by decide) (by omega) (.slice A1 xs.length c1) xs (⟨5, 0, ⟨#[]⟩, tidyL d x.f3⟩) [.int .i64 5, .int .i64 0, .string ⟨#[]⟩, .slice A3 (tidyL d x.f3).length c3] (fun _ => True) (fun k => wr.heap.size < k) rfl (by simp [Act.eval]) HM3.out (fun k hk => ⟨trivial, fun e => by have := hOB.out k e.symm; omega⟩) (fun _ _ => trivial) HR2.out HB2.out hbs2 (by have := hlen.out; omega) ?_; intro v5 w5 ho5 hb5 hg5 hat5; have HO5 := Aside0.mk ho5; have HB5 := Aside0.mk hb5; clear ho5 hb5 hg5 hat5)
          go_roundw
          case rel => exact ⟨i + 1, by go_num, by omega, by omega, ⟨by rw [htk.out, tidy4 d x HPK.out]; exact HO5.out⟩, HB5⟩
          case measure => simp [intOf]; omega
    · have hk := tidy_at d l i hi hi4 hgo
      rw [hk] at HR
      have hc : (¬ (i : Int) < (l.length : Int)) ∨ ((i : Int) < (l.length : Int) ∧ ¬ (i : Int) < 4) := by omega
      obtain ⟨xs, hxs⟩ : ∃ xs, tidyL d l = xs := ⟨_, rfl⟩
      rw [hxs] at HR
      have HXS := Lib.hid hxs
      clear hxs
      obtain ⟨A1, c1, rfl⟩ := Kd.R_slice HR.out
      clear hk hgo
      rcases hc with h | ⟨h, h'⟩
      all_goals
        go_wp2_with fail
        go_ret
        exact ⟨.slice A1 xs.length c1, rfl, by rw [HXS.out]; exact HR.out, HB.out⟩
theorem tidy_any : ∀ (d lists : Nat), lists + d = 4 → ∀ (l : List S46) (W : World) (A : Option Addr) (c : Nat), k46.C W A l.length l →
    Calls Tryd.prog 13 #[.slice A l.length c, .int .i64 lists] W fun e w' => ∃ v, e = .returned v ∧ k46.R 46 w' W.heap.size (fun _ => True) v (tidyL d l) ∧ Below W.heap.size W w'
  | 0, lists, hd, l, W, A, c, hA => tidy_list 0 lists hd l (fun d' h => by omega) W A c hA
  | d + 1, lists, hd, l, W, A, c, hA => tidy_list (d + 1) lists hd l (fun d' h y hy W' A' c' hA' => by
      obtain rfl : d = d' := by omega
      have := tidy_any d (lists + 1) (by omega) y.f3 W' A' c' hA'
      rw [Int.natCast_add] at this
      exact this) W A c hA
end Go.Proofs.YthlolfncdjaniaaDoor.Tu
