/- The walks of wire's taker: an answer, but for lists. -/
import Derived.Test.YtbdfjiobegadjaaDoorTaker6
namespace Go.Proofs.YtbdfjiobegadjaaDoor.Tk
open Go Go.RowKit Go.Proofs.YtbdfjiobegadjaaDoor.PWireMemory Go.Proofs.YtbdfjiobegadjaaDoorW.PrintWords Go.Proofs.YtbdfjiobegadjaaDoorW.PrintLast Go.Proofs.YtbdfjiobegadjaaDoorW.PrintMore
set_option linter.unusedVariables false
set_option linter.unusedSectionVars false
set_option linter.unusedSimpArgs false
/-- So many answers, one behind the other. -/
def itemsS (f : Nat → Res S24) : Nat → Nat → Res (List S24)
  | 0, j => .ok [] j
  | n + 1, j => match f j with
    | .no k => .no k
    | .ok x j' => (itemsS f n j').map fun l => x :: l
def listS (s : ByteArray) (f : Nat → Res S24) (i : Nat) : Res S24 :=
  if s.size ≤ i then .no 3
  else match digs s 2000 (s.size - i) 0 true i with
    | .no k => .no k
    | .ok n j => (itemsS f n j).map fun l => ⟨6, 0, ⟨#[]⟩, l⟩
/-- An answer; what a star leads to is told by f. -/
def headS (s : ByteArray) (f : Nat → Res S24) (i : Nat) : Res S24 :=
  if s.size ≤ i then .no 3
  else if bt s i = 43 then (lin s (s.size - (i + 1)) 0 (i + 1)).map fun a => ⟨1, 0, s.extract (i + 1) a, []⟩
  else if bt s i = 45 then (lin s (s.size - (i + 1)) 0 (i + 1)).map fun a => ⟨2, 0, s.extract (i + 1) a, []⟩
  else if bt s i = 58 then (numS s (i + 1)).map fun n => ⟨3, n, ⟨#[]⟩, []⟩
  else if bt s i = 36 then bulkS s (i + 1)
  else if bt s i = 42 then f (i + 1)
  else .no 1
/-- An answer around which so many lists may still lie. -/
def ansS (s : ByteArray) : Nat → Nat → Res S24
  | 0, i => headS s (fun _ => .no 1) i
  | d + 1, i => headS s (listS s (ansS s d)) i
def AnsPost (N b : Nat) (s : ByteArray) (ad : Nat → Addr) (lists : Nat) (f : Nat → Res S24) : Prop :=
  ∀ (W : World) (i : Nat) (R : Res S24), EN N W ad → N ≤ b → i ≤ s.size → Ahead b s ad i (headS s f i) R W → Calls Tryd.prog 33 #[.pointer (some ⟨b, 0, none⟩), .int .i64 lists] W (AnsOk b s ad R W)
theorem put4_keep (w : World) (g : Nat) (c0 c1 c2 c3 : Value) : KeepBut w (put4 w g c0 c1 c2 c3) g none := ⟨by simp [put4, World.setCell], fun k _ hk _ => put4_heap w g k c0 c1 c2 c3 hk⟩
theorem M_put4 {w : World} {base g : Nat} {x : S24} {cs : List Value} (c0 c1 c2 c3 : Value) (h : k24.M w base (fun _ => True) x cs) (hg : g < base) : k24.M (put4 w g c0 c1 c2 c3) base (fun _ => True) x cs :=
  k24.M_mono (fun _ _ => trivial) (Kd.M_keep (k24.M_mono (fun k hk => (hk.2.1 : base ≤ k)) (k24.M_bound h)) (put4_keep w g c0 c1 c2 c3) (fun k hk => by omega))
theorem M_form {w : World} {base : Nat} {ok : Nat → Prop} {x : S24} {cs : List Value} (h : k24.M w base ok x cs) : ∃ A c, cs = [.int .i64 x.f0, .int .i64 x.f1, .string x.f2, .slice A x.f3.length c] := by
  obtain ⟨v3, rfl, hR⟩ := k24_openM h
  obtain ⟨A, c, rfl⟩ := Kd.R_slice hR
  exact ⟨A, c, rfl⟩
section
variable (W : World) (N b : Nat) (s : ByteArray) (ad : Nat → Addr) (i : Nat) (R : Res S24) (hs : s.size ≤ 140738562097152) (hN : N ≤ b) (hE : EN N W ad) (l0 : Int)
include hs hN hE
set_option maxHeartbeats 4000000 in
theorem ans_bad (k : Nat) (h : Bad W b ad k) (e : R = .no k) : Calls Tryd.prog 33 #[.pointer (some ⟨b, 0, none⟩), .int .i64 l0] W (AnsOk b s ad R W) := by
  obtain ⟨r, h⟩ := h
  have hbl := blk_lt h
  have HE := Aside0.mk hE
  have H := Aside0.mk h
  have HR := Aside0.mk e
  clear h e hE
  have HO0 := Aside0.mk ((Only.refl b W).alloc zero4)
  go_enter Tryd.func33, Tryd.ntmps33
  go_wp2_with (first | (go_at_call 50; refine (byte_bad _ b r ad k (by exact (good_alloc_at H.out _))).mono ?_; rintro e w1 ⟨rfl, ha1, ho1⟩; have HA1 := Aside0.mk ha1; have HO1 := Aside0.mk (HO0.out.trans ho1); have HR1 := Aside0.mk ((ralloc W).only ho1 (by omega)); clear ha1 ho1) | (go_at_call 55; refine (wrong_bad _ b r ad k HA1.out).mono ?_; rintro e w2 ⟨rfl, ha2, ho2⟩; obtain ⟨⟨m0, m1, m2, m3⟩, n0, n1, n2, n3⟩ := (HR1.out.only ho2 (by omega)).cells; have HA2 := Aside0.mk ha2; have HO2 := Aside0.mk ho2; clear ha2 ho2))
  refine bodyPost_ret (v := .agg #[.int .i64 0, .int .i64 0, .string ⟨#[]⟩, .slice none 0 0]) (by simp [results, Tryd.results33, go_sem, m0, m1, m2, m3, n0, n1, n2, n3]) rfl ⟨⟨_, _, _, _, _, rfl, plain_M _ _ 0 0 ⟨#[]⟩, fun a j he => ?_⟩, ?_, ?_⟩
  · rw [HR.out] at he; cases he
  · rw [HR.out]; exact put4_leaves _ _ _ _ (noS k HA2.out) (by omega)
  · exact put4_only _ _ _ _ (HO1.out.trans HO2.out)
set_option maxHeartbeats 4000000 in
theorem ans_end (hi : s.size ≤ i) (h : Good W b s i) (e : R = .no 3) : Calls Tryd.prog 33 #[.pointer (some ⟨b, 0, none⟩), .int .i64 l0] W (AnsOk b s ad R W) := by
  have hbl := blk_lt h
  have HE := Aside0.mk hE
  have H := Aside0.mk h
  have HR := Aside0.mk e
  have HI := Aside0.mk (show ¬ i < s.size by omega)
  clear h e hE hi
  have HO0 := Aside0.mk ((Only.refl b W).alloc zero4)
  go_enter Tryd.func33, Tryd.ntmps33
  go_wp2_with (first | (go_at_call 50; refine (byte_end _ b s i HI.out (by exact (good_alloc_at H.out _)) ad (by exact ((HE.out.only HO0.out hN (Nat.le_of_lt hbl)).errs.cell 3 (by omega)))).mono ?_; rintro e w1 ⟨rfl, ha1, ho1⟩; have HA1 := Aside0.mk ha1; have HO1 := Aside0.mk (HO0.out.trans ho1); have HR1 := Aside0.mk ((ralloc W).only ho1 (by omega)); clear ha1 ho1) | (go_at_call 55; refine (wrong_bad _ b _ ad 3 HA1.out).mono ?_; rintro e w2 ⟨rfl, ha2, ho2⟩; obtain ⟨⟨m0, m1, m2, m3⟩, n0, n1, n2, n3⟩ := (HR1.out.only ho2 (by omega)).cells; have HA2 := Aside0.mk ha2; have HO2 := Aside0.mk ho2; clear ha2 ho2))
  refine bodyPost_ret (v := .agg #[.int .i64 0, .int .i64 0, .string ⟨#[]⟩, .slice none 0 0]) (by simp [results, Tryd.results33, go_sem, m0, m1, m2, m3, n0, n1, n2, n3]) rfl ⟨⟨_, _, _, _, _, rfl, plain_M _ _ 0 0 ⟨#[]⟩, fun a j he => ?_⟩, ?_, ?_⟩
  · rw [HR.out] at he; cases he
  · rw [HR.out]; exact put4_leaves _ _ _ _ (noS 3 HA2.out) (by omega)
  · exact put4_only _ _ _ _ (HO1.out.trans HO2.out)
set_option maxHeartbeats 4000000 in
theorem ans_line1 (hi : i < s.size) (h : Good W b s i) (hc : ((s[i]).toNat : Int) = 43) (e : (lin s (s.size - (i + 1)) 0 (i + 1)).map (fun a => (⟨1, 0, s.extract (i + 1) a, []⟩ : S24)) = R) : Calls Tryd.prog 33 #[.pointer (some ⟨b, 0, none⟩), .int .i64 l0] W (AnsOk b s ad R W) := by
  have hbl := blk_lt h
  have HE := Aside0.mk hE
  have H := Aside0.mk h
  have HR := Aside0.mk e.symm
  clear h e hE
  have HO0 := Aside0.mk ((Only.refl b W).alloc zero4)
  go_enter Tryd.func33, Tryd.ntmps33
  go_wp2_with (first | (go_at_call 50; refine (byte_some _ b s i hi (by exact (good_alloc_at H.out _))).mono ?_; rintro e w1 ⟨rfl, ha1, ho1⟩; obtain ⟨g0, g1, _, _⟩ := At.cells ha1; have HA1 := Aside0.mk ha1; have HO1 := Aside0.mk (HO0.out.trans ho1); have HR1 := Aside0.mk ((ralloc W).only ho1 (by omega)); clear ha1 ho1) | (go_at_call 51; refine (line_any _ N b s ad (i + 1) hi (lin s (s.size - (i + 1)) 0 (i + 1)) hs hN (HE.out.only HO1.out hN (Nat.le_of_lt hbl)) (.inl ⟨HA1.out, rfl⟩)).mono ?_; rintro e w2 ⟨⟨t, ht, rfl, htr⟩, ha2, ho2⟩; obtain ⟨⟨m0, m1, m2, m3⟩, n0, n1, n2, n3⟩ := (HR1.out.only ho2 (by omega)).cells; have HTR := Aside0.mk htr; have HA2 := Aside0.mk ha2; have HO2 := Aside0.mk ho2; clear ha2 ho2 htr))
  refine bodyPost_ret (v := .agg #[.int .i64 1, .int .i64 0, .string t, .slice none 0 0]) (by simp [results, Tryd.results33, go_sem, m0, m1, m2, m3, n0, n1, n2, n3]) rfl ⟨⟨_, _, _, _, _, rfl, plain_M _ _ 1 0 t, fun a j he => ?_⟩, ?_, ?_⟩
  · rw [HR.out] at he
    obtain ⟨x, hx, rfl⟩ := map_ok he
    rw [HTR.out x j hx]
  · rw [HR.out]; exact put4_leaves _ _ _ _ (leaves_map _ HA2.out) (by omega)
  · exact put4_only _ _ _ _ (HO1.out.trans HO2.out)
set_option maxHeartbeats 4000000 in
theorem ans_line2 (hi : i < s.size) (h : Good W b s i) (hc : ((s[i]).toNat : Int) = 45) (e : (lin s (s.size - (i + 1)) 0 (i + 1)).map (fun a => (⟨2, 0, s.extract (i + 1) a, []⟩ : S24)) = R) : Calls Tryd.prog 33 #[.pointer (some ⟨b, 0, none⟩), .int .i64 l0] W (AnsOk b s ad R W) := by
  have hbl := blk_lt h
  have HE := Aside0.mk hE
  have H := Aside0.mk h
  have HR := Aside0.mk e.symm
  clear h e hE
  have HO0 := Aside0.mk ((Only.refl b W).alloc zero4)
  go_enter Tryd.func33, Tryd.ntmps33
  go_wp2_with (first | (go_at_call 50; refine (byte_some _ b s i hi (by exact (good_alloc_at H.out _))).mono ?_; rintro e w1 ⟨rfl, ha1, ho1⟩; obtain ⟨g0, g1, _, _⟩ := At.cells ha1; have HA1 := Aside0.mk ha1; have HO1 := Aside0.mk (HO0.out.trans ho1); have HR1 := Aside0.mk ((ralloc W).only ho1 (by omega)); clear ha1 ho1) | (go_at_call 51; refine (line_any _ N b s ad (i + 1) hi (lin s (s.size - (i + 1)) 0 (i + 1)) hs hN (HE.out.only HO1.out hN (Nat.le_of_lt hbl)) (.inl ⟨HA1.out, rfl⟩)).mono ?_; rintro e w2 ⟨⟨t, ht, rfl, htr⟩, ha2, ho2⟩; obtain ⟨⟨m0, m1, m2, m3⟩, n0, n1, n2, n3⟩ := (HR1.out.only ho2 (by omega)).cells; have HTR := Aside0.mk htr; have HA2 := Aside0.mk ha2; have HO2 := Aside0.mk ho2; clear ha2 ho2 htr))
  refine bodyPost_ret (v := .agg #[.int .i64 2, .int .i64 0, .string t, .slice none 0 0]) (by simp [results, Tryd.results33, go_sem, m0, m1, m2, m3, n0, n1, n2, n3]) rfl ⟨⟨_, _, _, _, _, rfl, plain_M _ _ 2 0 t, fun a j he => ?_⟩, ?_, ?_⟩
  · rw [HR.out] at he
    obtain ⟨x, hx, rfl⟩ := map_ok he
    rw [HTR.out x j hx]
  · rw [HR.out]; exact put4_leaves _ _ _ _ (leaves_map _ HA2.out) (by omega)
  · exact put4_only _ _ _ _ (HO1.out.trans HO2.out)
set_option maxHeartbeats 4000000 in
theorem ans_num (hi : i < s.size) (h : Good W b s i) (hc : ((s[i]).toNat : Int) = 58) (e : (numS s (i + 1)).map (fun n => (⟨3, n, ⟨#[]⟩, []⟩ : S24)) = R) : Calls Tryd.prog 33 #[.pointer (some ⟨b, 0, none⟩), .int .i64 l0] W (AnsOk b s ad R W) := by
  have hbl := blk_lt h
  have HE := Aside0.mk hE
  have H := Aside0.mk h
  have HR := Aside0.mk e.symm
  clear h e hE
  have HO0 := Aside0.mk ((Only.refl b W).alloc zero4)
  go_enter Tryd.func33, Tryd.ntmps33
  go_wp2_with (first | (go_at_call 50; refine (byte_some _ b s i hi (by exact (good_alloc_at H.out _))).mono ?_; rintro e w1 ⟨rfl, ha1, ho1⟩; obtain ⟨g0, g1, _, _⟩ := At.cells ha1; have HA1 := Aside0.mk ha1; have HO1 := Aside0.mk (HO0.out.trans ho1); have HR1 := Aside0.mk ((ralloc W).only ho1 (by omega)); clear ha1 ho1) | (go_at_call 52; refine (num_any _ N b s ad (i + 1) (numS s (i + 1)) hs hN (HE.out.only HO1.out hN (Nat.le_of_lt hbl)) (.inl ⟨HA1.out, rfl⟩)).mono ?_; rintro e w2 ⟨⟨v, rfl, htr⟩, ha2, ho2⟩; obtain ⟨⟨m0, m1, m2, m3⟩, n0, n1, n2, n3⟩ := (HR1.out.only ho2 (by omega)).cells; have HTR := Aside0.mk htr; have HA2 := Aside0.mk ha2; have HO2 := Aside0.mk ho2; clear ha2 ho2 htr))
  refine bodyPost_ret (v := .agg #[.int .i64 3, .int .i64 v, .string ⟨#[]⟩, .slice none 0 0]) (by simp [results, Tryd.results33, go_sem, m0, m1, m2, m3, n0, n1, n2, n3]) rfl ⟨⟨_, _, _, _, _, rfl, plain_M _ _ 3 v ⟨#[]⟩, fun a j he => ?_⟩, ?_, ?_⟩
  · rw [HR.out] at he
    obtain ⟨x, hx, rfl⟩ := map_ok he
    rw [HTR.out x j hx]
  · rw [HR.out]; exact put4_leaves _ _ _ _ (leaves_map _ HA2.out) (by omega)
  · exact put4_only _ _ _ _ (HO1.out.trans HO2.out)
set_option maxHeartbeats 4000000 in
theorem ans_wrong (hi : i < s.size) (h : Good W b s i) (h43 : ¬ ((s[i]).toNat : Int) = 43) (h45 : ¬ ((s[i]).toNat : Int) = 45) (h58 : ¬ ((s[i]).toNat : Int) = 58) (h36 : ¬ ((s[i]).toNat : Int) = 36) (h42 : ¬ ((s[i]).toNat : Int) = 42 ∨ 4 ≤ l0) (e : R = .no 1) :
    Calls Tryd.prog 33 #[.pointer (some ⟨b, 0, none⟩), .int .i64 l0] W (AnsOk b s ad R W) := by
  have hbl := blk_lt h
  have HE := Aside0.mk hE
  have H := Aside0.mk h
  have HR := Aside0.mk e
  clear h e hE
  have HO0 := Aside0.mk ((Only.refl b W).alloc zero4)
  have b43 : (((s[i]).toNat : Int) == 43) = false := beq_eq_false_iff_ne.mpr h43
  have b45 : (((s[i]).toNat : Int) == 45) = false := beq_eq_false_iff_ne.mpr h45
  have b58 : (((s[i]).toNat : Int) == 58) = false := beq_eq_false_iff_ne.mpr h58
  have b36 : (((s[i]).toNat : Int) == 36) = false := beq_eq_false_iff_ne.mpr h36
  clear h43 h45 h58 h36
  by_cases h42' : ((s[i]).toNat : Int) = 42
  · have hl : 4 ≤ l0 := by omega
    clear h42
    have b42 : (((s[i]).toNat : Int) == 42) = true := beq_iff_eq.mpr h42'
    clear h42'
    go_enter Tryd.func33, Tryd.ntmps33
    go_wp2_with (first | (go_at_call 50; refine (byte_some _ b s i hi (by exact (good_alloc_at H.out _))).mono ?_; rintro e w1 ⟨rfl, ha1, ho1⟩; obtain ⟨g0, g1, _, _⟩ := At.cells ha1; have HA1 := Aside0.mk ha1; have HO1 := Aside0.mk (HO0.out.trans ho1); have HR1 := Aside0.mk ((ralloc W).only ho1 (by omega)); clear ha1 ho1) | (go_at_call 55; refine (wrong_good _ b _ HA1.out ad ((HE.out.only HO1.out hN (Nat.le_of_lt hbl)).errs.cell 1 (by omega))).mono ?_; rintro e w2 ⟨rfl, ha2, ho2⟩; obtain ⟨⟨m0, m1, m2, m3⟩, n0, n1, n2, n3⟩ := (HR1.out.only ho2 (by omega)).cells; have HA2 := Aside0.mk ha2; have HO2 := Aside0.mk ho2; clear ha2 ho2))
    refine bodyPost_ret (v := .agg #[.int .i64 0, .int .i64 0, .string ⟨#[]⟩, .slice none 0 0]) (by simp [results, Tryd.results33, go_sem, m0, m1, m2, m3, n0, n1, n2, n3]) rfl ⟨⟨_, _, _, _, _, rfl, plain_M _ _ 0 0 ⟨#[]⟩, fun a j he => ?_⟩, ?_, ?_⟩
    · rw [HR.out] at he; cases he
    · rw [HR.out]; exact put4_leaves _ _ _ _ (noS 1 HA2.out) (by omega)
    · exact put4_only _ _ _ _ (HO1.out.trans HO2.out)
  · have b42 : (((s[i]).toNat : Int) == 42) = false := beq_eq_false_iff_ne.mpr h42'
    clear h42' h42
    go_enter Tryd.func33, Tryd.ntmps33
    go_wp2_with (first | (go_at_call 50; refine (byte_some _ b s i hi (by exact (good_alloc_at H.out _))).mono ?_; rintro e w1 ⟨rfl, ha1, ho1⟩; obtain ⟨g0, g1, _, _⟩ := At.cells ha1; have HA1 := Aside0.mk ha1; have HO1 := Aside0.mk (HO0.out.trans ho1); have HR1 := Aside0.mk ((ralloc W).only ho1 (by omega)); clear ha1 ho1) | (go_at_call 55; refine (wrong_good _ b _ HA1.out ad ((HE.out.only HO1.out hN (Nat.le_of_lt hbl)).errs.cell 1 (by omega))).mono ?_; rintro e w2 ⟨rfl, ha2, ho2⟩; obtain ⟨⟨m0, m1, m2, m3⟩, n0, n1, n2, n3⟩ := (HR1.out.only ho2 (by omega)).cells; have HA2 := Aside0.mk ha2; have HO2 := Aside0.mk ho2; clear ha2 ho2))
    refine bodyPost_ret (v := .agg #[.int .i64 0, .int .i64 0, .string ⟨#[]⟩, .slice none 0 0]) (by simp [results, Tryd.results33, go_sem, m0, m1, m2, m3, n0, n1, n2, n3]) rfl ⟨⟨_, _, _, _, _, rfl, plain_M _ _ 0 0 ⟨#[]⟩, fun a j he => ?_⟩, ?_, ?_⟩
    · rw [HR.out] at he; cases he
    · rw [HR.out]; exact put4_leaves _ _ _ _ (noS 1 HA2.out) (by omega)
    · exact put4_only _ _ _ _ (HO1.out.trans HO2.out)
set_option maxHeartbeats 4000000 in
theorem ans_bulk (hi : i < s.size) (h : Good W b s i) (hc : ((s[i]).toNat : Int) = 36) (e : bulkS s (i + 1) = R) : Calls Tryd.prog 33 #[.pointer (some ⟨b, 0, none⟩), .int .i64 l0] W (AnsOk b s ad R W) := by
  have hbl := blk_lt h
  have HE := Aside0.mk hE
  have H := Aside0.mk h
  have HR := Aside0.mk e.symm
  clear h e hE
  have HO0 := Aside0.mk ((Only.refl b W).alloc zero4)
  go_enter Tryd.func33, Tryd.ntmps33
  go_wp2_with (first | (go_at_call 50; refine (byte_some _ b s i hi (by exact (good_alloc_at H.out _))).mono ?_; rintro e w1 ⟨rfl, ha1, ho1⟩; obtain ⟨g0, g1, _, _⟩ := At.cells ha1; have HA1 := Aside0.mk ha1; have HO1 := Aside0.mk (HO0.out.trans ho1); have HR1 := Aside0.mk ((ralloc W).only ho1 (by omega)); clear ha1 ho1) | (go_at_call 53; refine (bulk_good _ N b s ad (i + 1) (bulkS s (i + 1)) hs hN (HE.out.only HO1.out hN (Nat.le_of_lt hbl)) HA1.out rfl).mono ?_; rintro e w2 ⟨⟨x, c0, c1, c2, c3, rfl, hM, htr⟩, ha2, ho2⟩; obtain ⟨A3, cp3, hcs⟩ := M_form hM; simp only [List.cons.injEq, and_true] at hcs; obtain ⟨rfl, rfl, rfl, rfl⟩ := hcs; obtain ⟨⟨m0, m1, m2, m3⟩, n0, n1, n2, n3⟩ := (HR1.out.only ho2 (by omega)).cells; have HTR := Aside0.mk htr; have HM := Aside0.mk hM; have HA2 := Aside0.mk ha2; have HO2 := Aside0.mk ho2; clear ha2 ho2 htr hM))
  refine bodyPost_ret (v := .agg #[.int .i64 x.f0, .int .i64 x.f1, .string x.f2, .slice A3 x.f3.length cp3]) (by simp [results, Tryd.results33, go_sem, m0, m1, m2, m3, n0, n1, n2, n3]) rfl ⟨⟨x, _, _, _, _, rfl, ?_, fun a j he => ?_⟩, ?_, ?_⟩
  · have h1 := blk_lt HR1.out
    exact k24.M_lower (by omega) (M_put4 _ _ _ _ HM.out h1)
  · rw [HR.out] at he
    exact HTR.out a j he
  · rw [HR.out]; exact put4_leaves _ _ _ _ HA2.out (by omega)
  · exact put4_only _ _ _ _ (HO1.out.trans HO2.out)
end
end Go.Proofs.YtbdfjiobegadjaaDoor.Tk
