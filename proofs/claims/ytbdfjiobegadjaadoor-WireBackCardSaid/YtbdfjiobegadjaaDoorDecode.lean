/- The walk of wire.Decode. -/
import Derived.Test.YtbdfjiobegadjaaDoorTaker8
namespace Go.Proofs.YtbdfjiobegadjaaDoor.Tk
open Go Go.RowKit Go.Proofs.YtbdfjiobegadjaaDoor.PWireMemory Go.Proofs.YtbdfjiobegadjaaDoorW.PrintWords Go.Proofs.YtbdfjiobegadjaaDoorW.PrintLast Go.Proofs.YtbdfjiobegadjaaDoorW.PrintMore
set_option linter.unusedVariables false
set_option linter.unusedSectionVars false
set_option linter.unusedSimpArgs false
/-- What Decode comes to. -/
def decV (ad : Nat → Addr) : Res S24 → List Value → Value
  | .ok x j, cs => .tuple #[.agg cs.toArray, .int .i64 j, .nilIface]
  | .no k, cs => .tuple #[.agg cs.toArray, .int .i64 0, ev ad k]
def decX : Res S24 → S24
  | .ok x _ => x
  | .no _ => ⟨0, 0, ⟨#[]⟩, []⟩
structure DecOk (ad : Nat → Addr) (R : Res S24) (W : World) (e : Ending) (W' : World) : Prop where
  end_ : ∃ c0 c1 c2 c3 : Value, e = .returned (decV ad R [c0, c1, c2, c3]) ∧ k24.M W' W.heap.size (fun _ => True) (decX R) [c0, c1, c2, c3]
  below : Below W.heap.size W W'
theorem tail_zero (s : ByteArray) : tail s 0 = s := by unfold tail; exact ByteArray.extract_zero_size
theorem ans_zero (W : World) (N b : Nat) (s : ByteArray) (ad : Nat → Addr) (hs : s.size ≤ 140738562097152) (hN : N ≤ b) (hE : EN N W ad) (h : Good W b s 0) :
    Calls Tryd.prog 33 #[.pointer (some ⟨b, 0, none⟩), .int .i64 0] W (AnsOk b s ad (ansS s 4 0) W) := ans_any N b s ad hs hN 4 0 rfl W 0 _ hE (.inl ⟨h, rfl⟩)
abbrev twoNew (W : World) (s : ByteArray) : World := (W.alloc zero4).alloc (.cells #[.string s, .nilIface] 82)
theorem two_size (W : World) (s : ByteArray) : (twoNew W s).heap.size = W.heap.size + 2 := by simp [twoNew]
theorem two_at (W : World) (s : ByteArray) : Good (twoNew W s) (W.heap.size + 1) s 0 := by
  have e1 : (W.alloc zero4).heap.size = W.heap.size + 1 := by simp
  show (twoNew W s).heap[W.heap.size + 1]? = _
  rw [tail_zero, ← e1]
  exact (MapKept.heap_alloc _ _).1
theorem two_res (W : World) (s : ByteArray) : RAt (twoNew W s) W.heap.size (.int .i64 0) (.int .i64 0) (.string ⟨#[]⟩) (.slice none 0 0) := by
  show (twoNew W s).heap[W.heap.size]? = _
  rw [(MapKept.heap_alloc _ _).2 _ (by simp)]
  exact (MapKept.heap_alloc _ _).1
theorem two_below (W : World) (s : ByteArray) : Below W.heap.size W (twoNew W s) := below_alloc (below_alloc (Below.refl _ _) _) _
theorem rat_put4 {w : World} {g : Nat} {a0 a1 a2 a3 : Value} (h : RAt w g a0 a1 a2 a3) (c0 c1 c2 c3 : Value) : RAt (put4 w g c0 c1 c2 c3) g c0 c1 c2 c3 := by
  have h0 := blk_set h 0 c0
  have h1 := blk_set h0 1 c1
  have h2 := blk_set h1 2 c2
  exact blk_set h2 3 c3
theorem rat_final {w : World} {g : Nat} {a0 a1 a2 a3 : Value} (h : RAt w g a0 a1 a2 a3) (c0 c1 c2 c3 : Value) (o : Obj) : RAt ((put4 w g c0 c1 c2 c3).alloc o) g c0 c1 c2 c3 :=
  ((MapKept.heap_alloc _ o).2 g (blk_lt (rat_put4 h c0 c1 c2 c3))).trans (rat_put4 h c0 c1 c2 c3)
theorem below_final {w W : World} (h : Below W.heap.size W w) (c0 c1 c2 c3 : Value) (o : Obj) : Below W.heap.size W ((put4 w W.heap.size c0 c1 c2 c3).alloc o).drew :=
  below_drew (below_alloc (put4_below _ c0 c1 c2 c3 h (Nat.le_refl _)) o)
set_option maxHeartbeats 2000000 in
theorem decode_R (W : World) (N : Nat) (s : ByteArray) (ad : Nat → Addr) (hs : s.size ≤ 140738562097152) (hN : N ≤ W.heap.size) (hE : EN N W ad) (R : Res S24) (hR : ansS s 4 0 = R) :
    Calls Tryd.prog 10 #[.string s] W (DecOk ad R W) := by
  have HE := Aside0.mk (hE.below ((two_below W s).mono hN))
  clear hE
  have h2 := two_size W s
  have H2 := Aside0.mk h2
  clear h2
  go_enter Tryd.func10, Tryd.ntmps10
  go_wp2_with fail
  refine (ans_zero _ N (W.heap.size + 1) s ad hs (by omega) (by exact HE.out) (by exact (two_at W s))).mono ?_
  rintro e w2 ⟨⟨x, c0, c1, c2, c3, rfl, hM, hxr⟩, ha2, ho2⟩
  obtain ⟨A3, cp3, hcs⟩ := M_form hM
  simp only [List.cons.injEq, and_true] at hcs
  obtain ⟨rfl, rfl, rfl, rfl⟩ := hcs
  have ho2' : Only (W.heap.size + 1) (twoNew W s) w2 := ho2
  have hM' : k24.M w2 (twoNew W s).heap.size (fun _ => True) x _ := hM
  have HR2 := Aside0.mk ((two_res W s).only ho2' (by omega))
  have HS := Aside0.mk (show W.heap.size + 2 ≤ w2.heap.size by have := ho2'.size; have := H2.out; omega)
  have HB := Aside0.mk (show Below W.heap.size W w2 from (two_below W s).trans (ho2'.below (by omega) (by have := H2.out; omega)))
  have HM := Aside0.mk hM'
  obtain ⟨⟨m0, m1, m2, m3⟩, n0, n1, n2, n3⟩ := HR2.out.cells
  clear hM hM' ho2 ho2'
  have zlt : W.heap.size + 1 < w2.heap.size := by have := HS.out; omega
  have zlt0 : W.heap.size < w2.heap.size := by omega
  rw [hR] at ha2 hxr
  cases R with
  | no k =>
    obtain ⟨r, ha2⟩ := ha2
    obtain ⟨g0, g1, _, _⟩ := At.cells ha2
    obtain ⟨⟨z0, z1, z2, z3⟩, _⟩ := (rat_final HR2.out (.int .i64 0) (.int .i64 0) (.string ⟨#[]⟩) (.slice none 0 0) (.cells #[.int .i64 x.f0, .int .i64 x.f1, .string x.f2, .slice A3 x.f3.length cp3] 24)).cells
    clear ha2 hxr hR
    go_wp2_with fail
    go_region
    all_goals
      go_wp2_with fail
      refine bodyPost_ret (v := decV ad (.no k) [.int .i64 0, .int .i64 0, .string ⟨#[]⟩, .slice none 0 0]) (by simp [decV, results, Tryd.results10, go_sem, z0, z1, z2, z3]) rfl ⟨⟨_, _, _, _, rfl, plain_M _ _ 0 0 ⟨#[]⟩⟩, ?_⟩
      exact below_final HB.out _ _ _ _ _
  | ok y j =>
    have ha2' : Good w2 (W.heap.size + 1) s j := ha2
    obtain ⟨g0, g1, _, _⟩ := At.cells ha2'
    obtain rfl := hxr y j rfl
    have hj := ansS_le hR
    have hts := tail_size s j
    obtain ⟨⟨z0, z1, z2, z3⟩, _⟩ := (rat_final HR2.out (.int .i64 x.f0) (.int .i64 x.f1) (.string x.f2) (.slice A3 x.f3.length cp3) (.cells #[.int .i64 x.f0, .int .i64 x.f1, .string x.f2, .slice A3 x.f3.length cp3] 24)).cells
    clear ha2 ha2' hxr hR
    go_wp2_with fail
    go_region
    all_goals
      go_wp2_with fail
      refine bodyPost_ret (v := decV ad (.ok x j) [.int .i64 x.f0, .int .i64 x.f1, .string x.f2, .slice A3 x.f3.length cp3]) (by simp [decV, results, Tryd.results10, go_sem, z0, z1, z2, z3]; try omega) rfl ⟨⟨_, _, _, _, rfl, ?_⟩, ?_⟩
      · exact Kd.M_drewN (Kd.M_alloc (k24.M_lower (by have := H2.out; omega) (M_put4 _ _ _ _ HM.out (by have := H2.out; omega))) _) 1
      · exact below_final HB.out _ _ _ _ _
theorem decode_any (W : World) (N : Nat) (s : ByteArray) (ad : Nat → Addr) (hs : s.size ≤ 140738562097152) (hN : N ≤ W.heap.size) (hE : EN N W ad) :
    Calls Tryd.prog 10 #[.string s] W (DecOk ad (ansS s 4 0) W) := decode_R W N s ad hs hN hE _ rfl
end Go.Proofs.YtbdfjiobegadjaaDoor.Tk
