/- The walk of wire.Encode, where an answer may be. -/
import Derived.Test.YtbdfjiobegadjaaDoorAnsW
namespace Go.Proofs.YtbdfjiobegadjaaDoor.Wr
open Go Go.RowKit Go.Proofs.YtbdfjiobegadjaaDoor.Tk Go.Proofs.YtbdfjiobegadjaaDoor.PWireMemory Go.Proofs.YtbdfjiobegadjaaDoorW.PrintWords Go.Proofs.YtbdfjiobegadjaaDoorW.PrintLast Go.Proofs.YtbdfjiobegadjaaDoorW.PrintMore
set_option linter.unusedVariables false
set_option linter.unusedSectionVars false
set_option linter.unusedSimpArgs false
theorem may_zero (x : S24) (hx : okD 4 x) (W : World) (A : Option Addr) (c : Nat) (hc : x.f3.length ≤ c) (hC : k24.C W A x.f3.length x.f3) : Calls Tryd.prog 44 #[agv x A c, .int .i64 0] W (NilOk W) := may_any 4 0 rfl x hx W A c hc hC
set_option maxHeartbeats 2000000 in
theorem encode_any (x : S24) (hx : okD 4 x) (W : World) (hT : Tab W.heap.size W) (hlen : (encD 4 x).length + 60 ≤ 140737488355328) (A : Option Addr) (c : Nat) (hc : x.f3.length ≤ c) (hC : k24.C W A x.f3.length x.f3) :
    Calls Tryd.prog 24 #[agv x A c] W fun e w' => e = .returned (.tuple #[.string ⟨(encD 4 x).toArray⟩, .nilIface]) ∧ Below W.heap.size W w' := by
  have HT := Lib.hid hT
  have HC := Aside0.mk hC
  have HB := Aside0.mk (ago_below W x A c)
  have HA := Aside0.mk (ago_at W x A c)
  have hsz : (W.alloc (ago x A c)).heap.size = W.heap.size + 1 := by simp
  have HZ := Lib.hid hsz
  clear hT hC hsz
  go_enter Tryd.func24, Tryd.ntmps24
  go_wp2_with fail
  go_at_call 44
  refine (may_zero x hx _ A c hc (by exact (Kd.C_alloc HC.out _))).mono ?_
  rintro _ w1 ⟨rfl, hb1'⟩
  have hb1 : Below (W.alloc (ago x A c)).heap.size (W.alloc (ago x A c)) w1 := hb1'
  clear hb1'
  have HB1 := Aside0.mk (HB.out.trans (hb1.mono (by have := HB.out.size; exact this)))
  have HA1 := Aside0.mk (show RAt w1 W.heap.size _ _ _ _ from (hb1.block _ (by have := HZ.out; omega)).trans HA.out)
  obtain ⟨⟨m0, m1, m2, m3⟩, _⟩ := HA1.out.cells
  have hlt : W.heap.size < w1.heap.size := by have := hb1.size; have := HZ.out; omega
  clear hb1
  have HF := Aside0.mk (Lib.fresh_isBuilder 102 5 w1)
  go_wp2_with fail
  go_at_call 45
  refine (w_any w1.heap.size w1.heap.size W (Nat.le_of_lt hlt) 4 x hx _ [] (fun w hw => HT.out w ((below_alloc HB1.out _).trans (hw.mono (Nat.le_of_lt hlt)))) (by exact HF.out) (by simp) (below_alloc HB1.out _) (by simpa using hlen) A c hc HC.out).mono ?_
  rintro _ w2 ⟨rfl, ha2, hb2, _⟩
  have HA2 := Aside0.mk ha2
  have HB2 := Aside0.mk ((below_alloc HB1.out (.cells #[.pointer none, .slice none 0 0] 102)).trans (hb2.mono (Nat.le_of_lt hlt)))
  have hs2 : w1.heap.size ≤ w2.heap.size := by have := hb2.size; simp at this; omega
  clear ha2 hb2
  go_wp2_with fail
  refine (Bld.string_any 102 w1.heap.size w1.heap.size (encD 4 x) w2 HA2.out hs2).mono ?_
  rintro _ w3 ⟨rfl, hb3⟩
  have HB3 := Aside0.mk (HB2.out.trans (hb3.mono (Nat.le_of_lt hlt)))
  clear hb3
  go_wp2_with fail
  exact bodyPost_ret (v := .tuple #[.string ⟨(encD 4 x).toArray⟩, .nilIface]) (by simp [results, Tryd.results24, go_sem]) rfl ⟨rfl, HB3.out⟩
end Go.Proofs.YtbdfjiobegadjaaDoor.Wr
