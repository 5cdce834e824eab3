/- The walks of wire's taker, method by method. -/
import Derived.Test.YtbdfjiobegadjaaDoorSErrs
import Derived.Test.YtbdfjiobegadjaaDoorPWireMemoryx0
import Derived.IntWalk
import Derived.WalkSpells
import Derived.WalkLawsBesides
import Derived.WalkSmall
import Derived.Lib.Hide
import Derived.Lib.Strings
import Derived.Lib.IndexBytes
import Derived.Outline
namespace Go.Proofs.YtbdfjiobegadjaaDoor.Tk
open Go Go.RowKit Go.Proofs.YtbdfjiobegadjaaDoor.PWireMemory Go.Proofs.YtbdfjiobegadjaaDoorW.PrintWords Go.Proofs.YtbdfjiobegadjaaDoorW.PrintLast Go.Proofs.YtbdfjiobegadjaaDoorW.PrintMore
set_option linter.unusedVariables false
set_option linter.unusedSectionVars false
set_option linter.unusedSimpArgs false
/-- What a call that writes to block b alone leaves: all else that was there is as it was. -/
structure Only (b : Nat) (W W' : World) : Prop where
  os : W'.os = W.os
  tape : W'.tape = W.tape
  output : W'.output = W.output
  size : W.heap.size ≤ W'.heap.size
  keep : ∀ i, i < W.heap.size → i ≠ b → W'.heap[i]? = W.heap[i]?
theorem Only.refl (b : Nat) (W : World) : Only b W W := ⟨rfl, rfl, rfl, Nat.le_refl _, fun _ _ _ => rfl⟩
theorem Only.trans {b : Nat} {a c d : World} (h : Only b a c) (k : Only b c d) : Only b a d :=
  ⟨k.os.trans h.os, k.tape.trans h.tape, k.output.trans h.output, Nat.le_trans h.size k.size, fun i hi hb => (k.keep i (Nat.lt_of_lt_of_le hi h.size) hb).trans (h.keep i hi hb)⟩
theorem Only.set {b : Nat} {a c : World} (h : Only b a c) (j : Nat) (v : Value) : Only b a (c.setCell ⟨b, j, none⟩ v) :=
  h.trans ⟨rfl, rfl, rfl, by simp [World.setCell], fun i _ hb => Below.heap_setCell c ⟨b, j, none⟩ v i hb⟩
theorem Only.drew {b : Nat} {a c : World} (h : Only b a c) : Only b a c.drew := ⟨h.os, h.tape, h.output, h.size, h.keep⟩
theorem Only.drewN {b : Nat} {a c : World} (h : Only b a c) (n : Nat) : Only b a (c.drewN n) := ⟨h.os, h.tape, h.output, h.size, h.keep⟩
theorem Only.below {b : Nat} {a c : World} (h : Only b a c) {N : Nat} (hN : N ≤ b) (hb : b ≤ a.heap.size) : Below N a c :=
  ⟨h.os, h.tape, h.output, h.size, fun k hk => h.keep k (by omega) (by omega)⟩
theorem Only.of_below {b : Nat} {a c : World} (h : Below a.heap.size a c) : Only b a c := ⟨h.os, h.tape, h.output, h.size, fun k hk _ => h.block k hk⟩
theorem Only.keepBut {b : Nat} {a c : World} (h : Only b a c) : KeepBut a c b none := ⟨h.size, fun i hi hb _ => h.keep i hi hb⟩
/-- The refusals lie below N. -/
structure EN (N : Nat) (W : World) (ad : Nat → Addr) : Prop where
  errs : Errs W ad
  low : 3 ≤ N
  alow : ∀ i, i < 3 → (ad i).block < N
theorem EN.move {N : Nat} {W W' : World} {ad : Nat → Addr} (h : EN N W ad) (hk : ∀ i, i < N → W'.heap[i]? = W.heap[i]?) : EN N W' ad := by
  refine ⟨⟨fun i hi => ?_, h.errs.inj, fun i hi => ?_⟩, h.low, h.alow⟩
  · rw [← h.errs.cell i hi]
    simp only [World.cell?]
    rw [hk i (Nat.lt_of_lt_of_le hi h.low)]
  · rw [hk _ (h.alow i hi)]; exact h.errs.blk i hi
theorem EN.only {N b : Nat} {W W' : World} {ad : Nat → Addr} (h : EN N W ad) (ho : Only b W W') (hN : N ≤ b) (hb : b ≤ W.heap.size) : EN N W' ad := h.move fun i hi => ho.keep i (by omega) (by omega)
theorem EN.below {N : Nat} {W W' : World} {ad : Nat → Addr} (h : EN N W ad) (ho : Below N W W') : EN N W' ad := h.move ho.block
/-- The value of refusal number k + 1; the nil one is '.nilIface'. -/
abbrev ev (ad : Nat → Addr) (k : Nat) : Value := .iface 148 (.pointer (some (ad k)))
/-- What is left of s from i on. -/
def tail (s : ByteArray) (i : Nat) : ByteArray := s.extract i s.size
theorem tail_size (s : ByteArray) (i : Nat) : (tail s i).size = s.size - i := by simp [tail]
theorem tail_get (s : ByteArray) (i : Nat) (h : i < s.size) : (tail s i)[0]'(by rw [tail_size]; omega) = s[i] := by
  simp [tail, ByteArray.getElem_extract]
theorem tail_one (s : ByteArray) (i : Nat) (h : i < s.size) : (tail s i).extract 1 (tail s i).size = tail s (i + 1) := by
  have e : (tail s i).size = s.size - i := tail_size s i
  rw [e]
  unfold tail
  rw [ByteArray.extract_extract]
  congr 1; omega
theorem tail_empty (s : ByteArray) (i : Nat) (h : ¬ i < s.size) : (tail s i).toList.isEmpty = true := by
  rw [Lib.toList_data]; simp [tail]; omega
theorem tail_some (s : ByteArray) (i : Nat) (h : i < s.size) : (tail s i).toList.isEmpty = false := by
  rw [Lib.toList_data]; simp [tail]; omega
/-- The taker's block. -/
def At (W : World) (b : Nat) (r : ByteArray) (v : Value) : Prop := W.heap[b]? = some (.cells #[.string r, v] 82 (0, 0))
def Good (W : World) (b : Nat) (s : ByteArray) (i : Nat) : Prop := At W b (tail s i) .nilIface
def Bad (W : World) (b : Nat) (ad : Nat → Addr) (k : Nat) : Prop := ∃ r, At W b r (ev ad k)
/-- What a reading comes to: an answer and where the rest begins, or a refusal's number. -/
inductive Res (α : Type) where
  | ok (a : α) (i : Nat)
  | no (k : Nat)
/-- How the taker's block stands behind a reading. -/
def Leaves {α : Type} (W : World) (b : Nat) (s : ByteArray) (ad : Nat → Addr) : Res α → Prop
  | .ok _ i => Good W b s i
  | .no k => Bad W b ad k
structure ByteOk (b : Nat) (c : Int) (r : ByteArray) (v : Value) (W : World) (e : Ending) (W' : World) : Prop where
  end_ : e = .returned (.int .u8 c)
  at_ : At W' b r v
  only : Only b W W'
theorem At.cells {W : World} {b : Nat} {r : ByteArray} {v : Value} (h : At W b r v) : W.cell? ⟨b, 0, none⟩ = some (.string r) ∧ W.cell? ⟨b, 1, none⟩ = some v ∧ W.frozen? ⟨b, 0, none⟩ = false ∧ W.frozen? ⟨b, 1, none⟩ = false := by
  have h0 := blk_cell h 0
  have h1 := blk_cell h 1
  simp only [List.getElem?_toArray, List.getElem?_cons_zero, List.getElem?_cons_succ] at h0 h1
  exact ⟨h0, h1, blk_frozen h 0, blk_frozen h 1⟩
theorem At.set0 {W : World} {b : Nat} {r : ByteArray} {v : Value} (h : At W b r v) (r' : ByteArray) : At (W.setCell ⟨b, 0, none⟩ (.string r')) b r' v := blk_set h 0 _
theorem At.set1 {W : World} {b : Nat} {r : ByteArray} {v : Value} (h : At W b r v) (v' : Value) : At (W.setCell ⟨b, 1, none⟩ v') b r v' := blk_set h 1 _
theorem ret_u8 {a c : Int} (h : a = c) : Ending.returned (.int .u8 a) = .returned (.int .u8 c) := by rw [h]
set_option maxHeartbeats 400000 in
theorem byte_some (W : World) (b : Nat) (s : ByteArray) (i : Nat) (hi : i < s.size) (h : Good W b s i) :
    Calls Tryd.prog 50 #[.pointer (some ⟨b, 0, none⟩)] W (ByteOk b ((s[i]).toNat) (tail s (i + 1)) .nilIface W) := by
  obtain ⟨h0, h1, f0, f1⟩ := At.cells h
  have hE := tail_some s i hi
  have hs := tail_size s i
  have hg := Lib.hid (tail_get s i hi)
  have ho := Lib.hid (tail_one s i hi)
  have H := Aside0.mk h
  clear h
  go_enter Tryd.func50, Tryd.ntmps50
  go_wp2
  go_ret
  refine ⟨ret_u8 (by rw [← hg.out]), ?_, (Only.refl _ _).set 0 _⟩
  rw [← hs, ho.out]
  exact H.out.set0 _
set_option maxHeartbeats 400000 in
theorem byte_end (W : World) (b : Nat) (s : ByteArray) (i : Nat) (hi : ¬ i < s.size) (h : Good W b s i) (ad : Nat → Addr) (hE3 : W.cell? ⟨3, 0, none⟩ = some (ev ad 3)) :
    Calls Tryd.prog 50 #[.pointer (some ⟨b, 0, none⟩)] W (ByteOk b 0 (tail s i) (ev ad 3) W) := by
  obtain ⟨h0, h1, f0, f1⟩ := At.cells h
  have hE := tail_empty s i hi
  have H := Aside0.mk h
  clear h
  go_enter Tryd.func50, Tryd.ntmps50
  go_wp2
  go_ret
  exact ⟨rfl, H.out.set1 _, (Only.refl _ _).set 1 _⟩
set_option maxHeartbeats 400000 in
theorem byte_bad (W : World) (b : Nat) (r : ByteArray) (ad : Nat → Addr) (k : Nat) (h : At W b r (ev ad k)) :
    Calls Tryd.prog 50 #[.pointer (some ⟨b, 0, none⟩)] W (ByteOk b 0 r (ev ad k) W) := by
  obtain ⟨h0, h1, f0, f1⟩ := At.cells h
  have H := Aside0.mk h
  clear h
  go_enter Tryd.func50, Tryd.ntmps50
  go_wp2
  go_ret
  exact ⟨rfl, H.out, Only.refl _ _⟩
structure WrongOk (b : Nat) (r : ByteArray) (v : Value) (W : World) (e : Ending) (W' : World) : Prop where
  end_ : e = .returned (.tuple #[])
  at_ : At W' b r v
  only : Only b W W'
set_option maxHeartbeats 400000 in
theorem wrong_good (W : World) (b : Nat) (r : ByteArray) (h : At W b r .nilIface) (ad : Nat → Addr) (hE1 : W.cell? ⟨1, 0, none⟩ = some (ev ad 1)) :
    Calls Tryd.prog 55 #[.pointer (some ⟨b, 0, none⟩)] W (WrongOk b r (ev ad 1) W) := by
  obtain ⟨h0, h1, f0, f1⟩ := At.cells h
  have H := Aside0.mk h
  clear h
  go_enter Tryd.func55, Tryd.ntmps55
  go_wp2
  go_end0
  exact ⟨rfl, H.out.set1 _, (Only.refl _ _).set 1 _⟩
set_option maxHeartbeats 400000 in
theorem wrong_bad (W : World) (b : Nat) (r : ByteArray) (ad : Nat → Addr) (k : Nat) (h : At W b r (ev ad k)) :
    Calls Tryd.prog 55 #[.pointer (some ⟨b, 0, none⟩)] W (WrongOk b r (ev ad k) W) := by
  obtain ⟨h0, h1, f0, f1⟩ := At.cells h
  have H := Aside0.mk h
  clear h
  go_enter Tryd.func55, Tryd.ntmps55
  go_wp2
  go_end0
  exact ⟨rfl, H.out, Only.refl _ _⟩
end Go.Proofs.YtbdfjiobegadjaaDoor.Tk
