/- What the reading of an act tells, and of a list of acts. No condition. -/
import Derived.Carry
import Derived.Deep.Grids
import Derived.Test.YthbbammibdhohaaGreatDoorZE3
set_option linter.unusedSimpArgs false
set_option linter.unusedVariables false
namespace Go.Proofs.YthbbammibdhohaaGreatDoor
open Go.ChangeShapes Go.WideShapes Go.ChangeAt Go.RowKit Go.Deep

theorem cells_int : Tryz.prog.cellsOf 3 = 1 := by kernel_rfl
theorem cells_str : Tryz.prog.cellsOf 9 = 1 := by kernel_rfl
theorem cells_bools : Tryz.prog.cellsOf 44 = 1 := by kernel_rfl
theorem cells_bool : Tryz.prog.cellsOf 4 = 1 := by kernel_rfl
theorem cells_act : Tryz.prog.cellsOf 46 = 5 := by kernel_rfl
theorem laid_out : laidOutB Tryz.prog = true := by kernel_rfl

/-- the values of an act, and what its list of bits is -/
structure ActOk (W : World) (k id kd : Int) (s : ByteArray) (kp : Value) : Prop where
  k : -9223372036854775808 ≤ k ∧ k ≤ 9223372036854775807
  id : -9223372036854775808 ≤ id ∧ id ≤ 9223372036854775807
  kd : -9223372036854775808 ≤ kd ∧ kd ≤ 9223372036854775807
  s : s.size ≤ maxLen
  kp : kp = .slice none 0 0 ∨ ∃ (a : Addr) (len cap : Nat) (b : Nat → Bool), kp = .slice (some a) len cap ∧ len ≤ cap ∧ cap ≤ maxLen ∧ ∀ i, i < cap → W.cell? (a.add i) = some (.bool (b i))
theorem wf_int {x : Int} (h : (Lit.int .i64 x).wf = true) : -9223372036854775808 ≤ x ∧ x ≤ 9223372036854775807 := by
  simpa [Lit.wf, IntKind.min, IntKind.max, IntKind.signed, IntKind.bits] using h
set_option maxRecDepth 100000 in
theorem open_act {H : Type} {enc : TypeId × Value → H} {W : World} {base fuel : Nat} {held : Bool} {cs : List Value} {x : DataW H × List MemPlace} (h : DataW.trod enc Tryz.prog W base (fun _ => true) held fuel 46 cs = some x) :
    ∃ k id kd s kp, cs = [.int .i64 k, .int .i64 id, .int .i64 kd, .string s, kp] ∧ ActOk W k id kd s kp := by
  obtain ⟨xs, n, _, rfl, hl, hlen, hf⟩ := DataW.trod_struct Tryz.underlying46 h
  rw [cells_act] at hl
  match cs, hl with
  | [c0, c1, c2, c3, c4], _ =>
    match xs, hlen with
    | [y0, y1, y2, y3, y4], _ =>
      have h0 : DataW.trod enc Tryz.prog W base (fun _ => true) held n 3 [c0] = some y0 := by have h := hf 0 _ rfl; simpa [cells_int] using h
      have h1 : DataW.trod enc Tryz.prog W base (fun _ => true) held n 3 [c1] = some y1 := by have h := hf 1 _ rfl; simpa [cells_int] using h
      have h2 : DataW.trod enc Tryz.prog W base (fun _ => true) held n 3 [c2] = some y2 := by have h := hf 2 _ rfl; simpa [cells_int] using h
      have h3 : DataW.trod enc Tryz.prog W base (fun _ => true) held n 9 [c3] = some y3 := by have h := hf 3 _ rfl; simpa [cells_str] using h
      have h4 : DataW.trod enc Tryz.prog W base (fun _ => true) held n 44 [c4] = some y4 := by have h := hf 4 _ rfl; simpa [cells_bools] using h
      obtain ⟨k, e0, _, w0⟩ := DataW.trod_int Tryz.underlying3 h0
      obtain ⟨id, e1, _, w1⟩ := DataW.trod_int Tryz.underlying3 h1
      obtain ⟨kd, e2, _, w2⟩ := DataW.trod_int Tryz.underlying3 h2
      obtain ⟨s, e3, _, w3⟩ := DataW.trod_string Tryz.underlying9 h3
      have h5 := open_bools Tryz.underlying44 Tryz.underlying4 cells_bool h4
      simp only [List.cons.injEq, and_true] at e0 e1 e2 e3 h5
      subst e0 e1 e2 e3
      refine ⟨k, id, kd, s, c4, rfl, wf_int w0, wf_int w1, wf_int w2, w3, ?_⟩
      rcases h5 with ⟨h5, _⟩ | ⟨a, len, cap, b, h5, _, h6, h7, _, h8⟩
      · exact .inl h5
      · exact .inr ⟨a, len, cap, b, h5, h6, h7, h8⟩
end Go.Proofs.YthbbammibdhohaaGreatDoor
