/- Databases and transactions that no call made. Conditions as stated. -/
import Derived.Test.YthbbammibdhohaaGreatDoorZA1
set_option linter.unusedSimpArgs false
set_option linter.unusedVariables false
namespace Go.Proofs.YthbbammibdhohaaGreatDoor
open Go.RowKit Aq Go.Rgn

/-- a database that no call made -/
def NoDb (w : World) (v : Value) : Prop := v = .pointer none ∨ ∃ x, v = .pointer (some ⟨x, 0, none⟩) ∧ w.cell? ⟨x, 0, none⟩ = some (.pointer none)
def CodePost (w : World) (c : Int) (e : Ending) (w' : World) : Prop := e = .returned (.int .i64 c) ∧ w = w'
set_option maxHeartbeats 400000 in
theorem nodb_none {w : World} {v : Value} (h : NoDb w v) : Calls Tryz.prog 61 #[v] w fun e w' => e = .returned (.bool true) ∧ w = w' := by
  rcases h with rfl | ⟨x, rfl, h0⟩
  · go_enter Tryz.func61, Tryz.ntmps61
    go_wp2
    go_ret
    exact ⟨rfl, rfl⟩
  · go_enter Tryz.func61, Tryz.ntmps61
    go_wp2
    go_ret
    exact ⟨rfl, rfl⟩
set_option maxHeartbeats 400000 in
theorem nodb_up {w : World} {v : Value} (h : NoDb w v) : Calls Tryz.prog 50 #[v] w (CodePost w 1) := by
  have hn := nodb_none h
  clear h
  go_enter Tryz.func50, Tryz.ntmps50
  go_wp2_with (first
    | (go_at_call 61; go_must (refine hn.mono ?_; rintro e w1 ⟨rfl, rfl⟩)))
  go_ret
  exact ⟨rfl, rfl⟩
set_option maxHeartbeats 400000 in
theorem nodb_Begin {w : World} {v : Value} (h : NoDb w v) : Calls Tryz.prog 15 #[v] w fun e w' => e = .returned (.tuple #[.pointer none, .int .i64 1]) ∧ w = w' := by
  have hn := nodb_up h
  clear h
  go_enter Tryz.func15, Tryz.ntmps15
  go_wp2_with (first
    | (go_at_call 50; go_must (refine hn.mono ?_; rintro e w1 ⟨rfl, rfl⟩)))
  go_ret2
  exact ⟨rfl, rfl⟩
set_option maxHeartbeats 400000 in
theorem nodb_Checkpoint {w : World} {v : Value} (h : NoDb w v) : Calls Tryz.prog 23 #[v] w (CodePost w 1) := by
  have hn := nodb_up h
  clear h
  go_enter Tryz.func23, Tryz.ntmps23
  go_wp2_with (first
    | (go_at_call 50; go_must (refine hn.mono ?_; rintro e w1 ⟨rfl, rfl⟩)))
  go_ret
  exact ⟨rfl, rfl⟩
set_option maxHeartbeats 400000 in
theorem nodb_Count {w : World} {v : Value} (h : NoDb w v) : Calls Tryz.prog 24 #[v] w (CodePost w 0) := by
  have hn := nodb_none h
  clear h
  go_enter Tryz.func24, Tryz.ntmps24
  go_wp2_with (first
    | (go_at_call 61; go_must (refine hn.mono ?_; rintro e w1 ⟨rfl, rfl⟩)))
  go_ret
  exact ⟨rfl, rfl⟩
set_option maxHeartbeats 400000 in
theorem nodb_High {w : World} {v : Value} (h : NoDb w v) : Calls Tryz.prog 25 #[v] w (CodePost w 0) := by
  have hn := nodb_none h
  clear h
  go_enter Tryz.func25, Tryz.ntmps25
  go_wp2_with (first
    | (go_at_call 61; go_must (refine hn.mono ?_; rintro e w1 ⟨rfl, rfl⟩)))
  go_ret
  exact ⟨rfl, rfl⟩
set_option maxHeartbeats 400000 in
theorem nodb_Free {w : World} {v : Value} (h : NoDb w v) : Calls Tryz.prog 26 #[v] w (CodePost w 0) := by
  have hn := nodb_none h
  clear h
  go_enter Tryz.func26, Tryz.ntmps26
  go_wp2_with (first
    | (go_at_call 61; go_must (refine hn.mono ?_; rintro e w1 ⟨rfl, rfl⟩)))
  go_ret
  exact ⟨rfl, rfl⟩
theorem NoDb.below {w w' : World} {v : Value} {B : Nat} (h : NoDb w v) (hb : Below B w w') (hB : ∀ x, v = .pointer (some ⟨x, 0, none⟩) → x < B) : NoDb w' v := by
  rcases h with h | ⟨x, h, h0⟩
  · exact .inl h
  · exact .inr ⟨x, h, (hb.cell (p := ⟨x, 0, none⟩) (hB x h)).trans h0⟩
end Go.Proofs.YthbbammibdhohaaGreatDoor
