/- PagedbNobody walked. Conditions as stated. -/
import Derived.Test.YthbbammibdhohaaGreatDoorZT7
import Derived.Test.YthbbammibdhohaaGreatDoorZE4
set_option linter.unusedSimpArgs false
set_option linter.unusedVariables false
namespace Go.Proofs.YthbbammibdhohaaGreatDoor
open Go.RowKit Aq Go.Rgn

abbrev dbZero : Array Value := #[.pointer none, .pointer none, .int .i64 0, .int .i64 0, .int .i64 0, .int .i64 0, .int .i64 0, .int .i64 0, .int .i64 0, .int .i64 0, .pointer none, .bool false]
abbrev actV (k id kd : Int) (s : ByteArray) (kp : Value) : Array Value := #[.int .i64 k, .int .i64 id, .int .i64 kd, .string s, kp]
def nobW (w : World) (k id kd : Int) (s : ByteArray) (kp : Value) : World :=
  ((w.alloc (.cells (actV k id kd s kp) 46)).alloc (.cells dbZero tDB)).alloc (.cells #[.pointer none, .pointer (some ⟨w.heap.size + 1, 0, none⟩)] 27)
def NobInv (w1 : World) (v : Value) (wr : World) : Prop := ∃ j : Nat, j ≤ 2 ∧ v = .int .i64 (j : Int) ∧ w1 = wr
/-- the second loop's world: the act, the two transactions -/
structure NobTx (w : World) (k id kd : Int) (s : ByteArray) (kp : Value) (a t b : Nat) (wr : World) : Prop where
  act : wr.heap[a]? = some (.cells (actV k id kd s kp) 46 (0, 0))
  row : wr.heap[b]? = some (.cells #[.pointer none, .pointer (some ⟨t, 0, none⟩)] 40 (0, 0))
  tx : ∃ cs : Array Value, wr.heap[t]? = some (.cells cs tTx (0, 0)) ∧ cs[0]? = some (.pointer none) ∧ ∃ u, cs[10]? = some u
  ne : a ≠ t ∧ b ≠ t
  low : Below w.heap.size w wr
  le : w.heap.size ≤ t
theorem NobTx.keep {w wr wr' : World} {k id kd : Int} {s : ByteArray} {kp : Value} {a t b : Nat} (h : NobTx w k id kd s kp a t b wr) (hb : Below wr.heap.size wr wr') : NobTx w k id kd s kp a t b wr' := by
  obtain ⟨h1, h2, ⟨cs, h3, h4⟩, h5, h6, h7⟩ := h
  have hk : ∀ {i : Nat} {o : Obj}, wr.heap[i]? = some o → wr'.heap[i]? = some o := fun hi => (hb.block _ (lt_of_some hi)).trans hi
  exact ⟨hk h1, hk h2, ⟨cs, hk h3, h4⟩, h5, h6.trans (hb.mono h6.size), h7⟩
theorem NobTx.shut {w wr : World} {k id kd : Int} {s : ByteArray} {kp : Value} {a t b : Nat} (h : NobTx w k id kd s kp a t b wr) {v : Value} (hv : v = .pointer none ∨ v = .pointer (some ⟨t, 0, none⟩)) : Shut wr v := by
  rcases hv with rfl | rfl
  · exact .inl rfl
  · obtain ⟨cs, h3, h4, _⟩ := h.tx
    exact .inr ⟨t, rfl, .inl (cellAt h3 0 _ h4)⟩
theorem NobTx.spoil {w wr : World} {k id kd : Int} {s : ByteArray} {kp : Value} {a t b : Nat} (h : NobTx w k id kd s kp a t b wr) {v : Value} (hv : v = .pointer none ∨ v = .pointer (some ⟨t, 0, none⟩)) :
    Calls Tryz.prog 27 #[v] wr fun e w' => e = .returned (.tuple #[]) ∧ NobTx w k id kd s kp a t b w' := by
  rcases hv with rfl | rfl
  · exact (tx_Spoil_nil wr).mono fun e w' ⟨he, hw⟩ => ⟨he, hw ▸ h⟩
  · obtain ⟨h1, h2, ⟨cs, h3, h4, u, h5⟩, h6, h7, h8⟩ := h
    refine (tx_Spoil h3 h5).mono fun e w' ⟨he, hw⟩ => ⟨he, ?_⟩
    subst hw
    have hlen := (Array.getElem?_eq_some_iff.1 h5).1
    exact ⟨(heap_setCell_other _ _ _ _ h6.1).trans h1, (heap_setCell_other _ _ _ _ h6.2).trans h2, ⟨_, heap_setCell_same _ _ _ _ _ _ h3, (Array.getElem?_setIfInBounds_ne (by decide)).trans h4, .bool true, Array.getElem?_setIfInBounds_self_of_lt hlen⟩, h6, h7.setCell h8 _, h8⟩
section
variable {w wr : World} {k id kd : Int} {s : ByteArray} {kp : Value} {a t b : Nat}
theorem NobTx.c1 (h : NobTx w k id kd s kp a t b wr) : wr.cell? ⟨a, 1, none⟩ = some (.int .i64 id) := cellAt h.act 1 _ rfl
theorem NobTx.c2 (h : NobTx w k id kd s kp a t b wr) : wr.cell? ⟨a, 2, none⟩ = some (.int .i64 kd) := cellAt h.act 2 _ rfl
theorem NobTx.c3 (h : NobTx w k id kd s kp a t b wr) : wr.cell? ⟨a, 3, none⟩ = some (.string s) := cellAt h.act 3 _ rfl
theorem NobTx.read (h : NobTx w k id kd s kp a t b wr) {v : Value} (hv : v = .pointer none ∨ v = .pointer (some ⟨t, 0, none⟩)) (i : Int) :
    Calls Tryz.prog 18 #[v, .int .i64 i] wr fun e w' => e = .returned (.tuple #[.int .i64 0, .string ⟨#[]⟩, .int .i64 1]) ∧ NobTx w k id kd s kp a t b w' :=
  (tx_Read_shut (h.shut hv) i).mono fun e w' ⟨he, hb⟩ => ⟨he, h.keep hb⟩
theorem NobTx.write (h : NobTx w k id kd s kp a t b wr) {v : Value} (hv : v = .pointer none ∨ v = .pointer (some ⟨t, 0, none⟩)) (i q : Int) (z : ByteArray) :
    Calls Tryz.prog 22 #[v, .int .i64 i, .int .i64 q, .string z] wr fun e w' => e = .returned (.int .i64 1) ∧ NobTx w k id kd s kp a t b w' :=
  (txw_no (r := ((0, []), 1)) (by decide) (tx_there_shut (h.shut hv) i) q z).mono fun e w' ⟨he, hb⟩ => ⟨he, h.keep hb⟩
theorem NobTx.free (h : NobTx w k id kd s kp a t b wr) {v : Value} (hv : v = .pointer none ∨ v = .pointer (some ⟨t, 0, none⟩)) (i : Int) :
    Calls Tryz.prog 28 #[v, .int .i64 i] wr fun e w' => e = .returned (.int .i64 1) ∧ NobTx w k id kd s kp a t b w' :=
  (txf_no (r := ((0, []), 1)) (by decide) (tx_there_shut (h.shut hv) i)).mono fun e w' ⟨he, hb⟩ => ⟨he, h.keep hb⟩
theorem NobTx.pick (h : NobTx w k id kd s kp a t b wr) (j : Nat) (hj : j < 2) : ∃ v, wr.cell? ⟨b, j, none⟩ = some v ∧ (v = .pointer none ∨ v = .pointer (some ⟨t, 0, none⟩)) := by
  obtain rfl | rfl : j = 0 ∨ j = 1 := by omega
  · exact ⟨_, cellAt h.row 0 _ rfl, .inl rfl⟩
  · exact ⟨_, cellAt h.row 1 _ rfl, .inr rfl⟩
end
abbrev txZero : Array Value := #[.pointer none, .int .i64 0, .int .i64 0, .int .i64 0, .int .i64 0, .int .i64 0, .int .i64 0, .int .i64 0, .map none, .bool false, .bool false]
theorem nob_start {w w1 : World} {k id kd : Int} {s : ByteArray} {kp : Value} (hb : Below w.heap.size w w1) (ha : w1.heap[w.heap.size]? = some (.cells (actV k id kd s kp) 46 (0, 0))) :
    NobTx w k id kd s kp w.heap.size w1.heap.size (w1.heap.size + 1) ((w1.alloc (.cells txZero tTx)).alloc (.cells #[.pointer none, .pointer (some ⟨w1.heap.size, 0, none⟩)] 40)) := by
  have z1 : ∀ (w : World) (o : Obj), (w.alloc o).heap.size = w.heap.size + 1 := fun w o => by show (w.heap.push o).size = _; simp
  have hl := lt_of_some ha
  refine ⟨?_, ?_, ⟨txZero, ?_, rfl, _, rfl⟩, by omega, (hb.alloc hb.size _).alloc (by rw [z1]; omega) _, hb.size⟩
  · rw [World.heap_alloc_old' _ _ _ (by rw [z1]; omega), World.heap_alloc_old' _ _ _ hl]; exact ha
  · rw [← z1 w1 (.cells txZero tTx)]; exact heap_alloc_new _ _
  · rw [World.heap_alloc_old' _ _ _ (by rw [z1]; omega)]; exact heap_alloc_new _ _
def NobInv2 (w : World) (k id kd : Int) (s : ByteArray) (kp : Value) (a t b : Nat) (v : Value) (wr : World) : Prop := ∃ j : Nat, j ≤ 2 ∧ v = .int .i64 (j : Int) ∧ NobTx w k id kd s kp a t b wr
set_option maxHeartbeats 4000000 in
set_option maxRecDepth 100000 in
theorem law_nobody (w : World) (hH : HalfAt w) (hB : 0 < w.heap.size) (k id kd : Int) (s : ByteArray) (kp : Value) :
    Calls Tryz.prog 6 #[.agg #[.int .i64 k, .int .i64 id, .int .i64 kd, .string s, kp]] w (BoolPost w true) := by
  have hwk : ∀ w1, Below w.heap.size w w1 → Calls Tryz.prog 12 #[] w1 (BoolPost w1 true) := fun w1 hb => works_ok w1 (hH.below hb hB) (Nat.lt_of_lt_of_le hB hb.size)
  have HWK := Lib.hid hwk
  clear hwk hH hB
  obtain ⟨w1, hw1⟩ : ∃ w1, w1 = nobW w k id kd s kp := ⟨_, rfl⟩
  have z1 : ∀ (w : World) (o : Obj), (w.alloc o).heap.size = w.heap.size + 1 := fun w o => by show (w.heap.push o).size = _; simp
  have hb1 : Below w.heap.size w w1 := by rw [hw1]; exact (((Below.refl _ w).alloc (Nat.le_refl _) _).alloc (by rw [z1]; omega) _).alloc (by rw [z1, z1]; omega) _
  have hs1 : w1.heap.size = w.heap.size + 1 + 1 + 1 := by rw [hw1, nobW, z1, z1, z1]
  have ha1 : w1.heap[w.heap.size]? = some (.cells (actV k id kd s kp) 46 (0, 0)) := by rw [hw1, nobW, World.heap_alloc_old' _ _ _ (by rw [z1, z1]; omega), World.heap_alloc_old' _ _ _ (by rw [z1]; omega)]; exact heap_alloc_new _ _
  have hx1 : w1.heap[w.heap.size + 1]? = some (.cells dbZero tDB (0, 0)) := by rw [hw1, nobW, World.heap_alloc_old' _ _ _ (by rw [z1, z1]; omega), ← z1 w (.cells (actV k id kd s kp) 46)]; exact heap_alloc_new _ _
  have hr1 : w1.heap[w.heap.size + 1 + 1]? = some (.cells #[.pointer none, .pointer (some ⟨w.heap.size + 1, 0, none⟩)] 27 (0, 0)) := by rw [hw1, nobW, ← z1 w (.cells (actV k id kd s kp) 46), ← z1 _ (.cells dbZero tDB)]; exact heap_alloc_new _ _
  have HB1 := Lib.hid hb1; have HS1 := Lib.hid hs1; have HA1 := Lib.hid ha1; have HX1 := Lib.hid hx1; have HR1 := Lib.hid hr1
  clear hb1 hs1 ha1 hx1 hr1
  go_enter Tryz.func6, Tryz.ntmps6
  go_wp2
  go_loopw [18] (fun v wr => NobInv w1 v wr) (fun v _ => 2 - (intOf v).toNat)
  case atStart => exact ⟨0, by omega, rfl, hw1⟩
  case round =>
    obtain ⟨j, hj, rfl, rfl⟩ := hrel
    by_cases hj2 : j < 2
    · obtain ⟨v, hv, hno⟩ : ∃ v, w1.cell? ⟨w.heap.size + 1 + 1, j, none⟩ = some v ∧ NoDb w1 v := by
        obtain rfl | rfl : j = 0 ∨ j = 1 := by omega
        · exact ⟨_, cellAt HR1.out 0 _ rfl, .inl rfl⟩
        · exact ⟨_, cellAt HR1.out 1 _ rfl, .inr ⟨_, rfl, cellAt HX1.out 0 _ rfl⟩⟩
      have g1 : (j : Int) < 2 := by omega
      have HNO := Lib.hid hno
      clear hno hw1
      go_wp2_with (first
        | (go_at_call 15; go_must (refine (nodb_Begin HNO.out).mono ?_; rintro e w2 ⟨rfl, rfl⟩))
        | (go_at_call 23; go_must (refine (nodb_Checkpoint HNO.out).mono ?_; rintro e w2 ⟨rfl, rfl⟩))
        | (go_at_call 24; go_must (refine (nodb_Count HNO.out).mono ?_; rintro e w2 ⟨rfl, rfl⟩))
        | (go_at_call 25; go_must (refine (nodb_High HNO.out).mono ?_; rintro e w2 ⟨rfl, rfl⟩))
        | (go_at_call 26; go_must (refine (nodb_Free HNO.out).mono ?_; rintro e w2 ⟨rfl, rfl⟩)))
      go_roundw
      case rel => exact ⟨j + 1, by omega, congrArg (Value.int .i64) (by omega), rfl⟩
      case measure => simp [intOf]; omega
    · obtain rfl : j = 2 := by omega
      clear hw1
      go_wp2
      have hst : NobTx w k id kd s kp w.heap.size w1.heap.size (w1.heap.size + 1) _ := nob_start HB1.out HA1.out
      have HST := Lib.hid hst
      clear hst HS1 HX1 HR1 HA1 HB1 hj hj2
      go_loopw [58] (fun v wr => NobInv2 w k id kd s kp w.heap.size w1.heap.size (w1.heap.size + 1) v wr) (fun v _ => 2 - (intOf v).toNat)
      case atStart => exact ⟨0, by omega, rfl, HST.out⟩
      case round =>
        obtain ⟨j, hj, rfl, hnt⟩ := hrel
        clear HST
        by_cases hj2 : j < 2
        · obtain ⟨v, hv, hvv⟩ := hnt.pick j hj2
          have g1 : (j : Int) < 2 := by omega
          have c1 := hnt.c1; have c2 := hnt.c2; have c3 := hnt.c3
          have HV := Lib.hid hvv; have HN := Lib.hid hnt
          clear hvv hnt
          go_wp2_with (first
            | (go_at_call 18; go_must (refine (HN.out.read HV.out _).mono ?_; rintro e w2 ⟨rfl, hn2⟩; clear HN hv c1 c2 c3; have c1 := hn2.c1; have c2 := hn2.c2; have c3 := hn2.c3; have HN := Lib.hid hn2; clear hn2))
            | (go_at_call 21; go_must (refine (tx_Alloc_shut (HN.out.shut HV.out)).mono ?_; rintro e w3 ⟨rfl, rfl⟩))
            | (go_at_call 17; go_must (refine (tx_Abort_shut (HN.out.shut HV.out)).mono ?_; rintro e w4 ⟨rfl, rfl⟩))
            | (go_at_call 27; go_must (refine (HN.out.spoil HV.out).mono ?_; rintro e w5 ⟨rfl, hn5⟩; clear HN c1 c2 c3; have c1 := hn5.c1; have c2 := hn5.c2; have c3 := hn5.c3; have HN := Lib.hid hn5; clear hn5))
            | (go_at_call 22; go_must (refine (HN.out.write HV.out _ _ _).mono ?_; rintro e w6 ⟨rfl, hn6⟩; clear HN c1 c2 c3; have c1 := hn6.c1; have c2 := hn6.c2; have c3 := hn6.c3; have HN := Lib.hid hn6; clear hn6))
            | (go_at_call 28; go_must (refine (HN.out.free HV.out _).mono ?_; rintro e w7 ⟨rfl, hn7⟩; clear HN c1 c2 c3; have c1 := hn7.c1; have c2 := hn7.c2; have c3 := hn7.c3; have HN := Lib.hid hn7; clear hn7))
            | (go_at_call 29; go_must (refine (tx_Root_shut (HN.out.shut HV.out) _).mono ?_; rintro e w8 ⟨rfl, rfl⟩))
            | (go_at_call 30; go_must (refine (tx_SetRoot_shut (HN.out.shut HV.out) _ _).mono ?_; rintro e w9 ⟨rfl, rfl⟩))
            | (go_at_call 20; go_must (refine (tx_Commit_shut (HN.out.shut HV.out)).mono ?_; rintro e w10 ⟨rfl, rfl⟩))
            | (go_at_call 31; go_must (refine (tx_Changed_shut (HN.out.shut HV.out)).mono ?_; rintro e w11 ⟨rfl, rfl⟩)))
          go_roundw
          case rel =>
            repeat apply Exists.intro
            refine ⟨?r, rfl⟩
            exact ⟨j + 1, by omega, congrArg (Value.int .i64) (by omega), HN.out⟩
          case measure => simp [intOf]; omega
        · obtain rfl : j = 2 := by omega
          have HN := Lib.hid hnt
          clear hnt
          go_wp2_with (first
            | (go_at_call 12; go_must (refine (HWK.out _ HN.out.low).mono ?_; rintro e w5 ⟨rfl, hb5⟩; have HB5 : Hid (Below w.heap.size w w5) := HN.out.low.trans (hb5.mono HN.out.low.size); clear hb5)))
          go_ret
          exact ⟨rfl, HB5.out⟩
end Go.Proofs.YthbbammibdhohaaGreatDoor
