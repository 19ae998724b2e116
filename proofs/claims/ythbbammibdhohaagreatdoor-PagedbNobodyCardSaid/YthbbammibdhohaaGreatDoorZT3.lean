/- A transaction's end, Abort, Spoil, Changed, Root, SetRoot. Conditions as stated. A transaction's get and there. Conditions as stated. A database's pages, as a transaction sees them: which are free, and in which order. Plain. No condition. A transaction's Read and Write. Conditions as stated. A transaction's Alloc. Conditions as stated. -/
import Derived.Test.YthbbammibdhohaaGreatDoorZH2
set_option linter.unusedSimpArgs false
set_option linter.unusedVariables false
namespace Go.Proofs.YthbbammibdhohaaGreatDoor
open Go.RowKit Aq Go.Rgn Go.Maps

/-- an open transaction of a database that is well -/
structure TxNow (B C : Nat) (w : World) (t mb x db p log : Nat) (m tm : Meta) (mk sp : Bool) (l : List (Nat × Lf)) (D : Disk) : Prop where
  dbi : DbIs B w x db p log m (.pointer (some ⟨t, 0, none⟩)) false
  disk : DiskAt B w db D
  dn : D.down = false
  tx : TxIs C w t x mb tm mk sp l
theorem dbT_tx (t : Nat) (h : dbT t = true) : txT t = false := by simp only [dbT, beq_iff_eq] at h; subst h; rfl
theorem txT_db (t : Nat) (h : txT t = true) : dbT t = false := by
  simp only [txT, Bool.or_eq_true, beq_iff_eq] at h
  rcases h with rfl | rfl <;> rfl
theorem txT_disk (t : Nat) (h : diskT t = true) : txT t = false := by
  simp only [diskT, Bool.or_eq_true, beq_iff_eq] at h
  rcases h with (rfl | rfl) | rfl <;> rfl
theorem txT_log (t : Nat) (h : logT t = true) : txT t = false := by
  simp only [logT, Bool.or_eq_true, beq_iff_eq] at h
  rcases h with (rfl | rfl) | rfl <;> rfl
theorem txT_dbT (t : Nat) (h : dbT t = true) : txT t = false := dbT_tx t h
theorem TxNow.below {B C : Nat} {w w' : World} {t mb x db p log : Nat} {m tm : Meta} {mk sp : Bool} {l : List (Nat × Lf)} {D : Disk} (h : TxNow B C w t mb x db p log m tm mk sp l D) (hb : Below w.heap.size w w') : TxNow B C w' t mb x db p log m tm mk sp l D :=
  ⟨h.dbi.keep (Below.sees hb), h.disk.keep (Below.sees hb), h.dn, h.tx.keep (Below.sees hb)⟩
theorem TxNow.up {B C : Nat} {w : World} {t mb x db p log : Nat} {m tm : Meta} {mk sp : Bool} {l : List (Nat × Lf)} {D : Disk} (h : TxNow B C w t mb x db p log m tm mk sp l D) :
    Calls Tryz.prog 53 #[.pointer (some ⟨t, 0, none⟩)] w fun e w' => e = .returned (.int .i64 0) ∧ w = w' := tx_up h.dbi h.disk h.dn h.tx
/-- the transaction's own parts have turned: what it is now -/
theorem TxNow.turn {B C : Nat} {w w' : World} {t mb x db p log : Nat} {m tm tm' : Meta} {mk sp mk' sp' : Bool} {l l' : List (Nat × Lf)} {D : Disk} (h : TxNow B C w t mb x db p log m tm mk sp l D) (hu : Upd C txT w w') (ht : TxIs C w' t x mb tm' mk' sp' l') : TxNow B C w' t mb x db p log m tm' mk' sp' l' D :=
  ⟨h.dbi.keep (hu.sees txT_dbT), h.disk.keep (hu.sees txT_disk), h.dn, ht⟩
def EndPost (B C : Nat) (w : World) (t mb x db p log : Nat) (m tm : Meta) (mk sp : Bool) (l : List (Nat × Lf)) (e : Ending) (w' : World) : Prop :=
  e = .returned (.tuple #[]) ∧ DbIs B w' x db p log m (.pointer none) false ∧ TxIs C w' t x mb tm mk sp l ∧ Upd B dbT w w'
set_option maxHeartbeats 400000 in
theorem tx_end {B C : Nat} {w : World} {t mb x db p log : Nat} {m tm : Meta} {mk sp : Bool} {l : List (Nat × Lf)} {D : Disk} (h : TxNow B C w t mb x db p log m tm mk sp l D) :
    Calls Tryz.prog 51 #[.pointer (some ⟨t, 0, none⟩)] w (EndPost B C w t mb x db p log m tm mk sp l) := by
  have t0 := h.tx.c0; have h10 := h.dbi.c10; have f10 := h.dbi.fr 10
  have H := Lib.hid h
  clear h
  go_enter Tryz.func51, Tryz.ntmps51
  go_wp2
  go_end0
  exact ⟨rfl, H.out.dbi.field 10 _ rfl, H.out.tx.keep (sees_setCell H.out.dbi.head rfl 10 _), H.out.dbi.upd (Upd.refl _ _ _) rfl 10 _⟩
set_option maxHeartbeats 400000 in
set_option maxRecDepth 100000 in
theorem tx_Abort {B C : Nat} {w : World} {t mb x db p log : Nat} {m tm : Meta} {mk sp : Bool} {l : List (Nat × Lf)} {D : Disk} (h : TxNow B C w t mb x db p log m tm mk sp l D) :
    Calls Tryz.prog 17 #[.pointer (some ⟨t, 0, none⟩)] w (EndPost B C w t mb x db p log m tm mk sp l) := by
  have hend := tx_end h
  have t0 := h.tx.c0; have h10 := h.dbi.c10
  have hpp := tx_eql_same w t
  clear h
  go_enter Tryz.func17, Tryz.ntmps17
  go_wp2_with (first
    | (go_at_call 51; go_must (refine hend.mono ?_; rintro e w1 ⟨rfl, h1⟩; have H1 := Lib.hid h1; clear h1)))
  go_end0
  exact ⟨rfl, H1.out⟩
def StayPost (w : World) (e : Ending) (w' : World) : Prop := e = .returned (.tuple #[]) ∧ w = w'
set_option maxHeartbeats 400000 in
set_option maxRecDepth 100000 in
theorem tx_Abort_shut {w : World} {v : Value} (h : Shut w v) : Calls Tryz.prog 17 #[v] w (StayPost w) := by
  rcases h with rfl | ⟨t, rfl, h0 | ⟨x, y, h0, h1, rfl | ⟨u, rfl, hu⟩⟩⟩
  · go_enter Tryz.func17, Tryz.ntmps17
    go_wp2
    go_end0
    exact ⟨rfl, rfl⟩
  · go_enter Tryz.func17, Tryz.ntmps17
    go_wp2
    go_end0
    exact ⟨rfl, rfl⟩
  · have hpp := tx_eql_nil w t
    go_enter Tryz.func17, Tryz.ntmps17
    go_wp2
    go_end0
    exact ⟨rfl, rfl⟩
  · have hpp := tx_eql_other hu
    go_enter Tryz.func17, Tryz.ntmps17
    go_wp2
    go_end0
    exact ⟨rfl, rfl⟩
set_option maxHeartbeats 400000 in
theorem tx_Spoil_nil (w : World) : Calls Tryz.prog 27 #[.pointer none] w (StayPost w) := by
  go_enter Tryz.func27, Tryz.ntmps27
  go_wp2
  go_end0
  exact ⟨rfl, rfl⟩
set_option maxHeartbeats 400000 in
theorem tx_Spoil {w : World} {t : Nat} {cs : Array Value} {v : Value} (h : w.heap[t]? = some (.cells cs tTx (0, 0))) (hv : cs[10]? = some v) :
    Calls Tryz.prog 27 #[.pointer (some ⟨t, 0, none⟩)] w fun e w' => e = .returned (.tuple #[]) ∧ w' = w.setCell ⟨t, 10, none⟩ (.bool true) := by
  have h10 := cellAt h 10 v hv; have f10 := freeAt h 10
  clear h hv
  go_enter Tryz.func27, Tryz.ntmps27
  go_wp2
  go_end0
  exact ⟨rfl, rfl⟩
set_option maxHeartbeats 400000 in
set_option maxRecDepth 100000 in
theorem tx_Changed_shut {w : World} {v : Value} (h : Shut w v) : Calls Tryz.prog 31 #[v] w fun e w' => e = .returned (.int .i64 0) ∧ w = w' := by
  rcases h with rfl | ⟨t, rfl, h0 | ⟨x, y, h0, h1, rfl | ⟨u, rfl, hu⟩⟩⟩
  · go_enter Tryz.func31, Tryz.ntmps31
    go_wp2
    go_ret
    exact ⟨rfl, rfl⟩
  · go_enter Tryz.func31, Tryz.ntmps31
    go_wp2
    go_ret
    exact ⟨rfl, rfl⟩
  · have hpp := tx_neq_nil w t
    go_enter Tryz.func31, Tryz.ntmps31
    go_wp2
    go_ret
    exact ⟨rfl, rfl⟩
  · have hpp := tx_neq_other hu
    go_enter Tryz.func31, Tryz.ntmps31
    go_wp2
    go_ret
    exact ⟨rfl, rfl⟩
def changedN (l : List (Nat × Lf)) (mk : Bool) : Nat := l.length + if mk then 1 else 0
set_option maxHeartbeats 400000 in
set_option maxRecDepth 100000 in
theorem tx_Changed {B C : Nat} {w : World} {t mb x db p log : Nat} {m tm : Meta} {mk sp : Bool} {l : List (Nat × Lf)} {D : Disk} (h : TxNow B C w t mb x db p log m tm mk sp l D) (hl : l.length < 2147483648) :
    Calls Tryz.prog 31 #[.pointer (some ⟨t, 0, none⟩)] w fun e w' => e = .returned (.int .i64 (changedN l mk : Int)) ∧ w = w' := by
  have t0 := h.tx.c0; have t8 := h.tx.c8; have t9 := h.tx.c9; have h10 := h.dbi.c10
  have hpp := tx_neq_same w t
  have hmap := h.tx.map
  have g1 : (l.length : Int) < 2147483648 := by omega
  have HMAP : Hid (LeafMap w mb l) := hmap
  clear h hmap
  cases mk
  all_goals
    go_enter Tryz.func31, Tryz.ntmps31
    go_wp2_with (first
      | (at_len; refine wpList_len_own _ rfl _ 65 rfl 3 101 Tryz.underlying65 leafR mb l.length (mapD leafD l) rfl HMAP.out ?_; rw [mapD_size]))
    go_ret
    exact ⟨congrArg (fun x => Ending.returned (.int .i64 x)) (by simp [changedN]), rfl⟩
def Meta.root (m : Meta) (i : Int) : Nat := if i = 0 then m.r0 else if i = 1 then m.r1 else if i = 2 then m.r2 else if i = 3 then m.r3 else 0
def Meta.setRoot (m : Meta) (i : Int) (n : Nat) : Meta := if i = 0 then { m with r0 := n } else if i = 1 then { m with r1 := n } else if i = 2 then { m with r2 := n } else if i = 3 then { m with r3 := n } else m
set_option maxHeartbeats 400000 in
theorem tx_Root_shut {w : World} {v : Value} (h : Shut w v) (i : Int) : Calls Tryz.prog 29 #[v, .int .i64 i] w fun e w' => e = .returned (.int .i64 0) ∧ w = w' := by
  have hup := tx_up_shut h
  clear h
  go_enter Tryz.func29, Tryz.ntmps29
  go_wp2_with (first
    | (go_at_call 53; refine hup.mono ?_; rintro e w' ⟨rfl, rfl⟩))
  go_ret
  exact ⟨rfl, rfl⟩
set_option maxHeartbeats 1000000 in
set_option maxRecDepth 100000 in
theorem tx_Root {B C : Nat} {w : World} {t mb x db p log : Nat} {m tm : Meta} {mk sp : Bool} {l : List (Nat × Lf)} {D : Disk} (h : TxNow B C w t mb x db p log m tm mk sp l D) (i : Int) :
    Calls Tryz.prog 29 #[.pointer (some ⟨t, 0, none⟩), .int .i64 i] w fun e w' => e = .returned (.int .i64 (tm.root i : Int)) ∧ w = w' := by
  have hup := h.up
  have hc : i < 0 ∨ 4 ≤ i ∨ i = 0 ∨ i = 1 ∨ i = 2 ∨ i = 3 := by omega
  have c1 := cellAt h.tx.head 1 (int' tm.r0) rfl
  have c2 := cellAt h.tx.head 2 (int' tm.r1) rfl
  have c3 := cellAt h.tx.head 3 (int' tm.r2) rfl
  have c4 := cellAt h.tx.head 4 (int' tm.r3) rfl
  clear h
  rcases hc with hi | hi | rfl | rfl | rfl | rfl
  · have hr : tm.root i = 0 := by unfold Meta.root; rw [if_neg (by omega), if_neg (by omega), if_neg (by omega), if_neg (by omega)]
    rw [hr]
    clear hr
    go_enter Tryz.func29, Tryz.ntmps29
    go_wp2_with (first
      | (go_at_call 53; refine hup.mono ?_; rintro e w' ⟨rfl, rfl⟩))
    go_ret
    exact ⟨rfl, rfl⟩
  · have hr : tm.root i = 0 := by unfold Meta.root; rw [if_neg (by omega), if_neg (by omega), if_neg (by omega), if_neg (by omega)]
    rw [hr]
    clear hr
    have hi0 : ¬ i < 0 := by omega
    go_enter Tryz.func29, Tryz.ntmps29
    go_wp2_with (first
      | (go_at_call 53; refine hup.mono ?_; rintro e w' ⟨rfl, rfl⟩))
    go_ret
    exact ⟨rfl, rfl⟩
  all_goals
    go_enter Tryz.func29, Tryz.ntmps29
    go_wp2_with (first
      | (go_at_call 53; refine hup.mono ?_; rintro e w' ⟨rfl, rfl⟩))
    go_ret
    exact ⟨rfl, rfl⟩
set_option maxHeartbeats 400000 in
theorem tx_SetRoot_shut {w : World} {v : Value} (h : Shut w v) (i n : Int) : Calls Tryz.prog 30 #[v, .int .i64 i, .int .i64 n] w fun e w' => e = .returned (.int .i64 1) ∧ w = w' := by
  have hup := tx_up_shut h
  clear h
  go_enter Tryz.func30, Tryz.ntmps30
  go_wp2_with (first
    | (go_at_call 53; refine hup.mono ?_; rintro e w' ⟨rfl, rfl⟩))
  go_ret
  exact ⟨rfl, rfl⟩
set_option maxHeartbeats 1000000 in
set_option maxRecDepth 100000 in
theorem tx_SetRoot_arg {B C : Nat} {w : World} {t mb x db p log : Nat} {m tm : Meta} {mk sp : Bool} {l : List (Nat × Lf)} {D : Disk} (h : TxNow B C w t mb x db p log m tm mk sp l D) (i n : Int) (hc : i < 0 ∨ 4 ≤ i ∨ n < 0 ∨ 2147483648 ≤ n) :
    Calls Tryz.prog 30 #[.pointer (some ⟨t, 0, none⟩), .int .i64 i, .int .i64 n] w fun e w' => e = .returned (.int .i64 2) ∧ w = w' := by
  have hup := h.up
  clear h
  by_cases h1 : i < 0
  · clear hc
    go_enter Tryz.func30, Tryz.ntmps30
    go_wp2_with (first
      | (go_at_call 53; refine hup.mono ?_; rintro e w' ⟨rfl, rfl⟩))
    go_ret
    exact ⟨rfl, rfl⟩
  by_cases h2 : 4 ≤ i
  · clear hc
    go_enter Tryz.func30, Tryz.ntmps30
    go_wp2_with (first
      | (go_at_call 53; refine hup.mono ?_; rintro e w' ⟨rfl, rfl⟩))
    go_ret
    exact ⟨rfl, rfl⟩
  by_cases h3 : n < 0
  · clear hc
    go_enter Tryz.func30, Tryz.ntmps30
    go_wp2_with (first
      | (go_at_call 53; refine hup.mono ?_; rintro e w' ⟨rfl, rfl⟩))
    go_ret
    exact ⟨rfl, rfl⟩
  have h4 : 2147483648 ≤ n := by omega
  clear hc
  go_enter Tryz.func30, Tryz.ntmps30
  go_wp2_with (first
    | (go_at_call 53; refine hup.mono ?_; rintro e w' ⟨rfl, rfl⟩))
  go_ret
  exact ⟨rfl, rfl⟩
def TurnPost (B C : Nat) (w : World) (t mb x db p log : Nat) (m tm : Meta) (mk sp : Bool) (l : List (Nat × Lf)) (D : Disk) (r : Value) (e : Ending) (w' : World) : Prop :=
  e = .returned r ∧ TxNow B C w' t mb x db p log m tm mk sp l D ∧ Upd C txT w w'
set_option maxHeartbeats 1000000 in
set_option maxRecDepth 100000 in
theorem tx_SetRoot {B C : Nat} {w : World} {t mb x db p log : Nat} {m tm : Meta} {mk sp : Bool} {l : List (Nat × Lf)} {D : Disk} (h : TxNow B C w t mb x db p log m tm mk sp l D) (i n : Int) (hi0 : 0 ≤ i) (hi1 : i < 4) (hn0 : 0 ≤ n) (hn1 : n < 2147483648) :
    Calls Tryz.prog 30 #[.pointer (some ⟨t, 0, none⟩), .int .i64 i, .int .i64 n] w (TurnPost B C w t mb x db p log m (tm.setRoot i n.toNat) true sp l D (.int .i64 0)) := by
  have hup := h.up
  have hc : i = 0 ∨ i = 1 ∨ i = 2 ∨ i = 3 := by omega
  have c1 := cellAt h.tx.head 1 (int' tm.r0) rfl
  have c2 := cellAt h.tx.head 2 (int' tm.r1) rfl
  have c3 := cellAt h.tx.head 3 (int' tm.r2) rfl
  have c4 := cellAt h.tx.head 4 (int' tm.r3) rfl
  have t9 := h.tx.c9
  have f1 := h.tx.fr 1; have f2 := h.tx.fr 2; have f3 := h.tx.fr 3; have f4 := h.tx.fr 4; have f9 := h.tx.fr 9
  have hv : Value.int .i64 n = int' n.toNat := congrArg (Value.int .i64) (by omega)
  have HV := Lib.hid hv
  have H := Lib.hid h
  clear h hi0 hi1 hv
  rcases hc with rfl | rfl | rfl | rfl
  · go_enter Tryz.func30, Tryz.ntmps30
    go_wp2_with (first
      | (go_at_call 53; refine hup.mono ?_; rintro e w' ⟨rfl, rfl⟩))
    go_ret
    have k1 : TxIs C (w.setCell ⟨t, 1, none⟩ (.int .i64 n)) t x mb (tm.setRoot 0 n.toNat) mk sp l := H.out.tx.field 1 (.int .i64 n) (by rw [HV.out]; rfl)
    have k2 : TxIs C ((w.setCell ⟨t, 1, none⟩ (.int .i64 n)).setCell ⟨t, 9, none⟩ (.bool true)) t x mb (tm.setRoot 0 n.toNat) true sp l := k1.field 9 (.bool true) rfl
    have k3 : Upd C txT w ((w.setCell ⟨t, 1, none⟩ (.int .i64 n)).setCell ⟨t, 9, none⟩ (.bool true)) := k1.upd (H.out.tx.upd (Upd.refl _ _ _) rfl 1 _) rfl 9 _
    exact ⟨rfl, H.out.turn k3 k2, k3⟩
  · go_enter Tryz.func30, Tryz.ntmps30
    go_wp2_with (first
      | (go_at_call 53; refine hup.mono ?_; rintro e w' ⟨rfl, rfl⟩))
    go_ret
    have k1 : TxIs C (w.setCell ⟨t, 2, none⟩ (.int .i64 n)) t x mb (tm.setRoot 1 n.toNat) mk sp l := H.out.tx.field 2 (.int .i64 n) (by rw [HV.out]; rfl)
    have k2 : TxIs C ((w.setCell ⟨t, 2, none⟩ (.int .i64 n)).setCell ⟨t, 9, none⟩ (.bool true)) t x mb (tm.setRoot 1 n.toNat) true sp l := k1.field 9 (.bool true) rfl
    have k3 : Upd C txT w ((w.setCell ⟨t, 2, none⟩ (.int .i64 n)).setCell ⟨t, 9, none⟩ (.bool true)) := k1.upd (H.out.tx.upd (Upd.refl _ _ _) rfl 2 _) rfl 9 _
    exact ⟨rfl, H.out.turn k3 k2, k3⟩
  · go_enter Tryz.func30, Tryz.ntmps30
    go_wp2_with (first
      | (go_at_call 53; refine hup.mono ?_; rintro e w' ⟨rfl, rfl⟩))
    go_ret
    have k1 : TxIs C (w.setCell ⟨t, 3, none⟩ (.int .i64 n)) t x mb (tm.setRoot 2 n.toNat) mk sp l := H.out.tx.field 3 (.int .i64 n) (by rw [HV.out]; rfl)
    have k2 : TxIs C ((w.setCell ⟨t, 3, none⟩ (.int .i64 n)).setCell ⟨t, 9, none⟩ (.bool true)) t x mb (tm.setRoot 2 n.toNat) true sp l := k1.field 9 (.bool true) rfl
    have k3 : Upd C txT w ((w.setCell ⟨t, 3, none⟩ (.int .i64 n)).setCell ⟨t, 9, none⟩ (.bool true)) := k1.upd (H.out.tx.upd (Upd.refl _ _ _) rfl 3 _) rfl 9 _
    exact ⟨rfl, H.out.turn k3 k2, k3⟩
  · go_enter Tryz.func30, Tryz.ntmps30
    go_wp2_with (first
      | (go_at_call 53; refine hup.mono ?_; rintro e w' ⟨rfl, rfl⟩))
    go_ret
    have k1 : TxIs C (w.setCell ⟨t, 4, none⟩ (.int .i64 n)) t x mb (tm.setRoot 3 n.toNat) mk sp l := H.out.tx.field 4 (.int .i64 n) (by rw [HV.out]; rfl)
    have k2 : TxIs C ((w.setCell ⟨t, 4, none⟩ (.int .i64 n)).setCell ⟨t, 9, none⟩ (.bool true)) t x mb (tm.setRoot 3 n.toNat) true sp l := k1.field 9 (.bool true) rfl
    have k3 : Upd C txT w ((w.setCell ⟨t, 4, none⟩ (.int .i64 n)).setCell ⟨t, 9, none⟩ (.bool true)) := k1.upd (H.out.tx.upd (Upd.refl _ _ _) rfl 4 _) rfl 9 _
    exact ⟨rfl, H.out.turn k3 k2, k3⟩
end Go.Proofs.YthbbammibdhohaaGreatDoor

namespace Go.Proofs.YthbbammibdhohaaGreatDoor
open Go.RowKit Aq Go.Rgn Go.Maps

def LeafOk (p : Lf) : Prop := 1 ≤ p.1 ∧ p.1 ≤ 255 ∧ p.2.length ≤ 500
def PageAt (D : Disk) (log id : Nat) (p : Lf) : Prop := imgOf D log id = sealPage id p.1 p.2 ∧ LeafOk p
/-- what the disk has under a transaction's pages -/
structure TxOn (D : Disk) (log : Nat) (V : Nat → Lf) (tm : Meta) (l : List (Nat × Lf)) : Prop where
  room : log + tm.high * 8 ≤ D.kept.length
  page : ∀ id, 1 ≤ id → id < tm.high → getL id l = none → PageAt D log id (V id)
  leaf : ∀ id p, getL id l = some p → LeafOk p
def seeL (V : Nat → Lf) (l : List (Nat × Lf)) (id : Nat) : Lf := (getL id l).getD (V id)
def getS (V : Nat → Lf) (tm : Meta) (l : List (Nat × Lf)) (id : Int) : Lf × Int := if id < 1 ∨ (tm.high : Int) ≤ id then ((0, []), 2) else (seeL V l id.toNat, 0)
def LeafPost (w : World) (r : Lf × Int) (e : Ending) (w' : World) : Prop := e = .returned (.tuple #[leafV r.1, .int .i64 r.2]) ∧ Below w.heap.size w w'
theorem leafOne (p : Lf) : ∀ v ∈ [int' p.1, tx p.2], v.oneCell' = true := by
  intro v hv; simp only [List.mem_cons, List.not_mem_nil, or_false] at hv; rcases hv with rfl | rfl <;> rfl
theorem leaf_ret {fn : Func} {R : Ending → World → Prop} {a : Act} {w : World} (x u g : Nat) (p : Lf) (k : Int) (hr : fn.results = #[.cell x 101, .tmp u]) (hx : a.tmps.getD x undef = .pointer (some ⟨g, 0, none⟩)) (hu : a.tmps.getD u undef = .int .i64 k)
    (hg : w.heap[g]? = some (.cells #[int' p.1, tx p.2] 101 (0, 0))) (hd : a.defers = []) (hR : R (.returned (.tuple #[leafV p, .int .i64 k])) w) : bodyPost Tryz.prog fn R .ret a w := by
  refine bodyPost_ret (results_cell2 x 101 u hr g hx [int' p.1, tx p.2] _ _ hg (by kernel_rfl)) hd ?_
  rw [hu]; exact hR
theorem below_setRow {B : Nat} {w w' : World} (h : Below B w w') {g : Nat} (hg : B ≤ g) (cs : Array Value) : Below B w (w'.setRow g cs) :=
  ⟨h.os, h.tape, h.output, by simpa using h.size, fun k hk => by rw [setRow_other _ _ _ _ (by omega)]; exact h.block k hk⟩
set_option maxHeartbeats 1000000 in
set_option maxRecDepth 100000 in
theorem tx_get {B C : Nat} {w : World} {t mb x db p log : Nat} {m tm : Meta} {mk sp : Bool} {l : List (Nat × Lf)} {D : Disk} (h : TxNow B C w t mb x db p log m tm mk sp l D) (V : Nat → Lf) (hon : TxOn D log V tm l) (hhi : tm.high < 2147483648) (id : Int)
    (hH : HalfAt w) (hB : 0 < w.heap.size) :
    Calls Tryz.prog 59 #[.pointer (some ⟨t, 0, none⟩), .int .i64 id] w (LeafPost w (getS V tm l id)) := by
  have t5 := h.tx.c5
  have htl := lt_of_some h.tx.head
  by_cases h1 : id < 1
  · have hr : getS V tm l id = ((0, []), 2) := by unfold getS; rw [if_pos (.inl h1)]
    rw [hr]
    clear h hon hr
    go_enter Tryz.func59, Tryz.ntmps59
    go_wp2_with (first
      | (with_reducible refine wpList_store_new rfl 101 (.tmp 4) (.tmp 23) rfl 101 _ rfl [int' 0, tx []] rfl (by kernel_rfl) rfl (leafOne (0, [])) ?_))
    exact leaf_ret 4 5 w.heap.size (0, []) 2 rfl rfl rfl (heap_alloc_new w _) rfl ⟨rfl, (Below.refl _ w).alloc (Nat.le_refl _) _⟩
  by_cases h2 : (tm.high : Int) ≤ id
  · have hr : getS V tm l id = ((0, []), 2) := by unfold getS; rw [if_pos (.inr h2)]
    rw [hr]
    clear h hon hr
    go_enter Tryz.func59, Tryz.ntmps59
    go_wp2_with (first
      | (with_reducible refine wpList_store_new rfl 101 (.tmp 4) (.tmp 23) rfl 101 _ rfl [int' 0, tx []] rfl (by kernel_rfl) rfl (leafOne (0, [])) ?_))
    exact leaf_ret 4 5 w.heap.size (0, []) 2 rfl rfl rfl (heap_alloc_new w _) rfl ⟨rfl, (Below.refl _ w).alloc (Nat.le_refl _) _⟩
  obtain ⟨i, rfl⟩ : ∃ i : Nat, id = (i : Int) := ⟨id.toNat, by omega⟩
  have hr : getS V tm l (i : Int) = (seeL V l i, 0) := by unfold getS; rw [if_neg (by omega), Int.toNat_natCast]
  rw [hr]
  have t8 := h.tx.c8
  have hb0 : Below w.heap.size w (w.alloc (.cells #[.int .i64 0, .string ⟨#[]⟩] 101)) := (Below.refl _ w).alloc (Nat.le_refl _) _
  have hlk := ((h.below hb0).tx.map).look i (by omega)
  cases hg : getL i l with
  | some p =>
    rw [hg] at hlk
    have hse : seeL V l i = p := by unfold seeL; rw [hg]; rfl
    rw [hse]
    have hlk2 : (Instr.lookup 65 (.map (some mb)) (.int .i64 (i : Int)) true).run Tryz.prog (w.alloc (.cells #[.int .i64 0, .string ⟨#[]⟩] 101)) = .ok (.tuple #[.agg #[int' p.1, tx p.2], .bool true]) (w.alloc (.cells #[.int .i64 0, .string ⟨#[]⟩] 101)) := hlk
    clear h hon hr hlk hb0 hg hse
    go_enter Tryz.func59, Tryz.ntmps59
    go_wp2_with (first
      | (with_reducible refine wpList_store_new rfl 101 (.tmp 6) (.tmp 31) rfl 101 _ rfl [int' p.1, tx p.2] rfl (by kernel_rfl) rfl (leafOne p) ?_))
    exact leaf_ret 4 5 w.heap.size p 0 rfl rfl rfl ((Below.heap_alloc _ _ _ (by simp)).trans (heap_alloc_new w _)) rfl ⟨rfl, ((Below.refl _ w).alloc (Nat.le_refl _) _).alloc (by simp) _⟩
  | none =>
    rw [hg] at hlk
    have hse : seeL V l i = V i := by unfold seeL; rw [hg]; rfl
    rw [hse]
    have hlk2 : (Instr.lookup 65 (.map (some mb)) (.int .i64 (i : Int)) true).run Tryz.prog (w.alloc (.cells #[.int .i64 0, .string ⟨#[]⟩] 101)) = .ok (.tuple #[.agg #[.int .i64 0, .string ⟨#[]⟩], .bool false]) (w.alloc (.cells #[.int .i64 0, .string ⟨#[]⟩] 101)) := hlk
    obtain ⟨him, hlo⟩ := hon.page i (by omega) (by omega) hg
    have himg : ∀ w1, Below w.heap.size w w1 → Calls Tryz.prog 46 #[.pointer (some ⟨x, 0, none⟩), .int .i64 (i : Int)] w1 (ImgPost w1 (sealPage i (V i).1 (V i).2)) := fun w1 hb => by
      have h3 := db_image (h.below hb).dbi (h.below hb).disk h.dn i (by have := hon.room; omega)
      rw [him] at h3
      exact h3
    have hop : ∀ w2, Below w.heap.size w w2 → Calls Tryz.prog 48 #[.int .i64 (i : Int), tx (sealPage i (V i).1 (V i).2)] w2 (POpenPost w2 (V i).1 (V i).2) := fun w2 hb =>
      page_Open w2 (hH.below hb hB) (Nat.lt_of_lt_of_le hB hb.size) i (V i).1 (V i).2 ⟨(sealPage i (V i).1 (V i).2).toArray⟩ rfl (by omega) hlo.1 hlo.2.1 hlo.2.2
    have t0 := h.tx.c0
    obtain ⟨z, hz⟩ : ∃ z, z = sealPage i (V i).1 (V i).2 := ⟨_, rfl⟩
    rw [← hz] at himg hop
    obtain ⟨q, hq⟩ : ∃ q, q = V i := ⟨_, rfl⟩
    rw [← hq] at hop ⊢
    have HIM := Lib.hid himg; have HOP := Lib.hid hop
    have hb1 : Below w.heap.size w ((w.alloc (.cells #[.int .i64 0, .string ⟨#[]⟩] 101)).alloc (.cells #[.int .i64 0, .string ⟨#[]⟩] 101)) := hb0.alloc (by simp) _
    have HB1 := Lib.hid hb1
    clear h hon hr hlk hb0 hg hse him hlo himg hop hH hz hq hb1
    go_enter Tryz.func59, Tryz.ntmps59
    go_wp2_with (first
      | (go_at_call 46; go_must (refine (HIM.out _ HB1.out).mono ?_; rintro e w2 ⟨rfl, hb2⟩; have HB2 := Lib.hid hb2; clear hb2))
      | (go_at_call 48; go_must (refine (HOP.out _ (HB1.out.trans (HB2.out.mono HB1.out.size))).mono ?_; rintro e w3 ⟨rfl, hb3⟩; have hb13 := HB2.out.trans (hb3.mono HB2.out.size); have HB3 := Lib.hid hb13; have HZ := Lib.hid ((hb13.block w.heap.size (by simp; omega)).trans ((Below.heap_alloc _ _ _ (by simp)).trans (heap_alloc_new w (.cells #[.int .i64 0, .string ⟨#[]⟩] 101)))); clear hb3 hb13))
      | (with_reducible refine wpList_store_mid rfl 101 (.tmp 4) (.tmp 57) rfl w.heap.size 0 rfl [int' q.1, tx q.2] rfl 101 #[.int .i64 0, .string ⟨#[]⟩] (by kernel_rfl) HZ.out (Nat.le_of_ble_eq_true rfl) (leafOne q) ?_))
    exact leaf_ret 4 5 w.heap.size q 0 rfl rfl rfl (setRow_heap _ _ _ _ _ _ HZ.out) rfl ⟨rfl, below_setRow (HB1.out.trans (HB3.out.mono HB1.out.size)) (Nat.le_refl _) _⟩
theorem zero_kept {w w1 : World} {o : Obj} (h : Below (w.alloc o).heap.size (w.alloc o) w1) : ∀ u, (w1.alloc u).heap[w.heap.size]? = some o := fun u => by
  have h1 : w.heap.size < w1.heap.size := Nat.lt_of_lt_of_le (by simp) h.size
  rw [Below.heap_alloc _ _ _ h1]
  exact (h.block w.heap.size (by simp)).trans (heap_alloc_new w o)
def thereS (V : Nat → Lf) (tm : Meta) (l : List (Nat × Lf)) (id : Int) : Lf × Int := if (getS V tm l id).2 = 0 ∧ (getS V tm l id).1.1 = 255 then ((0, []), 8) else getS V tm l id
theorem getS_code (V : Nat → Lf) (tm : Meta) (l : List (Nat × Lf)) (id : Int) : (getS V tm l id).2 = 0 ∨ (getS V tm l id).2 = 2 := by
  unfold getS; split
  · exact .inr rfl
  · exact .inl rfl
set_option maxHeartbeats 1000000 in
set_option maxRecDepth 100000 in
theorem tx_there {B C : Nat} {w : World} {t mb x db p log : Nat} {m tm : Meta} {mk sp : Bool} {l : List (Nat × Lf)} {D : Disk} (h : TxNow B C w t mb x db p log m tm mk sp l D) (V : Nat → Lf) (hon : TxOn D log V tm l) (hhi : tm.high < 2147483648) (id : Int)
    (hH : HalfAt w) (hB : 0 < w.heap.size) :
    Calls Tryz.prog 52 #[.pointer (some ⟨t, 0, none⟩), .int .i64 id] w (LeafPost w (thereS V tm l id)) := by
  have hb0 : Below w.heap.size w (w.alloc (.cells #[.int .i64 0, .string ⟨#[]⟩] 101)) := (Below.refl _ w).alloc (Nat.le_refl _) _
  have hup := (h.below hb0).up
  have hget := tx_get (h.below hb0) V hon hhi id (hH.below hb0 hB) (Nat.lt_of_lt_of_le hB hb0.size)
  have hcode := getS_code V tm l id
  obtain ⟨r, hr⟩ : ∃ r, r = getS V tm l id := ⟨_, rfl⟩
  have hth : thereS V tm l id = if r.2 = 0 ∧ r.1.1 = 255 then ((0, []), 8) else r := by rw [hr]; rfl
  rw [hth]
  rw [← hr] at hget hcode
  obtain ⟨⟨k, b⟩, c⟩ := r
  have HB0 := Lib.hid hb0
  clear h hon hb0 hth hr hH
  have hget2 : Calls Tryz.prog 59 #[.pointer (some ⟨t, 0, none⟩), .int .i64 id] (w.alloc (.cells #[.int .i64 0, .string ⟨#[]⟩] 101)) fun e w' => e = .returned (.tuple #[.agg #[int' k, tx b], .int .i64 c]) ∧ Below (w.alloc (.cells #[.int .i64 0, .string ⟨#[]⟩] 101)).heap.size (w.alloc (.cells #[.int .i64 0, .string ⟨#[]⟩] 101)) w' := hget
  clear hget
  have hcode2 : c = 0 ∨ c = 2 := hcode
  clear hcode
  rcases hcode2 with rfl | rfl
  · by_cases hk : k = 255
    · subst hk
      rw [if_pos ⟨rfl, rfl⟩]
      go_enter Tryz.func52, Tryz.ntmps52
      go_wp2_with (first
        | (go_at_call 53; refine hup.mono ?_; rintro e w' ⟨rfl, rfl⟩)
        | (go_at_call 59; go_must (refine hget2.mono ?_; rintro e w1 ⟨rfl, hb1⟩; have HB1 := Lib.hid hb1; have HZ := Lib.hid (zero_kept hb1); clear hb1))
        | (with_reducible refine wpList_store_mid rfl 101 (.tmp 4) (.tmp 28) rfl w.heap.size 0 rfl [int' 0, tx []] rfl 101 #[.int .i64 0, .string ⟨#[]⟩] (by kernel_rfl) (HZ.out _) (Nat.le_of_ble_eq_true rfl) (leafOne (0, [])) ?_))
      exact leaf_ret 4 5 w.heap.size (0, []) 8 rfl rfl rfl (setRow_heap _ _ _ _ _ _ (HZ.out _)) rfl ⟨rfl, below_setRow ((HB0.out.trans (HB1.out.mono HB0.out.size)).alloc (Nat.le_trans HB0.out.size HB1.out.size) _) (Nat.le_refl _) _⟩
    · rw [if_neg (fun h => hk h.2)]
      have g1 : ((k : Int) == 255) = false := by simp; omega
      have g2 : ¬ (k : Int) = 255 := by omega
      go_enter Tryz.func52, Tryz.ntmps52
      go_wp2_with (first
        | (go_at_call 53; refine hup.mono ?_; rintro e w' ⟨rfl, rfl⟩)
        | (go_at_call 59; go_must (refine hget2.mono ?_; rintro e w1 ⟨rfl, hb1⟩; have HB1 := Lib.hid hb1; have HZ := Lib.hid (zero_kept hb1); clear hb1))
        | (with_reducible refine wpList_store_mid rfl 101 (.tmp 4) (.tmp 29) rfl w.heap.size 0 rfl [int' k, tx b] rfl 101 #[.int .i64 0, .string ⟨#[]⟩] (by kernel_rfl) (HZ.out _) (Nat.le_of_ble_eq_true rfl) (leafOne (k, b)) ?_))
      exact leaf_ret 4 5 w.heap.size (k, b) 0 rfl rfl rfl (setRow_heap _ _ _ _ _ _ (HZ.out _)) rfl ⟨rfl, below_setRow ((HB0.out.trans (HB1.out.mono HB0.out.size)).alloc (Nat.le_trans HB0.out.size HB1.out.size) _) (Nat.le_refl _) _⟩
  · rw [if_neg (fun h => absurd (show (2 : Int) = 0 from h.1) (by decide))]
    · skip
      go_enter Tryz.func52, Tryz.ntmps52
      go_wp2_with (first
        | (go_at_call 53; refine hup.mono ?_; rintro e w' ⟨rfl, rfl⟩)
        | (go_at_call 59; go_must (refine hget2.mono ?_; rintro e w1 ⟨rfl, hb1⟩; have HB1 := Lib.hid hb1; have HZ := Lib.hid (zero_kept hb1); clear hb1))
        | (with_reducible refine wpList_store_mid rfl 101 (.tmp 4) (.tmp 29) rfl w.heap.size 0 rfl [int' k, tx b] rfl 101 #[.int .i64 0, .string ⟨#[]⟩] (by kernel_rfl) (HZ.out _) (Nat.le_of_ble_eq_true rfl) (leafOne (k, b)) ?_))
      exact leaf_ret 4 5 w.heap.size (k, b) 2 rfl rfl rfl (setRow_heap _ _ _ _ _ _ (HZ.out _)) rfl ⟨rfl, below_setRow ((HB0.out.trans (HB1.out.mono HB0.out.size)).alloc (Nat.le_trans HB0.out.size HB1.out.size) _) (Nat.le_refl _) _⟩
end Go.Proofs.YthbbammibdhohaaGreatDoor

namespace Go.Proofs.YthbbammibdhohaaGreatDoor
open Go.RowKit Aq Go.Rgn

def upd {α : Type} (U : Nat → α) (i : Nat) (v : α) : Nat → α := fun j => if j = i then v else U j
theorem upd_same {α : Type} (U : Nat → α) (i : Nat) (v : α) : upd U i v i = v := if_pos rfl
theorem upd_other {α : Type} (U : Nat → α) {i j : Nat} (v : α) (h : j ≠ i) : upd U i v j = U j := if_neg h
def Linked (U : Nat → Lf) : List Nat → Prop
  | [] => True
  | i :: r => U i = (255, num (r.headD 0) 4) ∧ Linked U r
theorem linked_congr {U U2 : Nat → Lf} : ∀ {fs : List Nat}, (∀ i ∈ fs, U2 i = U i) → Linked U fs → Linked U2 fs := by
  intro fs
  induction fs with
  | nil => intro _ _; trivial
  | cons i r ih =>
    intro h hl
    exact ⟨by rw [h i (List.mem_cons_self ..)]; exact hl.1, ih (fun j hj => h j (List.mem_cons_of_mem _ hj)) hl.2⟩
theorem linked_mem {U : Nat → Lf} : ∀ {fs : List Nat} {i : Nat}, Linked U fs → i ∈ fs → ∃ n, U i = (255, num n 4) := by
  intro fs
  induction fs with
  | nil => intro i _ h; cases h
  | cons j r ih =>
    intro i hl h
    rcases List.mem_cons.1 h with rfl | h
    · exact ⟨_, hl.1⟩
    · exact ih hl.2 h
/-- what a database has: its meta, its pages, the free ones, the last one first -/
structure Good (cnt : Nat) (m : Meta) (U : Nat → Lf) (fs : List Nat) : Prop where
  mok : m.Ok
  h1 : 1 ≤ m.high
  hc : m.high ≤ cnt
  cmax : cnt ≤ 65536
  nodup : fs.Nodup
  mem : ∀ i ∈ fs, 1 ≤ i ∧ i < m.high
  head : m.free = fs.headD 0
  count : m.count = fs.length
  link : Linked U fs
  page : ∀ i, 1 ≤ i → i < m.high → i ∉ fs → 1 ≤ (U i).1 ∧ (U i).1 ≤ 254 ∧ (U i).2.length ≤ 500
theorem nodup_len : ∀ (n : Nat) (fs : List Nat), fs.Nodup → (∀ i ∈ fs, 1 ≤ i ∧ i ≤ n) → fs.length ≤ n := by
  intro n
  induction n with
  | zero =>
    intro fs _ h
    cases fs with
    | nil => exact Nat.le_refl _
    | cons i r => have := h i (List.mem_cons_self ..); omega
  | succ n ih =>
    intro fs hn h
    by_cases hm : n + 1 ∈ fs
    · have h1 := ih (fs.erase (n + 1)) (hn.erase _) fun i hi => by
        have h2 := (hn.mem_erase_iff).1 hi
        have := h i h2.2
        have := h2.1
        omega
      rw [List.length_erase_of_mem hm] at h1
      omega
    · have h1 := ih fs hn fun i hi => by
        have := h i hi
        have h3 : i ≠ n + 1 := fun e => hm (by rw [← e]; exact hi)
        omega
      omega
theorem Good.few {cnt : Nat} {m : Meta} {U : Nat → Lf} {fs : List Nat} (h : Good cnt m U fs) : fs.length < m.high := by
  have h1 := nodup_len (m.high - 1) fs h.nodup fun i hi => by have := h.mem i hi; omega
  have := h.h1
  omega
theorem Good.leaf {cnt : Nat} {m : Meta} {U : Nat → Lf} {fs : List Nat} (h : Good cnt m U fs) (i : Nat) (hi : 1 ≤ i) (hi2 : i < m.high) : LeafOk (U i) := by
  by_cases hf : i ∈ fs
  · obtain ⟨n, hn⟩ := linked_mem h.link hf
    rw [hn]; exact ⟨by show 1 ≤ 255; decide, by show 255 ≤ 255; decide, by show (num n 4).length ≤ _; rw [num_len]; decide⟩
  · have := h.page i hi hi2 hf
    exact ⟨this.1, by omega, this.2.2⟩
theorem Good.congr {cnt : Nat} {m : Meta} {U U2 : Nat → Lf} {fs : List Nat} (h : Good cnt m U fs) (he : ∀ i, 1 ≤ i → i < m.high → U2 i = U i) : Good cnt m U2 fs :=
  ⟨h.mok, h.h1, h.hc, h.cmax, h.nodup, h.mem, h.head, h.count, linked_congr (fun i hi => he i (h.mem i hi).1 (h.mem i hi).2) h.link, fun i h1 h2 h3 => by rw [he i h1 h2]; exact h.page i h1 h2 h3⟩
theorem good_new {cnt : Nat} (U : Nat → Lf) (h : 4 ≤ cnt) (h2 : cnt ≤ 65536) : Good cnt meta0 U [] :=
  ⟨⟨by decide, by decide, by decide, by decide, by decide, by decide, by decide⟩, by decide, by show 1 ≤ cnt; omega, h2, List.nodup_nil, (fun i hi => by cases hi), rfl, rfl, trivial, fun i h1 h2 _ => by have h3 : i < 1 := h2; omega⟩
/-- a page is laid where none is free -/
def allocA (cnt : Nat) (m : Meta) : List Nat → Option (Nat × Meta × List Nat)
  | i :: r => some (i, { m with free := r.headD 0, count := m.count - 1 }, r)
  | [] => if m.high = cnt then none else some (m.high, { m with high := m.high + 1 }, [])
theorem Good.alloc {cnt : Nat} {m m2 : Meta} {U : Nat → Lf} {fs fs2 : List Nat} {i : Nat} (h : Good cnt m U fs) (ha : allocA cnt m fs = some (i, m2, fs2)) : Good cnt m2 (upd U i (1, [])) fs2 ∧ 1 ≤ i ∧ i < m2.high ∧ m.high ≤ m2.high ∧ m2.high ≤ m.high + 1 ∧ (m.high < m2.high → i = m.high) := by
  cases fs with
  | cons j r =>
    injection ha with ha
    injection ha with ha1 ha
    injection ha with ha2 ha3
    subst ha1 ha2 ha3
    have hj := h.mem j (List.mem_cons_self ..)
    have hn := List.nodup_cons.1 h.nodup
    have hne : ∀ k ∈ r, k ≠ j := fun k hk e => hn.1 (e ▸ hk)
    have hr : r.headD 0 < 2147483648 := by
      cases r with
      | nil => decide
      | cons k r => have := h.mem k (List.mem_cons_of_mem _ (List.mem_cons_self ..)); have := h.mok.high; show k < _; omega
    have hcl := h.count
    rw [List.length_cons] at hcl
    refine ⟨⟨⟨h.mok.r0, h.mok.r1, h.mok.r2, h.mok.r3, h.mok.high, hr, by have := h.mok.count; show m.count - 1 < _; omega⟩, h.h1, h.hc, h.cmax, hn.2, fun k hk => h.mem k (List.mem_cons_of_mem _ hk), rfl, by show m.count - 1 = _; omega,
      linked_congr (fun k hk => upd_other U _ (hne k hk)) h.link.2, fun k h1 h2 h3 => ?_⟩, hj.1, hj.2, Nat.le_refl _, Nat.le_succ _, fun hlt => absurd hlt (Nat.lt_irrefl _)⟩
    by_cases hk : k = j
    · subst hk; rw [upd_same]; exact ⟨by decide, by decide, Nat.zero_le _⟩
    · rw [upd_other U _ hk]
      exact h.page k h1 h2 fun hm => by
        rcases List.mem_cons.1 hm with e | hm
        · exact hk e
        · exact h3 hm
  | nil =>
    have ha : (if m.high = cnt then none else some (m.high, { m with high := m.high + 1 }, [])) = some (i, m2, fs2) := ha
    by_cases hne : m.high = cnt
    · rw [if_pos hne] at ha; cases ha
    · rw [if_neg hne] at ha
      injection ha with ha
      injection ha with ha1 ha
      injection ha with ha2 ha3
      subst ha1 ha2 ha3
      have hc := h.hc
      have hcm := h.cmax
      refine ⟨⟨⟨h.mok.r0, h.mok.r1, h.mok.r2, h.mok.r3, by show m.high + 1 < _; omega, h.mok.free, h.mok.count⟩, Nat.le_succ_of_le h.h1, by show m.high + 1 ≤ cnt; omega, h.cmax, List.nodup_nil, (fun k hk => by cases hk), h.head, h.count, trivial, fun k h1 h2 h3 => ?_⟩, h.h1, Nat.lt_succ_self _, Nat.le_succ _, Nat.le_refl _, fun _ => rfl⟩
      by_cases hk : k = m.high
      · subst hk; rw [upd_same]; exact ⟨by decide, by decide, Nat.zero_le _⟩
      · rw [upd_other U _ hk]
        have h4 : k < m.high + 1 := h2
        exact h.page k h1 (by omega) h3
/-- which error a page has that is not there -/
def thereA (m : Meta) (fs : List Nat) (id : Int) : Int := if id < 1 ∨ (m.high : Int) ≤ id then 2 else if id.toNat ∈ fs then 8 else 0
theorem thereA_zero {m : Meta} {fs : List Nat} {id : Int} (h : thereA m fs id = 0) : 1 ≤ id.toNat ∧ id.toNat < m.high ∧ id.toNat ∉ fs ∧ id = (id.toNat : Int) := by
  unfold thereA at h
  split at h
  · cases h
  · split at h
    · cases h
    · exact ⟨by omega, by omega, ‹_›, by omega⟩
theorem Good.freed {cnt : Nat} {m : Meta} {U : Nat → Lf} {fs : List Nat} (h : Good cnt m U fs) {i : Nat} (h1 : 1 ≤ i) (h2 : i < m.high) (h3 : i ∉ fs) : Good cnt { m with free := i, count := m.count + 1 } (upd U i (255, num m.free 4)) (i :: fs) := by
  have hm := h.mok.high
  have hf := h.few
  have hcl := h.count
  refine ⟨⟨h.mok.r0, h.mok.r1, h.mok.r2, h.mok.r3, h.mok.high, by show i < _; omega, by show m.count + 1 < _; omega⟩, h.h1, h.hc, h.cmax, List.nodup_cons.2 ⟨h3, h.nodup⟩, fun k hk => ?_, rfl, by show m.count + 1 = _; rw [List.length_cons]; omega, ⟨?_, ?_⟩, fun k k1 k2 k3 => ?_⟩
  · rcases List.mem_cons.1 hk with rfl | hk
    · exact ⟨h1, h2⟩
    · exact h.mem k hk
  · rw [upd_same, h.head]
  · exact linked_congr (fun k hk => upd_other U _ fun e => by subst e; exact h3 hk) h.link
  · rw [upd_other U _ fun e => by subst e; exact k3 (List.mem_cons_self ..)]
    exact h.page k k1 k2 fun hm => k3 (List.mem_cons_of_mem _ hm)
theorem Good.wrote {cnt : Nat} {m : Meta} {U : Nat → Lf} {fs : List Nat} (h : Good cnt m U fs) {i : Nat} (h3 : i ∉ fs) {p : Lf} (hp : 1 ≤ p.1 ∧ p.1 ≤ 254 ∧ p.2.length ≤ 500) : Good cnt m (upd U i p) fs := by
  refine ⟨h.mok, h.h1, h.hc, h.cmax, h.nodup, h.mem, h.head, h.count, linked_congr (fun k hk => upd_other U _ fun e => by subst e; exact h3 hk) h.link, fun k k1 k2 k3 => ?_⟩
  by_cases hk : k = i
  · subst hk; rw [upd_same]; exact hp
  · rw [upd_other U _ hk]; exact h.page k k1 k2 k3
theorem setRoot_eq (m : Meta) (i : Int) (n : Nat) : (m.setRoot i n).high = m.high ∧ (m.setRoot i n).free = m.free ∧ (m.setRoot i n).count = m.count := by
  unfold Meta.setRoot
  split
  · exact ⟨rfl, rfl, rfl⟩
  split
  · exact ⟨rfl, rfl, rfl⟩
  split
  · exact ⟨rfl, rfl, rfl⟩
  split
  · exact ⟨rfl, rfl, rfl⟩
  · exact ⟨rfl, rfl, rfl⟩
theorem Good.root {cnt : Nat} {m : Meta} {U : Nat → Lf} {fs : List Nat} (h : Good cnt m U fs) (i : Int) {n : Nat} (hn : n < 2147483648) : Good cnt (m.setRoot i n) U fs := by
  obtain ⟨e1, e2, e3⟩ := setRoot_eq m i n
  have hk := h.mok
  refine ⟨?_, by rw [e1]; exact h.h1, by rw [e1]; exact h.hc, h.cmax, h.nodup, by rw [e1]; exact h.mem, by rw [e2]; exact h.head, by rw [e3]; exact h.count, h.link, by rw [e1]; exact h.page⟩
  unfold Meta.setRoot
  split
  · exact ⟨hn, hk.r1, hk.r2, hk.r3, hk.high, hk.free, hk.count⟩
  split
  · exact ⟨hk.r0, hn, hk.r2, hk.r3, hk.high, hk.free, hk.count⟩
  split
  · exact ⟨hk.r0, hk.r1, hn, hk.r3, hk.high, hk.free, hk.count⟩
  split
  · exact ⟨hk.r0, hk.r1, hk.r2, hn, hk.high, hk.free, hk.count⟩
  · exact hk
end Go.Proofs.YthbbammibdhohaaGreatDoor

namespace Go.Proofs.YthbbammibdhohaaGreatDoor
open Go.RowKit Aq Go.Rgn Go.Maps

theorem Shut.below {w w' : World} {v : Value} (h : Shut w v) (hb : ∀ (k : Nat) (o : Obj), w.heap[k]? = some o → w'.heap[k]? = some o) : Shut w' v := by
  have hc : ∀ p v, w.cell? p = some v → w'.cell? p = some v := by
    intro p v hp
    unfold World.cell? at hp ⊢
    cases ho : w.heap[p.block]? with
    | none => rw [ho] at hp; cases hp
    | some o => rw [hb _ _ ho]; rw [ho] at hp; exact hp
  rcases h with rfl | ⟨t, rfl, h0 | ⟨x, y, h0, h1, rfl | ⟨u, rfl, hne, cu, ct, hu, ht⟩⟩⟩
  · exact .inl rfl
  · exact .inr ⟨t, rfl, .inl (hc _ _ h0)⟩
  · exact .inr ⟨t, rfl, .inr ⟨x, _, hc _ _ h0, hc _ _ h1, .inl rfl⟩⟩
  · exact .inr ⟨t, rfl, .inr ⟨x, _, hc _ _ h0, hc _ _ h1, .inr ⟨u, rfl, hne, cu, ct, hb _ _ hu, hb _ _ ht⟩⟩⟩
theorem Shut.of_below {w w' : World} {v : Value} (h : Shut w v) (hb : Below w.heap.size w w') : Shut w' v := h.below fun k _ hk => (hb.block k (lt_of_some hk)).trans hk
set_option maxHeartbeats 1000000 in
set_option maxRecDepth 100000 in
theorem tx_there_shut {w : World} {v : Value} (h : Shut w v) (id : Int) : Calls Tryz.prog 52 #[v, .int .i64 id] w (LeafPost w ((0, []), 1)) := by
  have hb0 : Below w.heap.size w (w.alloc (.cells #[.int .i64 0, .string ⟨#[]⟩] 101)) := (Below.refl _ w).alloc (Nat.le_refl _) _
  have hup := tx_up_shut (h.of_below hb0)
  clear h hb0
  go_enter Tryz.func52, Tryz.ntmps52
  go_wp2_with (first
    | (go_at_call 53; refine hup.mono ?_; rintro e w' ⟨rfl, rfl⟩))
  exact leaf_ret 4 5 w.heap.size (0, []) 1 rfl rfl rfl (heap_alloc_new w _) rfl ⟨rfl, (Below.refl _ w).alloc (Nat.le_refl _) _⟩
def PgPost (w : World) (r : Lf × Int) (e : Ending) (w' : World) : Prop := e = .returned (.tuple #[int' r.1.1, tx r.1.2, .int .i64 r.2]) ∧ Below w.heap.size w w'
theorem thereS_code (V : Nat → Lf) (tm : Meta) (l : List (Nat × Lf)) (id : Int) : (thereS V tm l id).2 = 0 ∨ ((thereS V tm l id).1 = (0, []) ∧ ((thereS V tm l id).2 = 2 ∨ (thereS V tm l id).2 = 8)) := by
  unfold thereS
  split
  · exact .inr ⟨rfl, .inr rfl⟩
  · unfold getS
    split
    · exact .inr ⟨rfl, .inl rfl⟩
    · exact .inl rfl
theorem txr_of {w : World} {v : Value} {id : Int} {r : Lf × Int} (hc : r.2 = 0 ∨ (r.1 = (0, []) ∧ r.2 ≠ 0)) (h : Calls Tryz.prog 52 #[v, .int .i64 id] w (LeafPost w r)) :
    Calls Tryz.prog 18 #[v, .int .i64 id] w (PgPost w r) := by
  obtain ⟨⟨k, b⟩, c⟩ := r
  have h2 : Calls Tryz.prog 52 #[v, .int .i64 id] w fun e w' => e = .returned (.tuple #[.agg #[int' k, tx b], .int .i64 c]) ∧ Below w.heap.size w w' := h
  clear h
  by_cases h0 : c = 0
  · subst h0
    clear hc
    go_enter Tryz.func18, Tryz.ntmps18
    go_wp2_with (first
      | (go_at_call 52; go_must (refine h2.mono ?_; rintro e w1 ⟨rfl, hb1⟩; have HB1 := Lib.hid hb1; clear hb1)))
    go_quiet (fail)
    go_wp2
    go_ret3
    exact ⟨rfl, ((HB1.out.alloc HB1.out.size _)).trans ⟨rfl, rfl, rfl, Nat.le_refl _, fun _ _ => rfl⟩⟩
  · have hb : (c != 0) = true := by simpa using h0
    have hkb : k = 0 ∧ b = [] := by
      rcases hc with hc | hc
      · exact absurd hc h0
      · have := hc.1; simp only [Prod.mk.injEq] at this; exact this
    obtain ⟨rfl, rfl⟩ := hkb
    clear hc
    go_enter Tryz.func18, Tryz.ntmps18
    go_wp2_with (first
      | (go_at_call 52; go_must (refine h2.mono ?_; rintro e w1 ⟨rfl, hb1⟩; have HB1 := Lib.hid hb1; clear hb1)))
    go_ret3
    exact ⟨rfl, HB1.out.alloc HB1.out.size _⟩
theorem tx_Read {B C : Nat} {w : World} {t mb x db p log : Nat} {m tm : Meta} {mk sp : Bool} {l : List (Nat × Lf)} {D : Disk} (h : TxNow B C w t mb x db p log m tm mk sp l D) (V : Nat → Lf) (hon : TxOn D log V tm l) (hhi : tm.high < 2147483648) (id : Int)
    (hH : HalfAt w) (hB : 0 < w.heap.size) :
    Calls Tryz.prog 18 #[.pointer (some ⟨t, 0, none⟩), .int .i64 id] w (PgPost w (thereS V tm l id)) :=
  txr_of ((thereS_code V tm l id).imp (fun h => h) fun h => ⟨h.1, by rcases h.2 with h | h <;> rw [h] <;> decide⟩) (tx_there h V hon hhi id hH hB)
theorem tx_Read_shut {w : World} {v : Value} (h : Shut w v) (id : Int) : Calls Tryz.prog 18 #[v, .int .i64 id] w (PgPost w ((0, []), 1)) := txr_of (.inr ⟨rfl, by decide⟩) (tx_there_shut h id)
def ErrPost (w : World) (c : Int) (e : Ending) (w' : World) : Prop := e = .returned (.int .i64 c) ∧ Below w.heap.size w w'
set_option maxHeartbeats 1000000 in
set_option maxRecDepth 100000 in
theorem txw_no {w : World} {v : Value} {id : Int} {r : Lf × Int} (hc : r.2 ≠ 0) (h : Calls Tryz.prog 52 #[v, .int .i64 id] w (LeafPost w r)) (k : Int) (s : ByteArray) :
    Calls Tryz.prog 22 #[v, .int .i64 id, .int .i64 k, .string s] w (ErrPost w r.2) := by
  obtain ⟨⟨q, b⟩, c⟩ := r
  have h2 : Calls Tryz.prog 52 #[v, .int .i64 id] w fun e w' => e = .returned (.tuple #[.agg #[int' q, tx b], .int .i64 c]) ∧ Below w.heap.size w w' := h
  clear h
  have h0 : c ≠ 0 := hc
  have hb : (c != 0) = true := by simpa using h0
  clear hc
  go_enter Tryz.func22, Tryz.ntmps22
  go_wp2_with (first
    | (go_at_call 52; go_must (refine h2.mono ?_; rintro e w1 ⟨rfl, hb1⟩; have HB1 := Lib.hid hb1; clear hb1)))
  go_ret
  exact ⟨rfl, HB1.out.alloc HB1.out.size _⟩
/-- what a write answers, where the page is there -/
def writeE (k : Int) (n : Nat) : Int := if k < 1 ∨ 255 ≤ k then 2 else if 500 < n then 3 else 0
set_option maxHeartbeats 1000000 in
set_option maxRecDepth 100000 in
theorem txw_err {w : World} {v : Value} {id : Int} {r : Lf × Int} (hc : r.2 = 0) (h : Calls Tryz.prog 52 #[v, .int .i64 id] w (LeafPost w r)) (k : Int) (s : ByteArray) (hs : s.size ≤ 9223372036854775807) (hw : writeE k s.size ≠ 0) :
    Calls Tryz.prog 22 #[v, .int .i64 id, .int .i64 k, .string s] w (ErrPost w (writeE k s.size)) := by
  obtain ⟨⟨q, b⟩, c⟩ := r
  have h2 : Calls Tryz.prog 52 #[v, .int .i64 id] w fun e w' => e = .returned (.tuple #[.agg #[int' q, tx b], .int .i64 c]) ∧ Below w.heap.size w w' := h
  clear h
  have h0 : c = 0 := hc
  subst h0
  clear hc
  by_cases h1 : k < 1
  · rw [show writeE k s.size = 2 from by unfold writeE; rw [if_pos (.inl h1)]]
    clear hw
    go_enter Tryz.func22, Tryz.ntmps22
    go_wp2_with (first
      | (go_at_call 52; go_must (refine h2.mono ?_; rintro e w1 ⟨rfl, hb1⟩; have HB1 := Lib.hid hb1; clear hb1)))
    go_ret
    exact ⟨rfl, HB1.out.alloc HB1.out.size _⟩
  by_cases h3 : 255 ≤ k
  · rw [show writeE k s.size = 2 from by unfold writeE; rw [if_pos (.inr h3)]]
    clear hw
    go_enter Tryz.func22, Tryz.ntmps22
    go_wp2_with (first
      | (go_at_call 52; go_must (refine h2.mono ?_; rintro e w1 ⟨rfl, hb1⟩; have HB1 := Lib.hid hb1; clear hb1)))
    go_ret
    exact ⟨rfl, HB1.out.alloc HB1.out.size _⟩
  have e1 : writeE k s.size = if 500 < s.size then 3 else 0 := by unfold writeE; rw [if_neg (by omega)]
  have h4 : 500 < s.size := by
    rw [e1] at hw
    by_cases h : 500 < s.size
    · exact h
    · rw [if_neg h] at hw; exact absurd rfl hw
  rw [e1, if_pos h4]
  have h5 : (500 : Int) < (s.size : Int) := by omega
  clear hw e1 h4
  go_enter Tryz.func22, Tryz.ntmps22
  go_wp2_with (first
    | (go_at_call 52; go_must (refine h2.mono ?_; rintro e w1 ⟨rfl, hb1⟩; have HB1 := Lib.hid hb1; clear hb1)))
  go_ret
  exact ⟨rfl, HB1.out.alloc HB1.out.size _⟩
set_option maxHeartbeats 1000000 in
set_option maxRecDepth 100000 in
theorem tx_Write {B C : Nat} {w : World} {t mb x db p log : Nat} {m tm : Meta} {mk sp : Bool} {l : List (Nat × Lf)} {D : Disk} (h : TxNow B C w t mb x db p log m tm mk sp l D) (V : Nat → Lf) (hon : TxOn D log V tm l) (hhi : tm.high < 2147483648) (id : Int)
    (hH : HalfAt w) (hB : 0 < w.heap.size) (hC : C ≤ w.heap.size) (hl : l.length < 2147483648) (ht : (thereS V tm l id).2 = 0) (k : Int) (s : ByteArray) (hw : writeE k s.size = 0) :
    Calls Tryz.prog 22 #[.pointer (some ⟨t, 0, none⟩), .int .i64 id, .int .i64 k, .string s] w (TurnPost B C w t mb x db p log m tm mk sp (putL id.toNat (k.toNat, s.data.toList) l) D (.int .i64 0)) := by
  have hth := tx_there h V hon hhi id hH hB
  have hid : ∃ i : Nat, id = (i : Int) ∧ i < 2147483648 := by
    unfold thereS at ht
    split at ht
    · cases ht
    · unfold getS at ht
      split at ht
      · cases ht
      · exact ⟨id.toNat, by omega, by omega⟩
  obtain ⟨i, rfl, hi⟩ := hid
  obtain ⟨⟨⟨q, b⟩, c⟩, hr⟩ : ∃ r, r = thereS V tm l (i : Int) := ⟨_, rfl⟩
  rw [← hr] at hth ht
  have h0 : c = 0 := ht
  subst h0
  have h2 : Calls Tryz.prog 52 #[.pointer (some ⟨t, 0, none⟩), .int .i64 (i : Int)] w fun e w' => e = .returned (.tuple #[.agg #[int' q, tx b], .int .i64 0]) ∧ Below w.heap.size w w' := hth
  have hk : 1 ≤ k ∧ k < 255 := by
    unfold writeE at hw; split at hw
    · cases hw
    · omega
  have hs : s.size ≤ 500 := by
    unfold writeE at hw; rw [if_neg (by omega)] at hw; split at hw
    · cases hw
    · omega
  obtain ⟨n, rfl⟩ : ∃ n : Nat, k = (n : Int) := ⟨k.toNat, by omega⟩
  have g1 : ¬ ((n : Int) < 1) := by omega
  have g2 : ¬ ((255 : Int) ≤ (n : Int)) := by omega
  have g3 : ¬ ((500 : Int) < (s.size : Int)) := by omega
  have H := Lib.hid h
  have t8 : ∀ w1, Below w.heap.size w w1 → w1.cell? ⟨t, 8, none⟩ = some (.map (some mb)) := fun w1 hb => (H.out.below hb).tx.c8
  have HT8 := Lib.hid t8
  clear h hth hon hH hw hk hs hr t8
  simp only [Int.toNat_natCast]
  go_enter Tryz.func22, Tryz.ntmps22
  go_wp2_with (first
    | (go_at_call 52; go_must (refine h2.mono ?_; rintro e w1 ⟨rfl, hb1⟩; have h18 := HT8.out _ (hb1.alloc hb1.size (.cells #[int' q, tx b] 101)); have HB1 := Lib.hid hb1; clear hb1))
    | (at_mapUpdate; go_must (refine wpList_put_leaf rfl (.tmp 34) (.tmp 35) (.tmp 38) rfl mb l rfl ((H.out.below (HB1.out.alloc HB1.out.size _)).tx.map) i hi rfl (n, s.data.toList) (congrArg (fun v => Value.agg #[int' n, v]) (str_tx s)) hl ?_; intro w2 hm2 ht2; have HM2 := Lib.hid hm2; have HT2 := Lib.hid ht2; clear hm2 ht2)))
  go_ret
  have hb2 := HB1.out.alloc HB1.out.size (.cells #[int' q, tx b] 101)
  have hN := H.out.below hb2
  have hu : Upd C txT (w1.alloc (.cells #[int' q, tx b] 101)) w2 := turned_upd HT2.out hN.tx.hmb rfl
  have hh := (HT2.out.grown.block t (lt_of_some hN.tx.head) (fun e => hN.tx.ne (by injection e))).trans hN.tx.head
  have htx : TxIs C w2 t x mb tm mk sp (putL i (n, s.data.toList) l) := ⟨hN.tx.ht, hN.tx.hmb, hh, HM2.out⟩
  exact ⟨rfl, hN.turn hu htx, (Upd.of_below hb2).trans hu⟩
end Go.Proofs.YthbbammibdhohaaGreatDoor

namespace Go.Proofs.YthbbammibdhohaaGreatDoor
open Go.RowKit Aq Go.Rgn Go.Maps

theorem TxIs.turned {C : Nat} {w w' : World} {t x mb : Nat} {m : Meta} {mk sp : Bool} {l l' : List (Nat × Lf)} (h : TxIs C w t x mb m mk sp l) (ht : w.mapTurned w' mb) (hm : LeafMap w' mb l') : TxIs C w' t x mb m mk sp l' :=
  ⟨h.ht, h.hmb, (ht.grown.block t (lt_of_some h.head) (fun e => h.ne (by injection e))).trans h.head, hm⟩
set_option maxHeartbeats 400000 in
set_option maxRecDepth 100000 in
theorem tx_Alloc_shut {w : World} {v : Value} (h : Shut w v) : Calls Tryz.prog 21 #[v] w fun e w' => e = .returned (.tuple #[.int .i64 0, .int .i64 1]) ∧ w = w' := by
  have hup := tx_up_shut h
  clear h
  go_enter Tryz.func21, Tryz.ntmps21
  go_wp2_with (first
    | (go_at_call 53; refine hup.mono ?_; rintro e w' ⟨rfl, rfl⟩))
  go_ret2
  exact ⟨rfl, rfl⟩
def FullPost (w : World) (e : Ending) (w' : World) : Prop := e = .returned (.tuple #[.int .i64 0, .int .i64 7]) ∧ Below w.heap.size w w'
set_option maxHeartbeats 1000000 in
set_option maxRecDepth 100000 in
theorem tx_Alloc_full {B C : Nat} {w : World} {t mb x db p log : Nat} {m tm : Meta} {mk sp : Bool} {l : List (Nat × Lf)} {D : Disk} (h : TxNow B C w t mb x db p log m tm mk sp l D) (hlog : log ≤ D.kept.length) (hf : tm.free = 0) (hc : tm.high = (D.kept.length - log) / 8) :
    Calls Tryz.prog 21 #[.pointer (some ⟨t, 0, none⟩)] w (FullPost w) := by
  have hup := h.up
  have t0 := h.tx.c0; have t5 := h.tx.c5; have t6 := h.tx.c6
  rw [hf] at t6
  have t6' : w.cell? ⟨t, 6, none⟩ = some (.int .i64 0) := t6
  obtain ⟨c, hcc⟩ : ∃ c, c = (D.kept.length - log) / 8 := ⟨_, rfl⟩
  have hcq : ∀ n, Calls Tryz.prog 24 #[.pointer (some ⟨x, 0, none⟩)] (w.drewN n) fun e w' => e = .returned (.int .i64 (c : Int)) ∧ ∃ k, w' = (w.drewN n).drewN k := fun n => by
    have h := db_Count_q (w := w.drewN n) (h.dbi.keep (Below.sees ⟨rfl, rfl, rfl, Nat.le_refl _, fun _ _ => rfl⟩)) (h.disk.keep (Below.sees ⟨rfl, rfl, rfl, Nat.le_refl _, fun _ _ => rfl⟩)) hlog
    rw [← hcc] at h
    exact h
  rw [← hcc] at hc
  rw [hc] at t5
  clear h hf t6 hc hcc
  go_enter Tryz.func21, Tryz.ntmps21
  go_wp2_with (first
    | (go_at_call 53; refine hup.mono ?_; rintro e w' ⟨rfl, rfl⟩))
  go_quiet (first | (go_at_call 24; exact Calls.quiet_of (hcq _)))
  go_wp2
  go_ret2
  exact ⟨rfl, rfl, rfl, rfl, Nat.le_refl _, fun _ _ => rfl⟩
set_option maxHeartbeats 1000000 in
set_option maxRecDepth 100000 in
theorem tx_Alloc_new {B C : Nat} {w : World} {t mb x db p log : Nat} {m tm : Meta} {mk sp : Bool} {l : List (Nat × Lf)} {D : Disk} (h : TxNow B C w t mb x db p log m tm mk sp l D) (hlog : log ≤ D.kept.length) (hf : tm.free = 0) (hc : tm.high < (D.kept.length - log) / 8) (hl : l.length < 2147483648) (hh0 : tm.high < 2147483648) :
    Calls Tryz.prog 21 #[.pointer (some ⟨t, 0, none⟩)] w (TurnPost B C w t mb x db p log m { tm with high := tm.high + 1 } true sp (putL tm.high (1, []) l) D (.tuple #[int' tm.high, .int .i64 0])) := by
  have hup := h.up
  have t0 := h.tx.c0; have t5 := h.tx.c5; have t6 := h.tx.c6; have t8 := h.tx.c8; have t9 := h.tx.c9
  have f5 := h.tx.fr 5; have f9 := h.tx.fr 9
  rw [hf] at t6
  have t6' : w.cell? ⟨t, 6, none⟩ = some (.int .i64 0) := t6
  obtain ⟨c, hcc⟩ : ∃ c, c = (D.kept.length - log) / 8 := ⟨_, rfl⟩
  have hcq : ∀ n, Calls Tryz.prog 24 #[.pointer (some ⟨x, 0, none⟩)] (w.drewN n) fun e w' => e = .returned (.int .i64 (c : Int)) ∧ ∃ k, w' = (w.drewN n).drewN k := fun n => by
    have h := db_Count_q (w := w.drewN n) (h.dbi.keep (Below.sees ⟨rfl, rfl, rfl, Nat.le_refl _, fun _ _ => rfl⟩)) (h.disk.keep (Below.sees ⟨rfl, rfl, rfl, Nat.le_refl _, fun _ _ => rfl⟩)) hlog
    rw [← hcc] at h
    exact h
  rw [← hcc] at hc
  have hm : D.kept.length ≤ 65536 := by obtain ⟨kb, pv, dn, hd⟩ := h.disk; exact hd.ok.most
  have g1 : ((tm.high : Int) == (c : Int)) = false := by simp; omega
  have g2 : ¬ (tm.high : Int) = (c : Int) := by omega
  have g3 : (tm.high : Int) ≤ 65536 := by omega
  have H := Lib.hid h
  have hone : (Value.agg #[.int .i64 1, .string ⟨#[]⟩]) = leafV (1, []) := rfl
  clear h hf t6 hc hcc
  go_enter Tryz.func21, Tryz.ntmps21
  go_wp2_with (first
    | (go_at_call 53; refine hup.mono ?_; rintro e w' ⟨rfl, rfl⟩))
  go_quiet (first | (go_at_call 24; exact Calls.quiet_of (hcq _)))
  have hn1 : ∀ n, TxNow B C (w.drewN n) t mb x db p log m tm mk sp l D := fun n => H.out.below ⟨rfl, rfl, rfl, Nat.le_refl _, fun _ _ => rfl⟩
  have k1 : ∀ n, TxIs C ((w.drewN n).setCell ⟨t, 5, none⟩ (.int .i64 ((tm.high : Int) + 1))) t x mb { tm with high := tm.high + 1 } mk sp l := fun n => (hn1 n).tx.field 5 _ rfl
  have k2 : ∀ n, TxIs C (((w.drewN n).setCell ⟨t, 5, none⟩ (.int .i64 ((tm.high : Int) + 1))).setCell ⟨t, 9, none⟩ (.bool true)) t x mb { tm with high := tm.high + 1 } true sp l := fun n => (k1 n).field 9 _ rfl
  have u2 : ∀ n, Upd C txT w (((w.drewN n).setCell ⟨t, 5, none⟩ (.int .i64 ((tm.high : Int) + 1))).setCell ⟨t, 9, none⟩ (.bool true)) := fun n => (k1 n).upd ((hn1 n).tx.upd ((Upd.refl C txT w).drewN n) rfl 5 _) rfl 9 _
  have K2 := Lib.hid k2; have U2 := Lib.hid u2
  clear hn1 k1 k2 u2 hcq
  go_wp2_with (first
    | (at_mapUpdate; go_must (refine wpList_put_leaf rfl (.tmp 78) (.tmp 79) (.tmp 80) rfl mb l rfl ((K2.out _).map) tm.high hh0 rfl (1, []) rfl hl ?_; intro w2 hm2 ht2; have HM2 := Lib.hid hm2; have HT2 := Lib.hid ht2; clear hm2 ht2)))
  go_ret2
  have hu := (U2.out nq).trans (turned_upd (T := txT) HT2.out (K2.out nq).hmb rfl)
  exact ⟨rfl, H.out.turn hu ((K2.out nq).turned HT2.out HM2.out), hu⟩
set_option maxHeartbeats 1000000 in
set_option maxRecDepth 100000 in
theorem tx_Alloc_free {B C : Nat} {w : World} {t mb x db p log : Nat} {m tm : Meta} {mk sp : Bool} {l : List (Nat × Lf)} {D : Disk} (h : TxNow B C w t mb x db p log m tm mk sp l D) (V : Nat → Lf) (hon : TxOn D log V tm l) (hhi : tm.high < 2147483648)
    (hH : HalfAt w) (hB : 0 < w.heap.size) (hf1 : 1 ≤ tm.free) (hf2 : tm.free < tm.high) (nx : Nat) (hnx : nx < 2147483648) (hs : seeL V l tm.free = (255, num nx 4)) (hct : 1 ≤ tm.count) (hct2 : tm.count < 2147483648) (hl : l.length < 2147483648) :
    Calls Tryz.prog 21 #[.pointer (some ⟨t, 0, none⟩)] w (TurnPost B C w t mb x db p log m { tm with free := nx, count := tm.count - 1 } true sp (putL tm.free (1, []) l) D (.tuple #[int' tm.free, .int .i64 0])) := by
  have hup := h.up
  have t6 := h.tx.c6
  have hget := tx_get h V hon hhi (tm.free : Int) hH hB
  have hgs : getS V tm l (tm.free : Int) = ((255, num nx 4), 0) := by unfold getS; rw [if_neg (by omega), Int.toNat_natCast, hs]
  rw [hgs] at hget
  have hval : ∀ w1, Calls Tryz.prog 60 #[tx (num nx 4)] w1 fun e w' => e = .returned (int' nx) ∧ ∃ n, w' = w1.drewN n := fun w1 => by
    have h := pagedb_value w1 ⟨(num nx 4).toArray⟩ (by show 4 ≤ (num nx 4).length; rw [num_len]; exact Nat.le_refl _)
    rw [show (⟨(num nx 4).toArray⟩ : ByteArray).data.toList = num nx 4 from rfl, List.take_of_length_le (by rw [num_len]; exact Nat.le_refl _), val_num 4 _ (by omega)] at h
    exact h
  obtain ⟨z, hz⟩ : ∃ z, z = num nx 4 := ⟨_, rfl⟩
  rw [← hz] at hget hval
  have hget2 : Calls Tryz.prog 59 #[.pointer (some ⟨t, 0, none⟩), .int .i64 (tm.free : Int)] w fun e w' => e = .returned (.tuple #[.agg #[.int .i64 255, tx z], .int .i64 0]) ∧ Below w.heap.size w w' := hget
  have g1 : (0 : Int) < (tm.free : Int) := by omega
  have g2 : (1 : Int) ≤ (tm.count : Int) := by omega
  have g3 : (tm.count : Int) ≤ 2147483647 := by omega
  have hcv : (Value.int .i64 ((tm.count : Int) - 1)) = int' (tm.count - 1) := congrArg (Value.int .i64) (by omega)
  have HCV : Hid ((Value.int .i64 ((tm.count : Int) - 1)) = int' (tm.count - 1)) := hcv
  have H := Lib.hid h
  have hfacts : ∀ w1, Below w.heap.size w w1 → w1.cell? ⟨t, 6, none⟩ = some (int' tm.free) ∧ w1.cell? ⟨t, 7, none⟩ = some (int' tm.count) ∧ w1.cell? ⟨t, 8, none⟩ = some (.map (some mb)) ∧ w1.cell? ⟨t, 9, none⟩ = some (.bool mk) ∧ w1.frozen? ⟨t, 6, none⟩ = false ∧ w1.frozen? ⟨t, 7, none⟩ = false ∧ w1.frozen? ⟨t, 9, none⟩ = false ∧ t < w1.heap.size := fun w1 hb =>
    ⟨(H.out.below hb).tx.c6, (H.out.below hb).tx.c7, (H.out.below hb).tx.c8, (H.out.below hb).tx.c9, (H.out.below hb).tx.fr 6, (H.out.below hb).tx.fr 7, (H.out.below hb).tx.fr 9, lt_of_some (H.out.below hb).tx.head⟩
  have HF := Lib.hid hfacts
  have K3 : Hid (∀ w1, Below w.heap.size w w1 → ∀ n2, TxIs C (((((w1.alloc (.cells #[.int .i64 255, tx z] 101)).drewN n2).setCell ⟨t, 6, none⟩ (int' nx)).setCell ⟨t, 7, none⟩ (.int .i64 ((tm.count : Int) - 1))).setCell ⟨t, 9, none⟩ (.bool true)) t x mb { tm with free := nx, count := tm.count - 1 } true sp l ∧
      Upd C txT w (((((w1.alloc (.cells #[.int .i64 255, tx z] 101)).drewN n2).setCell ⟨t, 6, none⟩ (int' nx)).setCell ⟨t, 7, none⟩ (.int .i64 ((tm.count : Int) - 1))).setCell ⟨t, 9, none⟩ (.bool true))) := fun w1 hb1 n2 => by
    have hb : Below w.heap.size w ((w1.alloc (.cells #[.int .i64 255, tx z] 101)).drewN n2) := (hb1.alloc hb1.size _).trans ⟨rfl, rfl, rfl, Nat.le_refl _, fun _ _ => rfl⟩
    have hN := (H.out.below hb).tx
    have k1 : TxIs C _ t x mb { tm with free := nx } mk sp l := hN.field 6 (int' nx) rfl
    have k2 : TxIs C _ t x mb { tm with free := nx, count := tm.count - 1 } mk sp l := k1.field 7 (.int .i64 ((tm.count : Int) - 1)) (by rw [HCV.out]; rfl)
    have k3 : TxIs C _ t x mb { tm with free := nx, count := tm.count - 1 } true sp l := k2.field 9 (.bool true) rfl
    exact ⟨k3, k2.upd (k1.upd (hN.upd (.of_below hb) rfl 6 _) rfl 7 _) rfl 9 _⟩
  have hfl : tm.free < 2147483648 := by omega
  clear h hget hon hH hs hgs hz hcv hfacts hf1 hct hct2 hhi hnx
  go_enter Tryz.func21, Tryz.ntmps21
  go_wp2_with (first
    | (go_at_call 53; refine hup.mono ?_; rintro e w' ⟨rfl, rfl⟩)
    | (go_at_call 59; go_must (refine hget2.mono ?_; rintro e w1 ⟨rfl, hb1⟩; obtain ⟨k6, k7, k8, k9, e6, e7, e9, ktl⟩ := HF.out w1 hb1; have HB1 := Lib.hid hb1; clear hb1))
    | (go_at_call 60; go_must (refine (hval _).mono ?_; rintro e w2 ⟨rfl, n2, rfl⟩))
    | (at_mapUpdate; go_must (refine wpList_put_leaf rfl (.tmp 78) (.tmp 79) (.tmp 80) rfl mb l rfl (K3.out w1 HB1.out n2).1.map tm.free hfl rfl (1, []) rfl hl ?_; intro w5 hm5 ht5; have HM5 := Lib.hid hm5; have HT5 := Lib.hid ht5; clear hm5 ht5)))
  go_ret2
  obtain ⟨k3, u3⟩ := K3.out w1 HB1.out n2
  have hu := u3.trans (turned_upd (T := txT) HT5.out k3.hmb rfl)
  exact ⟨rfl, H.out.turn hu (k3.turned HT5.out HM5.out), hu⟩
end Go.Proofs.YthbbammibdhohaaGreatDoor
