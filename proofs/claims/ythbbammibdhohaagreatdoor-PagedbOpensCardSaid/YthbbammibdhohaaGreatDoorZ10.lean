/- A transaction's end, Abort, Spoil, Changed, Root, SetRoot. Conditions as stated. A transaction's get and there. Conditions as stated. A database's pages, as a transaction sees them: which are free, and in which order. Plain. No condition. Crash safety of the pages' database, in plain words: what a disk may hold, and what is found in it. No condition. -/
import Derived.Test.YthbbammibdhohaaGreatDoorZ9
set_option linter.unusedSimpArgs false
set_option linter.unusedVariables false
namespace Go.Proofs.YthbbammibdhohaaGreatDoor
open Go.RowKit Aq Go.Rgn Go.Maps

/-- an open transaction of a database that is well -/
structure TxNow (B C : Nat) (w : World) (t mb x db p log : Nat) (m tm : Meta) (mk sp : Bool) (l : List (Nat × Lf)) (D : Disk) : Prop where
  dbi : DbIs B w x db p log m (.pointer (some ⟨t, 0, none⟩)) false
  disk : DiskAt B w db D
  dn : D.down = false
  tx : TxIs C w t x mb tm mk sp l
theorem dbT_tx (t : Nat) (h : dbT t = true) : txT t = false := by simp only [dbT, beq_iff_eq] at h; subst h; rfl
theorem txT_db (t : Nat) (h : txT t = true) : dbT t = false := by
  simp only [txT, Bool.or_eq_true, beq_iff_eq] at h
  rcases h with rfl | rfl <;> rfl
theorem txT_disk (t : Nat) (h : diskT t = true) : txT t = false := by
  simp only [diskT, Bool.or_eq_true, beq_iff_eq] at h
  rcases h with (rfl | rfl) | rfl <;> rfl
theorem txT_log (t : Nat) (h : logT t = true) : txT t = false := by
  simp only [logT, Bool.or_eq_true, beq_iff_eq] at h
  rcases h with (rfl | rfl) | rfl <;> rfl
theorem txT_dbT (t : Nat) (h : dbT t = true) : txT t = false := dbT_tx t h
theorem TxNow.below {B C : Nat} {w w' : World} {t mb x db p log : Nat} {m tm : Meta} {mk sp : Bool} {l : List (Nat × Lf)} {D : Disk} (h : TxNow B C w t mb x db p log m tm mk sp l D) (hb : Below w.heap.size w w') : TxNow B C w' t mb x db p log m tm mk sp l D :=
  ⟨h.dbi.keep (Below.sees hb), h.disk.keep (Below.sees hb), h.dn, h.tx.keep (Below.sees hb)⟩
theorem TxNow.up {B C : Nat} {w : World} {t mb x db p log : Nat} {m tm : Meta} {mk sp : Bool} {l : List (Nat × Lf)} {D : Disk} (h : TxNow B C w t mb x db p log m tm mk sp l D) :
    Calls Tryz.prog 53 #[.pointer (some ⟨t, 0, none⟩)] w fun e w' => e = .returned (.int .i64 0) ∧ w = w' := tx_up h.dbi h.disk h.dn h.tx
/-- the transaction's own parts have turned: what it is now -/
theorem TxNow.turn {B C : Nat} {w w' : World} {t mb x db p log : Nat} {m tm tm' : Meta} {mk sp mk' sp' : Bool} {l l' : List (Nat × Lf)} {D : Disk} (h : TxNow B C w t mb x db p log m tm mk sp l D) (hu : Upd C txT w w') (ht : TxIs C w' t x mb tm' mk' sp' l') : TxNow B C w' t mb x db p log m tm' mk' sp' l' D :=
  ⟨h.dbi.keep (hu.sees txT_dbT), h.disk.keep (hu.sees txT_disk), h.dn, ht⟩
def EndPost (B C : Nat) (w : World) (t mb x db p log : Nat) (m tm : Meta) (mk sp : Bool) (l : List (Nat × Lf)) (e : Ending) (w' : World) : Prop :=
  e = .returned (.tuple #[]) ∧ DbIs B w' x db p log m (.pointer none) false ∧ TxIs C w' t x mb tm mk sp l ∧ Upd B dbT w w'
set_option maxHeartbeats 400000 in
theorem tx_end {B C : Nat} {w : World} {t mb x db p log : Nat} {m tm : Meta} {mk sp : Bool} {l : List (Nat × Lf)} {D : Disk} (h : TxNow B C w t mb x db p log m tm mk sp l D) :
    Calls Tryz.prog 51 #[.pointer (some ⟨t, 0, none⟩)] w (EndPost B C w t mb x db p log m tm mk sp l) := by
  have t0 := h.tx.c0; have h10 := h.dbi.c10; have f10 := h.dbi.fr 10
  have H := Lib.hid h
  clear h
  go_enter Tryz.func51, Tryz.ntmps51
  go_wp2
  go_end0
  exact ⟨rfl, H.out.dbi.field 10 _ rfl, H.out.tx.keep (sees_setCell H.out.dbi.head rfl 10 _), H.out.dbi.upd (Upd.refl _ _ _) rfl 10 _⟩
set_option maxHeartbeats 400000 in
set_option maxRecDepth 100000 in
theorem tx_Abort {B C : Nat} {w : World} {t mb x db p log : Nat} {m tm : Meta} {mk sp : Bool} {l : List (Nat × Lf)} {D : Disk} (h : TxNow B C w t mb x db p log m tm mk sp l D) :
    Calls Tryz.prog 17 #[.pointer (some ⟨t, 0, none⟩)] w (EndPost B C w t mb x db p log m tm mk sp l) := by
  have hend := tx_end h
  have t0 := h.tx.c0; have h10 := h.dbi.c10
  have hpp := tx_eql_same w t
  clear h
  go_enter Tryz.func17, Tryz.ntmps17
  go_wp2_with (first
    | (go_at_call 51; go_must (refine hend.mono ?_; rintro e w1 ⟨rfl, h1⟩; have H1 := Lib.hid h1; clear h1)))
  go_end0
  exact ⟨rfl, H1.out⟩
def StayPost (w : World) (e : Ending) (w' : World) : Prop := e = .returned (.tuple #[]) ∧ w = w'
set_option maxHeartbeats 400000 in
set_option maxRecDepth 100000 in
theorem tx_Abort_shut {w : World} {v : Value} (h : Shut w v) : Calls Tryz.prog 17 #[v] w (StayPost w) := by
  rcases h with rfl | ⟨t, rfl, h0 | ⟨x, y, h0, h1, rfl | ⟨u, rfl, hu⟩⟩⟩
  · go_enter Tryz.func17, Tryz.ntmps17
    go_wp2
    go_end0
    exact ⟨rfl, rfl⟩
  · go_enter Tryz.func17, Tryz.ntmps17
    go_wp2
    go_end0
    exact ⟨rfl, rfl⟩
  · have hpp := tx_eql_nil w t
    go_enter Tryz.func17, Tryz.ntmps17
    go_wp2
    go_end0
    exact ⟨rfl, rfl⟩
  · have hpp := tx_eql_other hu
    go_enter Tryz.func17, Tryz.ntmps17
    go_wp2
    go_end0
    exact ⟨rfl, rfl⟩
set_option maxHeartbeats 400000 in
theorem tx_Spoil_nil (w : World) : Calls Tryz.prog 27 #[.pointer none] w (StayPost w) := by
  go_enter Tryz.func27, Tryz.ntmps27
  go_wp2
  go_end0
  exact ⟨rfl, rfl⟩
set_option maxHeartbeats 400000 in
theorem tx_Spoil {w : World} {t : Nat} {cs : Array Value} {v : Value} (h : w.heap[t]? = some (.cells cs tTx (0, 0))) (hv : cs[10]? = some v) :
    Calls Tryz.prog 27 #[.pointer (some ⟨t, 0, none⟩)] w fun e w' => e = .returned (.tuple #[]) ∧ w' = w.setCell ⟨t, 10, none⟩ (.bool true) := by
  have h10 := cellAt h 10 v hv; have f10 := freeAt h 10
  clear h hv
  go_enter Tryz.func27, Tryz.ntmps27
  go_wp2
  go_end0
  exact ⟨rfl, rfl⟩
set_option maxHeartbeats 400000 in
set_option maxRecDepth 100000 in
theorem tx_Changed_shut {w : World} {v : Value} (h : Shut w v) : Calls Tryz.prog 31 #[v] w fun e w' => e = .returned (.int .i64 0) ∧ w = w' := by
  rcases h with rfl | ⟨t, rfl, h0 | ⟨x, y, h0, h1, rfl | ⟨u, rfl, hu⟩⟩⟩
  · go_enter Tryz.func31, Tryz.ntmps31
    go_wp2
    go_ret
    exact ⟨rfl, rfl⟩
  · go_enter Tryz.func31, Tryz.ntmps31
    go_wp2
    go_ret
    exact ⟨rfl, rfl⟩
  · have hpp := tx_neq_nil w t
    go_enter Tryz.func31, Tryz.ntmps31
    go_wp2
    go_ret
    exact ⟨rfl, rfl⟩
  · have hpp := tx_neq_other hu
    go_enter Tryz.func31, Tryz.ntmps31
    go_wp2
    go_ret
    exact ⟨rfl, rfl⟩
def changedN (l : List (Nat × Lf)) (mk : Bool) : Nat := l.length + if mk then 1 else 0
set_option maxHeartbeats 400000 in
set_option maxRecDepth 100000 in
theorem tx_Changed {B C : Nat} {w : World} {t mb x db p log : Nat} {m tm : Meta} {mk sp : Bool} {l : List (Nat × Lf)} {D : Disk} (h : TxNow B C w t mb x db p log m tm mk sp l D) (hl : l.length < 2147483648) :
    Calls Tryz.prog 31 #[.pointer (some ⟨t, 0, none⟩)] w fun e w' => e = .returned (.int .i64 (changedN l mk : Int)) ∧ w = w' := by
  have t0 := h.tx.c0; have t8 := h.tx.c8; have t9 := h.tx.c9; have h10 := h.dbi.c10
  have hpp := tx_neq_same w t
  have hmap := h.tx.map
  have g1 : (l.length : Int) < 2147483648 := by omega
  have HMAP : Hid (LeafMap w mb l) := hmap
  clear h hmap
  cases mk
  all_goals
    go_enter Tryz.func31, Tryz.ntmps31
    go_wp2_with (first
      | (at_len; refine wpList_len_own _ rfl _ 65 rfl 3 101 Tryz.underlying65 leafR mb l.length (mapD leafD l) rfl HMAP.out ?_; rw [mapD_size]))
    go_ret
    exact ⟨congrArg (fun x => Ending.returned (.int .i64 x)) (by simp [changedN]), rfl⟩
def Meta.root (m : Meta) (i : Int) : Nat := if i = 0 then m.r0 else if i = 1 then m.r1 else if i = 2 then m.r2 else if i = 3 then m.r3 else 0
def Meta.setRoot (m : Meta) (i : Int) (n : Nat) : Meta := if i = 0 then { m with r0 := n } else if i = 1 then { m with r1 := n } else if i = 2 then { m with r2 := n } else if i = 3 then { m with r3 := n } else m
set_option maxHeartbeats 400000 in
theorem tx_Root_shut {w : World} {v : Value} (h : Shut w v) (i : Int) : Calls Tryz.prog 29 #[v, .int .i64 i] w fun e w' => e = .returned (.int .i64 0) ∧ w = w' := by
  have hup := tx_up_shut h
  clear h
  go_enter Tryz.func29, Tryz.ntmps29
  go_wp2_with (first
    | (go_at_call 53; refine hup.mono ?_; rintro e w' ⟨rfl, rfl⟩))
  go_ret
  exact ⟨rfl, rfl⟩
set_option maxHeartbeats 1000000 in
set_option maxRecDepth 100000 in
theorem tx_Root {B C : Nat} {w : World} {t mb x db p log : Nat} {m tm : Meta} {mk sp : Bool} {l : List (Nat × Lf)} {D : Disk} (h : TxNow B C w t mb x db p log m tm mk sp l D) (i : Int) :
    Calls Tryz.prog 29 #[.pointer (some ⟨t, 0, none⟩), .int .i64 i] w fun e w' => e = .returned (.int .i64 (tm.root i : Int)) ∧ w = w' := by
  have hup := h.up
  have hc : i < 0 ∨ 4 ≤ i ∨ i = 0 ∨ i = 1 ∨ i = 2 ∨ i = 3 := by omega
  have c1 := cellAt h.tx.head 1 (int' tm.r0) rfl
  have c2 := cellAt h.tx.head 2 (int' tm.r1) rfl
  have c3 := cellAt h.tx.head 3 (int' tm.r2) rfl
  have c4 := cellAt h.tx.head 4 (int' tm.r3) rfl
  clear h
  rcases hc with hi | hi | rfl | rfl | rfl | rfl
  · have hr : tm.root i = 0 := by unfold Meta.root; rw [if_neg (by omega), if_neg (by omega), if_neg (by omega), if_neg (by omega)]
    rw [hr]
    clear hr
    go_enter Tryz.func29, Tryz.ntmps29
    go_wp2_with (first
      | (go_at_call 53; refine hup.mono ?_; rintro e w' ⟨rfl, rfl⟩))
    go_ret
    exact ⟨rfl, rfl⟩
  · have hr : tm.root i = 0 := by unfold Meta.root; rw [if_neg (by omega), if_neg (by omega), if_neg (by omega), if_neg (by omega)]
    rw [hr]
    clear hr
    have hi0 : ¬ i < 0 := by omega
    go_enter Tryz.func29, Tryz.ntmps29
    go_wp2_with (first
      | (go_at_call 53; refine hup.mono ?_; rintro e w' ⟨rfl, rfl⟩))
    go_ret
    exact ⟨rfl, rfl⟩
  all_goals
    go_enter Tryz.func29, Tryz.ntmps29
    go_wp2_with (first
      | (go_at_call 53; refine hup.mono ?_; rintro e w' ⟨rfl, rfl⟩))
    go_ret
    exact ⟨rfl, rfl⟩
set_option maxHeartbeats 400000 in
theorem tx_SetRoot_shut {w : World} {v : Value} (h : Shut w v) (i n : Int) : Calls Tryz.prog 30 #[v, .int .i64 i, .int .i64 n] w fun e w' => e = .returned (.int .i64 1) ∧ w = w' := by
  have hup := tx_up_shut h
  clear h
  go_enter Tryz.func30, Tryz.ntmps30
  go_wp2_with (first
    | (go_at_call 53; refine hup.mono ?_; rintro e w' ⟨rfl, rfl⟩))
  go_ret
  exact ⟨rfl, rfl⟩
set_option maxHeartbeats 1000000 in
set_option maxRecDepth 100000 in
theorem tx_SetRoot_arg {B C : Nat} {w : World} {t mb x db p log : Nat} {m tm : Meta} {mk sp : Bool} {l : List (Nat × Lf)} {D : Disk} (h : TxNow B C w t mb x db p log m tm mk sp l D) (i n : Int) (hc : i < 0 ∨ 4 ≤ i ∨ n < 0 ∨ 2147483648 ≤ n) :
    Calls Tryz.prog 30 #[.pointer (some ⟨t, 0, none⟩), .int .i64 i, .int .i64 n] w fun e w' => e = .returned (.int .i64 2) ∧ w = w' := by
  have hup := h.up
  clear h
  by_cases h1 : i < 0
  · clear hc
    go_enter Tryz.func30, Tryz.ntmps30
    go_wp2_with (first
      | (go_at_call 53; refine hup.mono ?_; rintro e w' ⟨rfl, rfl⟩))
    go_ret
    exact ⟨rfl, rfl⟩
  by_cases h2 : 4 ≤ i
  · clear hc
    go_enter Tryz.func30, Tryz.ntmps30
    go_wp2_with (first
      | (go_at_call 53; refine hup.mono ?_; rintro e w' ⟨rfl, rfl⟩))
    go_ret
    exact ⟨rfl, rfl⟩
  by_cases h3 : n < 0
  · clear hc
    go_enter Tryz.func30, Tryz.ntmps30
    go_wp2_with (first
      | (go_at_call 53; refine hup.mono ?_; rintro e w' ⟨rfl, rfl⟩))
    go_ret
    exact ⟨rfl, rfl⟩
  have h4 : 2147483648 ≤ n := by omega
  clear hc
  go_enter Tryz.func30, Tryz.ntmps30
  go_wp2_with (first
    | (go_at_call 53; refine hup.mono ?_; rintro e w' ⟨rfl, rfl⟩))
  go_ret
  exact ⟨rfl, rfl⟩
def TurnPost (B C : Nat) (w : World) (t mb x db p log : Nat) (m tm : Meta) (mk sp : Bool) (l : List (Nat × Lf)) (D : Disk) (r : Value) (e : Ending) (w' : World) : Prop :=
  e = .returned r ∧ TxNow B C w' t mb x db p log m tm mk sp l D ∧ Upd C txT w w'
set_option maxHeartbeats 1000000 in
set_option maxRecDepth 100000 in
theorem tx_SetRoot {B C : Nat} {w : World} {t mb x db p log : Nat} {m tm : Meta} {mk sp : Bool} {l : List (Nat × Lf)} {D : Disk} (h : TxNow B C w t mb x db p log m tm mk sp l D) (i n : Int) (hi0 : 0 ≤ i) (hi1 : i < 4) (hn0 : 0 ≤ n) (hn1 : n < 2147483648) :
    Calls Tryz.prog 30 #[.pointer (some ⟨t, 0, none⟩), .int .i64 i, .int .i64 n] w (TurnPost B C w t mb x db p log m (tm.setRoot i n.toNat) true sp l D (.int .i64 0)) := by
  have hup := h.up
  have hc : i = 0 ∨ i = 1 ∨ i = 2 ∨ i = 3 := by omega
  have c1 := cellAt h.tx.head 1 (int' tm.r0) rfl
  have c2 := cellAt h.tx.head 2 (int' tm.r1) rfl
  have c3 := cellAt h.tx.head 3 (int' tm.r2) rfl
  have c4 := cellAt h.tx.head 4 (int' tm.r3) rfl
  have t9 := h.tx.c9
  have f1 := h.tx.fr 1; have f2 := h.tx.fr 2; have f3 := h.tx.fr 3; have f4 := h.tx.fr 4; have f9 := h.tx.fr 9
  have hv : Value.int .i64 n = int' n.toNat := congrArg (Value.int .i64) (by omega)
  have HV := Lib.hid hv
  have H := Lib.hid h
  clear h hi0 hi1 hv
  rcases hc with rfl | rfl | rfl | rfl
  · go_enter Tryz.func30, Tryz.ntmps30
    go_wp2_with (first
      | (go_at_call 53; refine hup.mono ?_; rintro e w' ⟨rfl, rfl⟩))
    go_ret
    have k1 : TxIs C (w.setCell ⟨t, 1, none⟩ (.int .i64 n)) t x mb (tm.setRoot 0 n.toNat) mk sp l := H.out.tx.field 1 (.int .i64 n) (by rw [HV.out]; rfl)
    have k2 : TxIs C ((w.setCell ⟨t, 1, none⟩ (.int .i64 n)).setCell ⟨t, 9, none⟩ (.bool true)) t x mb (tm.setRoot 0 n.toNat) true sp l := k1.field 9 (.bool true) rfl
    have k3 : Upd C txT w ((w.setCell ⟨t, 1, none⟩ (.int .i64 n)).setCell ⟨t, 9, none⟩ (.bool true)) := k1.upd (H.out.tx.upd (Upd.refl _ _ _) rfl 1 _) rfl 9 _
    exact ⟨rfl, H.out.turn k3 k2, k3⟩
  · go_enter Tryz.func30, Tryz.ntmps30
    go_wp2_with (first
      | (go_at_call 53; refine hup.mono ?_; rintro e w' ⟨rfl, rfl⟩))
    go_ret
    have k1 : TxIs C (w.setCell ⟨t, 2, none⟩ (.int .i64 n)) t x mb (tm.setRoot 1 n.toNat) mk sp l := H.out.tx.field 2 (.int .i64 n) (by rw [HV.out]; rfl)
    have k2 : TxIs C ((w.setCell ⟨t, 2, none⟩ (.int .i64 n)).setCell ⟨t, 9, none⟩ (.bool true)) t x mb (tm.setRoot 1 n.toNat) true sp l := k1.field 9 (.bool true) rfl
    have k3 : Upd C txT w ((w.setCell ⟨t, 2, none⟩ (.int .i64 n)).setCell ⟨t, 9, none⟩ (.bool true)) := k1.upd (H.out.tx.upd (Upd.refl _ _ _) rfl 2 _) rfl 9 _
    exact ⟨rfl, H.out.turn k3 k2, k3⟩
  · go_enter Tryz.func30, Tryz.ntmps30
    go_wp2_with (first
      | (go_at_call 53; refine hup.mono ?_; rintro e w' ⟨rfl, rfl⟩))
    go_ret
    have k1 : TxIs C (w.setCell ⟨t, 3, none⟩ (.int .i64 n)) t x mb (tm.setRoot 2 n.toNat) mk sp l := H.out.tx.field 3 (.int .i64 n) (by rw [HV.out]; rfl)
    have k2 : TxIs C ((w.setCell ⟨t, 3, none⟩ (.int .i64 n)).setCell ⟨t, 9, none⟩ (.bool true)) t x mb (tm.setRoot 2 n.toNat) true sp l := k1.field 9 (.bool true) rfl
    have k3 : Upd C txT w ((w.setCell ⟨t, 3, none⟩ (.int .i64 n)).setCell ⟨t, 9, none⟩ (.bool true)) := k1.upd (H.out.tx.upd (Upd.refl _ _ _) rfl 3 _) rfl 9 _
    exact ⟨rfl, H.out.turn k3 k2, k3⟩
  · go_enter Tryz.func30, Tryz.ntmps30
    go_wp2_with (first
      | (go_at_call 53; refine hup.mono ?_; rintro e w' ⟨rfl, rfl⟩))
    go_ret
    have k1 : TxIs C (w.setCell ⟨t, 4, none⟩ (.int .i64 n)) t x mb (tm.setRoot 3 n.toNat) mk sp l := H.out.tx.field 4 (.int .i64 n) (by rw [HV.out]; rfl)
    have k2 : TxIs C ((w.setCell ⟨t, 4, none⟩ (.int .i64 n)).setCell ⟨t, 9, none⟩ (.bool true)) t x mb (tm.setRoot 3 n.toNat) true sp l := k1.field 9 (.bool true) rfl
    have k3 : Upd C txT w ((w.setCell ⟨t, 4, none⟩ (.int .i64 n)).setCell ⟨t, 9, none⟩ (.bool true)) := k1.upd (H.out.tx.upd (Upd.refl _ _ _) rfl 4 _) rfl 9 _
    exact ⟨rfl, H.out.turn k3 k2, k3⟩
end Go.Proofs.YthbbammibdhohaaGreatDoor

namespace Go.Proofs.YthbbammibdhohaaGreatDoor
open Go.RowKit Aq Go.Rgn Go.Maps

def LeafOk (p : Lf) : Prop := 1 ≤ p.1 ∧ p.1 ≤ 255 ∧ p.2.length ≤ 500
def PageAt (D : Disk) (log id : Nat) (p : Lf) : Prop := imgOf D log id = sealPage id p.1 p.2 ∧ LeafOk p
/-- what the disk has under a transaction's pages -/
structure TxOn (D : Disk) (log : Nat) (V : Nat → Lf) (tm : Meta) (l : List (Nat × Lf)) : Prop where
  room : log + tm.high * 8 ≤ D.kept.length
  page : ∀ id, 1 ≤ id → id < tm.high → getL id l = none → PageAt D log id (V id)
  leaf : ∀ id p, getL id l = some p → LeafOk p
def seeL (V : Nat → Lf) (l : List (Nat × Lf)) (id : Nat) : Lf := (getL id l).getD (V id)
def getS (V : Nat → Lf) (tm : Meta) (l : List (Nat × Lf)) (id : Int) : Lf × Int := if id < 1 ∨ (tm.high : Int) ≤ id then ((0, []), 2) else (seeL V l id.toNat, 0)
def LeafPost (w : World) (r : Lf × Int) (e : Ending) (w' : World) : Prop := e = .returned (.tuple #[leafV r.1, .int .i64 r.2]) ∧ Below w.heap.size w w'
theorem leafOne (p : Lf) : ∀ v ∈ [int' p.1, tx p.2], v.oneCell' = true := by
  intro v hv; simp only [List.mem_cons, List.not_mem_nil, or_false] at hv; rcases hv with rfl | rfl <;> rfl
theorem leaf_ret {fn : Func} {R : Ending → World → Prop} {a : Act} {w : World} (x u g : Nat) (p : Lf) (k : Int) (hr : fn.results = #[.cell x 101, .tmp u]) (hx : a.tmps.getD x undef = .pointer (some ⟨g, 0, none⟩)) (hu : a.tmps.getD u undef = .int .i64 k)
    (hg : w.heap[g]? = some (.cells #[int' p.1, tx p.2] 101 (0, 0))) (hd : a.defers = []) (hR : R (.returned (.tuple #[leafV p, .int .i64 k])) w) : bodyPost Tryz.prog fn R .ret a w := by
  refine bodyPost_ret (results_cell2 x 101 u hr g hx [int' p.1, tx p.2] _ _ hg (by kernel_rfl)) hd ?_
  rw [hu]; exact hR
theorem below_setRow {B : Nat} {w w' : World} (h : Below B w w') {g : Nat} (hg : B ≤ g) (cs : Array Value) : Below B w (w'.setRow g cs) :=
  ⟨h.os, h.tape, h.output, by simpa using h.size, fun k hk => by rw [setRow_other _ _ _ _ (by omega)]; exact h.block k hk⟩
set_option maxHeartbeats 1000000 in
set_option maxRecDepth 100000 in
theorem tx_get {B C : Nat} {w : World} {t mb x db p log : Nat} {m tm : Meta} {mk sp : Bool} {l : List (Nat × Lf)} {D : Disk} (h : TxNow B C w t mb x db p log m tm mk sp l D) (V : Nat → Lf) (hon : TxOn D log V tm l) (hhi : tm.high < 2147483648) (id : Int)
    (hH : HalfAt w) (hB : 0 < w.heap.size) :
    Calls Tryz.prog 59 #[.pointer (some ⟨t, 0, none⟩), .int .i64 id] w (LeafPost w (getS V tm l id)) := by
  have t5 := h.tx.c5
  have htl := lt_of_some h.tx.head
  by_cases h1 : id < 1
  · have hr : getS V tm l id = ((0, []), 2) := by unfold getS; rw [if_pos (.inl h1)]
    rw [hr]
    clear h hon hr
    go_enter Tryz.func59, Tryz.ntmps59
    go_wp2_with (first
      | (with_reducible refine wpList_store_new rfl 101 (.tmp 4) (.tmp 23) rfl 101 _ rfl [int' 0, tx []] rfl (by kernel_rfl) rfl (leafOne (0, [])) ?_))
    exact leaf_ret 4 5 w.heap.size (0, []) 2 rfl rfl rfl (heap_alloc_new w _) rfl ⟨rfl, (Below.refl _ w).alloc (Nat.le_refl _) _⟩
  by_cases h2 : (tm.high : Int) ≤ id
  · have hr : getS V tm l id = ((0, []), 2) := by unfold getS; rw [if_pos (.inr h2)]
    rw [hr]
    clear h hon hr
    go_enter Tryz.func59, Tryz.ntmps59
    go_wp2_with (first
      | (with_reducible refine wpList_store_new rfl 101 (.tmp 4) (.tmp 23) rfl 101 _ rfl [int' 0, tx []] rfl (by kernel_rfl) rfl (leafOne (0, [])) ?_))
    exact leaf_ret 4 5 w.heap.size (0, []) 2 rfl rfl rfl (heap_alloc_new w _) rfl ⟨rfl, (Below.refl _ w).alloc (Nat.le_refl _) _⟩
  obtain ⟨i, rfl⟩ : ∃ i : Nat, id = (i : Int) := ⟨id.toNat, by omega⟩
  have hr : getS V tm l (i : Int) = (seeL V l i, 0) := by unfold getS; rw [if_neg (by omega), Int.toNat_natCast]
  rw [hr]
  have t8 := h.tx.c8
  have hb0 : Below w.heap.size w (w.alloc (.cells #[.int .i64 0, .string ⟨#[]⟩] 101)) := (Below.refl _ w).alloc (Nat.le_refl _) _
  have hlk := ((h.below hb0).tx.map).look i (by omega)
  cases hg : getL i l with
  | some p =>
    rw [hg] at hlk
    have hse : seeL V l i = p := by unfold seeL; rw [hg]; rfl
    rw [hse]
    have hlk2 : (Instr.lookup 65 (.map (some mb)) (.int .i64 (i : Int)) true).run Tryz.prog (w.alloc (.cells #[.int .i64 0, .string ⟨#[]⟩] 101)) = .ok (.tuple #[.agg #[int' p.1, tx p.2], .bool true]) (w.alloc (.cells #[.int .i64 0, .string ⟨#[]⟩] 101)) := hlk
    clear h hon hr hlk hb0 hg hse
    go_enter Tryz.func59, Tryz.ntmps59
    go_wp2_with (first
      | (with_reducible refine wpList_store_new rfl 101 (.tmp 6) (.tmp 31) rfl 101 _ rfl [int' p.1, tx p.2] rfl (by kernel_rfl) rfl (leafOne p) ?_))
    exact leaf_ret 4 5 w.heap.size p 0 rfl rfl rfl ((Below.heap_alloc _ _ _ (by simp)).trans (heap_alloc_new w _)) rfl ⟨rfl, ((Below.refl _ w).alloc (Nat.le_refl _) _).alloc (by simp) _⟩
  | none =>
    rw [hg] at hlk
    have hse : seeL V l i = V i := by unfold seeL; rw [hg]; rfl
    rw [hse]
    have hlk2 : (Instr.lookup 65 (.map (some mb)) (.int .i64 (i : Int)) true).run Tryz.prog (w.alloc (.cells #[.int .i64 0, .string ⟨#[]⟩] 101)) = .ok (.tuple #[.agg #[.int .i64 0, .string ⟨#[]⟩], .bool false]) (w.alloc (.cells #[.int .i64 0, .string ⟨#[]⟩] 101)) := hlk
    obtain ⟨him, hlo⟩ := hon.page i (by omega) (by omega) hg
    have himg : ∀ w1, Below w.heap.size w w1 → Calls Tryz.prog 46 #[.pointer (some ⟨x, 0, none⟩), .int .i64 (i : Int)] w1 (ImgPost w1 (sealPage i (V i).1 (V i).2)) := fun w1 hb => by
      have h3 := db_image (h.below hb).dbi (h.below hb).disk h.dn i (by have := hon.room; omega)
      rw [him] at h3
      exact h3
    have hop : ∀ w2, Below w.heap.size w w2 → Calls Tryz.prog 48 #[.int .i64 (i : Int), tx (sealPage i (V i).1 (V i).2)] w2 (POpenPost w2 (V i).1 (V i).2) := fun w2 hb =>
      page_Open w2 (hH.below hb hB) (Nat.lt_of_lt_of_le hB hb.size) i (V i).1 (V i).2 ⟨(sealPage i (V i).1 (V i).2).toArray⟩ rfl (by omega) hlo.1 hlo.2.1 hlo.2.2
    have t0 := h.tx.c0
    obtain ⟨z, hz⟩ : ∃ z, z = sealPage i (V i).1 (V i).2 := ⟨_, rfl⟩
    rw [← hz] at himg hop
    obtain ⟨q, hq⟩ : ∃ q, q = V i := ⟨_, rfl⟩
    rw [← hq] at hop ⊢
    have HIM := Lib.hid himg; have HOP := Lib.hid hop
    have hb1 : Below w.heap.size w ((w.alloc (.cells #[.int .i64 0, .string ⟨#[]⟩] 101)).alloc (.cells #[.int .i64 0, .string ⟨#[]⟩] 101)) := hb0.alloc (by simp) _
    have HB1 := Lib.hid hb1
    clear h hon hr hlk hb0 hg hse him hlo himg hop hH hz hq hb1
    go_enter Tryz.func59, Tryz.ntmps59
    go_wp2_with (first
      | (go_at_call 46; go_must (refine (HIM.out _ HB1.out).mono ?_; rintro e w2 ⟨rfl, hb2⟩; have HB2 := Lib.hid hb2; clear hb2))
      | (go_at_call 48; go_must (refine (HOP.out _ (HB1.out.trans (HB2.out.mono HB1.out.size))).mono ?_; rintro e w3 ⟨rfl, hb3⟩; have hb13 := HB2.out.trans (hb3.mono HB2.out.size); have HB3 := Lib.hid hb13; have HZ := Lib.hid ((hb13.block w.heap.size (by simp; omega)).trans ((Below.heap_alloc _ _ _ (by simp)).trans (heap_alloc_new w (.cells #[.int .i64 0, .string ⟨#[]⟩] 101)))); clear hb3 hb13))
      | (with_reducible refine wpList_store_mid rfl 101 (.tmp 4) (.tmp 57) rfl w.heap.size 0 rfl [int' q.1, tx q.2] rfl 101 #[.int .i64 0, .string ⟨#[]⟩] (by kernel_rfl) HZ.out (Nat.le_of_ble_eq_true rfl) (leafOne q) ?_))
    exact leaf_ret 4 5 w.heap.size q 0 rfl rfl rfl (setRow_heap _ _ _ _ _ _ HZ.out) rfl ⟨rfl, below_setRow (HB1.out.trans (HB3.out.mono HB1.out.size)) (Nat.le_refl _) _⟩
theorem zero_kept {w w1 : World} {o : Obj} (h : Below (w.alloc o).heap.size (w.alloc o) w1) : ∀ u, (w1.alloc u).heap[w.heap.size]? = some o := fun u => by
  have h1 : w.heap.size < w1.heap.size := Nat.lt_of_lt_of_le (by simp) h.size
  rw [Below.heap_alloc _ _ _ h1]
  exact (h.block w.heap.size (by simp)).trans (heap_alloc_new w o)
def thereS (V : Nat → Lf) (tm : Meta) (l : List (Nat × Lf)) (id : Int) : Lf × Int := if (getS V tm l id).2 = 0 ∧ (getS V tm l id).1.1 = 255 then ((0, []), 8) else getS V tm l id
theorem getS_code (V : Nat → Lf) (tm : Meta) (l : List (Nat × Lf)) (id : Int) : (getS V tm l id).2 = 0 ∨ (getS V tm l id).2 = 2 := by
  unfold getS; split
  · exact .inr rfl
  · exact .inl rfl
set_option maxHeartbeats 1000000 in
set_option maxRecDepth 100000 in
theorem tx_there {B C : Nat} {w : World} {t mb x db p log : Nat} {m tm : Meta} {mk sp : Bool} {l : List (Nat × Lf)} {D : Disk} (h : TxNow B C w t mb x db p log m tm mk sp l D) (V : Nat → Lf) (hon : TxOn D log V tm l) (hhi : tm.high < 2147483648) (id : Int)
    (hH : HalfAt w) (hB : 0 < w.heap.size) :
    Calls Tryz.prog 52 #[.pointer (some ⟨t, 0, none⟩), .int .i64 id] w (LeafPost w (thereS V tm l id)) := by
  have hb0 : Below w.heap.size w (w.alloc (.cells #[.int .i64 0, .string ⟨#[]⟩] 101)) := (Below.refl _ w).alloc (Nat.le_refl _) _
  have hup := (h.below hb0).up
  have hget := tx_get (h.below hb0) V hon hhi id (hH.below hb0 hB) (Nat.lt_of_lt_of_le hB hb0.size)
  have hcode := getS_code V tm l id
  obtain ⟨r, hr⟩ : ∃ r, r = getS V tm l id := ⟨_, rfl⟩
  have hth : thereS V tm l id = if r.2 = 0 ∧ r.1.1 = 255 then ((0, []), 8) else r := by rw [hr]; rfl
  rw [hth]
  rw [← hr] at hget hcode
  obtain ⟨⟨k, b⟩, c⟩ := r
  have HB0 := Lib.hid hb0
  clear h hon hb0 hth hr hH
  have hget2 : Calls Tryz.prog 59 #[.pointer (some ⟨t, 0, none⟩), .int .i64 id] (w.alloc (.cells #[.int .i64 0, .string ⟨#[]⟩] 101)) fun e w' => e = .returned (.tuple #[.agg #[int' k, tx b], .int .i64 c]) ∧ Below (w.alloc (.cells #[.int .i64 0, .string ⟨#[]⟩] 101)).heap.size (w.alloc (.cells #[.int .i64 0, .string ⟨#[]⟩] 101)) w' := hget
  clear hget
  have hcode2 : c = 0 ∨ c = 2 := hcode
  clear hcode
  rcases hcode2 with rfl | rfl
  · by_cases hk : k = 255
    · subst hk
      rw [if_pos ⟨rfl, rfl⟩]
      go_enter Tryz.func52, Tryz.ntmps52
      go_wp2_with (first
        | (go_at_call 53; refine hup.mono ?_; rintro e w' ⟨rfl, rfl⟩)
        | (go_at_call 59; go_must (refine hget2.mono ?_; rintro e w1 ⟨rfl, hb1⟩; have HB1 := Lib.hid hb1; have HZ := Lib.hid (zero_kept hb1); clear hb1))
        | (with_reducible refine wpList_store_mid rfl 101 (.tmp 4) (.tmp 28) rfl w.heap.size 0 rfl [int' 0, tx []] rfl 101 #[.int .i64 0, .string ⟨#[]⟩] (by kernel_rfl) (HZ.out _) (Nat.le_of_ble_eq_true rfl) (leafOne (0, [])) ?_))
      exact leaf_ret 4 5 w.heap.size (0, []) 8 rfl rfl rfl (setRow_heap _ _ _ _ _ _ (HZ.out _)) rfl ⟨rfl, below_setRow ((HB0.out.trans (HB1.out.mono HB0.out.size)).alloc (Nat.le_trans HB0.out.size HB1.out.size) _) (Nat.le_refl _) _⟩
    · rw [if_neg (fun h => hk h.2)]
      have g1 : ((k : Int) == 255) = false := by simp; omega
      have g2 : ¬ (k : Int) = 255 := by omega
      go_enter Tryz.func52, Tryz.ntmps52
      go_wp2_with (first
        | (go_at_call 53; refine hup.mono ?_; rintro e w' ⟨rfl, rfl⟩)
        | (go_at_call 59; go_must (refine hget2.mono ?_; rintro e w1 ⟨rfl, hb1⟩; have HB1 := Lib.hid hb1; have HZ := Lib.hid (zero_kept hb1); clear hb1))
        | (with_reducible refine wpList_store_mid rfl 101 (.tmp 4) (.tmp 29) rfl w.heap.size 0 rfl [int' k, tx b] rfl 101 #[.int .i64 0, .string ⟨#[]⟩] (by kernel_rfl) (HZ.out _) (Nat.le_of_ble_eq_true rfl) (leafOne (k, b)) ?_))
      exact leaf_ret 4 5 w.heap.size (k, b) 0 rfl rfl rfl (setRow_heap _ _ _ _ _ _ (HZ.out _)) rfl ⟨rfl, below_setRow ((HB0.out.trans (HB1.out.mono HB0.out.size)).alloc (Nat.le_trans HB0.out.size HB1.out.size) _) (Nat.le_refl _) _⟩
  · rw [if_neg (fun h => absurd (show (2 : Int) = 0 from h.1) (by decide))]
    · skip
      go_enter Tryz.func52, Tryz.ntmps52
      go_wp2_with (first
        | (go_at_call 53; refine hup.mono ?_; rintro e w' ⟨rfl, rfl⟩)
        | (go_at_call 59; go_must (refine hget2.mono ?_; rintro e w1 ⟨rfl, hb1⟩; have HB1 := Lib.hid hb1; have HZ := Lib.hid (zero_kept hb1); clear hb1))
        | (with_reducible refine wpList_store_mid rfl 101 (.tmp 4) (.tmp 29) rfl w.heap.size 0 rfl [int' k, tx b] rfl 101 #[.int .i64 0, .string ⟨#[]⟩] (by kernel_rfl) (HZ.out _) (Nat.le_of_ble_eq_true rfl) (leafOne (k, b)) ?_))
      exact leaf_ret 4 5 w.heap.size (k, b) 2 rfl rfl rfl (setRow_heap _ _ _ _ _ _ (HZ.out _)) rfl ⟨rfl, below_setRow ((HB0.out.trans (HB1.out.mono HB0.out.size)).alloc (Nat.le_trans HB0.out.size HB1.out.size) _) (Nat.le_refl _) _⟩
end Go.Proofs.YthbbammibdhohaaGreatDoor

namespace Go.Proofs.YthbbammibdhohaaGreatDoor
open Go.RowKit Aq Go.Rgn

def upd {α : Type} (U : Nat → α) (i : Nat) (v : α) : Nat → α := fun j => if j = i then v else U j
theorem upd_same {α : Type} (U : Nat → α) (i : Nat) (v : α) : upd U i v i = v := if_pos rfl
theorem upd_other {α : Type} (U : Nat → α) {i j : Nat} (v : α) (h : j ≠ i) : upd U i v j = U j := if_neg h
def Linked (U : Nat → Lf) : List Nat → Prop
  | [] => True
  | i :: r => U i = (255, num (r.headD 0) 4) ∧ Linked U r
theorem linked_congr {U U2 : Nat → Lf} : ∀ {fs : List Nat}, (∀ i ∈ fs, U2 i = U i) → Linked U fs → Linked U2 fs := by
  intro fs
  induction fs with
  | nil => intro _ _; trivial
  | cons i r ih =>
    intro h hl
    exact ⟨by rw [h i (List.mem_cons_self ..)]; exact hl.1, ih (fun j hj => h j (List.mem_cons_of_mem _ hj)) hl.2⟩
theorem linked_mem {U : Nat → Lf} : ∀ {fs : List Nat} {i : Nat}, Linked U fs → i ∈ fs → ∃ n, U i = (255, num n 4) := by
  intro fs
  induction fs with
  | nil => intro i _ h; cases h
  | cons j r ih =>
    intro i hl h
    rcases List.mem_cons.1 h with rfl | h
    · exact ⟨_, hl.1⟩
    · exact ih hl.2 h
/-- what a database has: its meta, its pages, the free ones, the last one first -/
structure Good (cnt : Nat) (m : Meta) (U : Nat → Lf) (fs : List Nat) : Prop where
  mok : m.Ok
  h1 : 1 ≤ m.high
  hc : m.high ≤ cnt
  cmax : cnt ≤ 65536
  nodup : fs.Nodup
  mem : ∀ i ∈ fs, 1 ≤ i ∧ i < m.high
  head : m.free = fs.headD 0
  count : m.count = fs.length
  link : Linked U fs
  page : ∀ i, 1 ≤ i → i < m.high → i ∉ fs → 1 ≤ (U i).1 ∧ (U i).1 ≤ 254 ∧ (U i).2.length ≤ 500
theorem nodup_len : ∀ (n : Nat) (fs : List Nat), fs.Nodup → (∀ i ∈ fs, 1 ≤ i ∧ i ≤ n) → fs.length ≤ n := by
  intro n
  induction n with
  | zero =>
    intro fs _ h
    cases fs with
    | nil => exact Nat.le_refl _
    | cons i r => have := h i (List.mem_cons_self ..); omega
  | succ n ih =>
    intro fs hn h
    by_cases hm : n + 1 ∈ fs
    · have h1 := ih (fs.erase (n + 1)) (hn.erase _) fun i hi => by
        have h2 := (hn.mem_erase_iff).1 hi
        have := h i h2.2
        have := h2.1
        omega
      rw [List.length_erase_of_mem hm] at h1
      omega
    · have h1 := ih fs hn fun i hi => by
        have := h i hi
        have h3 : i ≠ n + 1 := fun e => hm (by rw [← e]; exact hi)
        omega
      omega
theorem Good.few {cnt : Nat} {m : Meta} {U : Nat → Lf} {fs : List Nat} (h : Good cnt m U fs) : fs.length < m.high := by
  have h1 := nodup_len (m.high - 1) fs h.nodup fun i hi => by have := h.mem i hi; omega
  have := h.h1
  omega
theorem Good.leaf {cnt : Nat} {m : Meta} {U : Nat → Lf} {fs : List Nat} (h : Good cnt m U fs) (i : Nat) (hi : 1 ≤ i) (hi2 : i < m.high) : LeafOk (U i) := by
  by_cases hf : i ∈ fs
  · obtain ⟨n, hn⟩ := linked_mem h.link hf
    rw [hn]; exact ⟨by show 1 ≤ 255; decide, by show 255 ≤ 255; decide, by show (num n 4).length ≤ _; rw [num_len]; decide⟩
  · have := h.page i hi hi2 hf
    exact ⟨this.1, by omega, this.2.2⟩
theorem Good.congr {cnt : Nat} {m : Meta} {U U2 : Nat → Lf} {fs : List Nat} (h : Good cnt m U fs) (he : ∀ i, 1 ≤ i → i < m.high → U2 i = U i) : Good cnt m U2 fs :=
  ⟨h.mok, h.h1, h.hc, h.cmax, h.nodup, h.mem, h.head, h.count, linked_congr (fun i hi => he i (h.mem i hi).1 (h.mem i hi).2) h.link, fun i h1 h2 h3 => by rw [he i h1 h2]; exact h.page i h1 h2 h3⟩
theorem good_new {cnt : Nat} (U : Nat → Lf) (h : 4 ≤ cnt) (h2 : cnt ≤ 65536) : Good cnt meta0 U [] :=
  ⟨⟨by decide, by decide, by decide, by decide, by decide, by decide, by decide⟩, by decide, by show 1 ≤ cnt; omega, h2, List.nodup_nil, (fun i hi => by cases hi), rfl, rfl, trivial, fun i h1 h2 _ => by have h3 : i < 1 := h2; omega⟩
/-- a page is laid where none is free -/
def allocA (cnt : Nat) (m : Meta) : List Nat → Option (Nat × Meta × List Nat)
  | i :: r => some (i, { m with free := r.headD 0, count := m.count - 1 }, r)
  | [] => if m.high = cnt then none else some (m.high, { m with high := m.high + 1 }, [])
theorem Good.alloc {cnt : Nat} {m m2 : Meta} {U : Nat → Lf} {fs fs2 : List Nat} {i : Nat} (h : Good cnt m U fs) (ha : allocA cnt m fs = some (i, m2, fs2)) : Good cnt m2 (upd U i (1, [])) fs2 ∧ 1 ≤ i ∧ i < m2.high ∧ m.high ≤ m2.high ∧ m2.high ≤ m.high + 1 ∧ (m.high < m2.high → i = m.high) := by
  cases fs with
  | cons j r =>
    injection ha with ha
    injection ha with ha1 ha
    injection ha with ha2 ha3
    subst ha1 ha2 ha3
    have hj := h.mem j (List.mem_cons_self ..)
    have hn := List.nodup_cons.1 h.nodup
    have hne : ∀ k ∈ r, k ≠ j := fun k hk e => hn.1 (e ▸ hk)
    have hr : r.headD 0 < 2147483648 := by
      cases r with
      | nil => decide
      | cons k r => have := h.mem k (List.mem_cons_of_mem _ (List.mem_cons_self ..)); have := h.mok.high; show k < _; omega
    have hcl := h.count
    rw [List.length_cons] at hcl
    refine ⟨⟨⟨h.mok.r0, h.mok.r1, h.mok.r2, h.mok.r3, h.mok.high, hr, by have := h.mok.count; show m.count - 1 < _; omega⟩, h.h1, h.hc, h.cmax, hn.2, fun k hk => h.mem k (List.mem_cons_of_mem _ hk), rfl, by show m.count - 1 = _; omega,
      linked_congr (fun k hk => upd_other U _ (hne k hk)) h.link.2, fun k h1 h2 h3 => ?_⟩, hj.1, hj.2, Nat.le_refl _, Nat.le_succ _, fun hlt => absurd hlt (Nat.lt_irrefl _)⟩
    by_cases hk : k = j
    · subst hk; rw [upd_same]; exact ⟨by decide, by decide, Nat.zero_le _⟩
    · rw [upd_other U _ hk]
      exact h.page k h1 h2 fun hm => by
        rcases List.mem_cons.1 hm with e | hm
        · exact hk e
        · exact h3 hm
  | nil =>
    have ha : (if m.high = cnt then none else some (m.high, { m with high := m.high + 1 }, [])) = some (i, m2, fs2) := ha
    by_cases hne : m.high = cnt
    · rw [if_pos hne] at ha; cases ha
    · rw [if_neg hne] at ha
      injection ha with ha
      injection ha with ha1 ha
      injection ha with ha2 ha3
      subst ha1 ha2 ha3
      have hc := h.hc
      have hcm := h.cmax
      refine ⟨⟨⟨h.mok.r0, h.mok.r1, h.mok.r2, h.mok.r3, by show m.high + 1 < _; omega, h.mok.free, h.mok.count⟩, Nat.le_succ_of_le h.h1, by show m.high + 1 ≤ cnt; omega, h.cmax, List.nodup_nil, (fun k hk => by cases hk), h.head, h.count, trivial, fun k h1 h2 h3 => ?_⟩, h.h1, Nat.lt_succ_self _, Nat.le_succ _, Nat.le_refl _, fun _ => rfl⟩
      by_cases hk : k = m.high
      · subst hk; rw [upd_same]; exact ⟨by decide, by decide, Nat.zero_le _⟩
      · rw [upd_other U _ hk]
        have h4 : k < m.high + 1 := h2
        exact h.page k h1 (by omega) h3
/-- which error a page has that is not there -/
def thereA (m : Meta) (fs : List Nat) (id : Int) : Int := if id < 1 ∨ (m.high : Int) ≤ id then 2 else if id.toNat ∈ fs then 8 else 0
theorem thereA_zero {m : Meta} {fs : List Nat} {id : Int} (h : thereA m fs id = 0) : 1 ≤ id.toNat ∧ id.toNat < m.high ∧ id.toNat ∉ fs ∧ id = (id.toNat : Int) := by
  unfold thereA at h
  split at h
  · cases h
  · split at h
    · cases h
    · exact ⟨by omega, by omega, ‹_›, by omega⟩
theorem Good.freed {cnt : Nat} {m : Meta} {U : Nat → Lf} {fs : List Nat} (h : Good cnt m U fs) {i : Nat} (h1 : 1 ≤ i) (h2 : i < m.high) (h3 : i ∉ fs) : Good cnt { m with free := i, count := m.count + 1 } (upd U i (255, num m.free 4)) (i :: fs) := by
  have hm := h.mok.high
  have hf := h.few
  have hcl := h.count
  refine ⟨⟨h.mok.r0, h.mok.r1, h.mok.r2, h.mok.r3, h.mok.high, by show i < _; omega, by show m.count + 1 < _; omega⟩, h.h1, h.hc, h.cmax, List.nodup_cons.2 ⟨h3, h.nodup⟩, fun k hk => ?_, rfl, by show m.count + 1 = _; rw [List.length_cons]; omega, ⟨?_, ?_⟩, fun k k1 k2 k3 => ?_⟩
  · rcases List.mem_cons.1 hk with rfl | hk
    · exact ⟨h1, h2⟩
    · exact h.mem k hk
  · rw [upd_same, h.head]
  · exact linked_congr (fun k hk => upd_other U _ fun e => by subst e; exact h3 hk) h.link
  · rw [upd_other U _ fun e => by subst e; exact k3 (List.mem_cons_self ..)]
    exact h.page k k1 k2 fun hm => k3 (List.mem_cons_of_mem _ hm)
theorem Good.wrote {cnt : Nat} {m : Meta} {U : Nat → Lf} {fs : List Nat} (h : Good cnt m U fs) {i : Nat} (h3 : i ∉ fs) {p : Lf} (hp : 1 ≤ p.1 ∧ p.1 ≤ 254 ∧ p.2.length ≤ 500) : Good cnt m (upd U i p) fs := by
  refine ⟨h.mok, h.h1, h.hc, h.cmax, h.nodup, h.mem, h.head, h.count, linked_congr (fun k hk => upd_other U _ fun e => by subst e; exact h3 hk) h.link, fun k k1 k2 k3 => ?_⟩
  by_cases hk : k = i
  · subst hk; rw [upd_same]; exact hp
  · rw [upd_other U _ hk]; exact h.page k k1 k2 k3
theorem setRoot_eq (m : Meta) (i : Int) (n : Nat) : (m.setRoot i n).high = m.high ∧ (m.setRoot i n).free = m.free ∧ (m.setRoot i n).count = m.count := by
  unfold Meta.setRoot
  split
  · exact ⟨rfl, rfl, rfl⟩
  split
  · exact ⟨rfl, rfl, rfl⟩
  split
  · exact ⟨rfl, rfl, rfl⟩
  split
  · exact ⟨rfl, rfl, rfl⟩
  · exact ⟨rfl, rfl, rfl⟩
theorem Good.root {cnt : Nat} {m : Meta} {U : Nat → Lf} {fs : List Nat} (h : Good cnt m U fs) (i : Int) {n : Nat} (hn : n < 2147483648) : Good cnt (m.setRoot i n) U fs := by
  obtain ⟨e1, e2, e3⟩ := setRoot_eq m i n
  have hk := h.mok
  refine ⟨?_, by rw [e1]; exact h.h1, by rw [e1]; exact h.hc, h.cmax, h.nodup, by rw [e1]; exact h.mem, by rw [e2]; exact h.head, by rw [e3]; exact h.count, h.link, by rw [e1]; exact h.page⟩
  unfold Meta.setRoot
  split
  · exact ⟨hn, hk.r1, hk.r2, hk.r3, hk.high, hk.free, hk.count⟩
  split
  · exact ⟨hk.r0, hn, hk.r2, hk.r3, hk.high, hk.free, hk.count⟩
  split
  · exact ⟨hk.r0, hk.r1, hn, hk.r3, hk.high, hk.free, hk.count⟩
  split
  · exact ⟨hk.r0, hk.r1, hk.r2, hn, hk.high, hk.free, hk.count⟩
  · exact hk
end Go.Proofs.YthbbammibdhohaaGreatDoor

namespace Go.Proofs.YthbbammibdhohaaGreatDoor
open Go.RowKit Aq Go.Rgn

/-- what the sectors may hold, if the power goes now -/
def Cont (D : Disk) (f : Nat → Bs) : Prop := ∀ i, i < D.kept.length → D.poss i (f i)
def imgF (f : Nat → Bs) (log id : Nat) : Bs := (List.range 8).flatMap fun k => f (log + id * 8 + k)
def secsF (f : Nat → Bs) (k : Nat) : Bs := (List.range k).flatMap fun i => f (1 + i)
def LogF (f : Nat → Bs) (n epoch : Nat) (recs : List Bs) : Prop :=
  (f 0 = zeros 64 ∧ epoch = 0 ∧ recs = []) ∨
  (f 0 = headB epoch (framesB recs).length ∧ epoch ≤ 4611686018427387904 ∧ (∀ r ∈ recs, r.length ≤ 65536) ∧ (framesB recs).length ≤ 64 * (n - 1) ∧
    (secsF f (((framesB recs).length + 63) / 64)).take (framesB recs).length = framesB recs)
theorem logF_iff (D : Disk) (n epoch : Nat) (recs : List Bs) : LogOn D n epoch recs ↔ LogF D.look n epoch recs := Iff.rfl
theorem imgF_eq (D : Disk) (log id : Nat) : imgOf D log id = imgF D.look log id := rfl
/-- the last bytes that a list of pages has for a page -/
def lastPg (id : Nat) : List Pg → Option Bs
  | [] => none
  | x :: l => match lastPg id l with
    | some b => some b
    | none => if x.1 = id then some x.2 else none
def viewF (f : Nat → Bs) (log : Nat) (pss : List (List Pg)) (id : Nat) : Bs := (lastPg id pss.flatten).getD (imgF f log id)
structure FoundF (f : Nat → Bs) (log ep cnt : Nat) (pss : List (List Pg)) (W : Nat → Bs) : Prop where
  lg : LogF f log ep (pss.map recB)
  ok : ∀ ps ∈ pss, PgsOk cnt ps
  view : ∀ id, id < cnt → viewF f log pss id = W id
theorem secsF_len {f : Nat → Bs} : ∀ k, (∀ j, j < k → (f (1 + j)).length = 64) → (secsF f k).length = 64 * k := by
  intro k
  induction k with
  | zero => intro _; rfl
  | succ k ih =>
    intro h
    have e : secsF f (k + 1) = secsF f k ++ f (1 + k) := by simp [secsF, List.range_succ]
    rw [e, List.length_append, ih (fun j hj => h j (by omega)), h k (by omega)]; omega
theorem secsF_get {f : Nat → Bs} : ∀ k, (∀ j, j < k → (f (1 + j)).length = 64) → ∀ i, i < 64 * k → (secsF f k)[i]? = (f (1 + i / 64))[i % 64]? := by
  intro k
  induction k with
  | zero => intro _ i hi; omega
  | succ k ih =>
    intro h i hi
    have e : secsF f (k + 1) = secsF f k ++ f (1 + k) := by simp [secsF, List.range_succ]
    have hl := secsF_len k (fun j hj => h j (by omega))
    rw [e]
    by_cases hk : i < 64 * k
    · rw [List.getElem?_append_left (by omega)]
      exact ih (fun j hj => h j (by omega)) i hk
    · rw [List.getElem?_append_right (by omega), hl]
      have e1 : i / 64 = k := by omega
      have e2 : i % 64 = i - 64 * k := by omega
      rw [e1, e2]
/-- the sectors hold these bytes -/
def SecE (f : Nat → Bs) (b : Bs) : Prop := ∀ i, i < b.length → (f (1 + i / 64))[i % 64]? = b[i]?
theorem secs_iff {f : Nat → Bs} {b : Bs} (h : ∀ j, 64 * j < b.length → (f (1 + j)).length = 64) : (secsF f ((b.length + 63) / 64)).take b.length = b ↔ SecE f b := by
  have hk : ∀ j, j < (b.length + 63) / 64 → (f (1 + j)).length = 64 := fun j hj => h j (by omega)
  have hl := secsF_len _ hk
  have hg := secsF_get _ hk
  constructor
  · intro e i hi
    have h1 := congrArg (fun l : Bs => l[i]?) e
    simp only [List.getElem?_take_of_lt hi] at h1
    rw [← h1, hg i (by omega)]
  · intro e
    apply List.ext_getElem?
    intro i
    by_cases hi : i < b.length
    · rw [List.getElem?_take_of_lt hi, hg i (by omega), e i hi]
    · rw [List.getElem?_eq_none (by rw [List.length_take]; omega), List.getElem?_eq_none (by omega)]
theorem cont_len {D : Disk} (hok : D.Ok) {f : Nat → Bs} (hc : Cont D f) (i : Nat) (hi : i < D.kept.length) : (f i).length = 64 := (poss_lt hok (hc i hi)).2
theorem cont_look (D : Disk) : Cont D D.look := fun _ hi => look_poss hi
theorem imgF_len {f : Nat → Bs} {log id : Nat} (h : ∀ k, k < 8 → (f (log + id * 8 + k)).length = 64) : (imgF f log id).length = 512 := by
  have : ∀ n, n ≤ 8 → ((List.range n).flatMap fun k => f (log + id * 8 + k)).length = 64 * n := by
    intro n
    induction n with
    | zero => intro _; rfl
    | succ n ih => intro hn; rw [List.range_succ, List.flatMap_append, List.length_append, ih (by omega)]; simp [h n (by omega)]; omega
  exact this 8 (Nat.le_refl _)
theorem imgF_congr {f g : Nat → Bs} {log id : Nat} (h : ∀ k, k < 8 → f (log + id * 8 + k) = g (log + id * 8 + k)) : imgF f log id = imgF g log id := by
  unfold imgF
  simp only [List.flatMap]
  congr 1
  exact List.map_congr_left fun k hk => h k (List.mem_range.1 hk)
theorem sect_len {b : Bs} (h : b.length = 512) {k : Nat} (hk : k < 8) : (sect b k).length = 64 := by simp [sect, h]; omega
theorem pad_full {b : Bs} (h : b.length = 64) : pad b = b := by simp [pad, h, zeros]
/-- a page that lies sector by sector -/
theorem imgF_of_sect {f : Nat → Bs} {log id : Nat} {b : Bs} (hb : b.length = 512) (h : ∀ k, k < 8 → f (log + id * 8 + k) = sect b k) : imgF f log id = b := by
  have e : ∀ n, n ≤ 8 → ((List.range n).flatMap fun k => f (log + id * 8 + k)) = b.take (64 * n) := by
    intro n
    induction n with
    | zero => intro _; simp
    | succ n ih =>
      intro hn
      rw [List.range_succ, List.flatMap_append, ih (by omega)]
      simp only [List.flatMap_cons, List.flatMap_nil, List.append_nil]
      rw [h n (by omega), sect, show 64 * (n + 1) = 64 * n + 64 from by omega, List.take_add]
  have h8 := e 8 (Nat.le_refl _)
  rw [List.take_of_length_le (by omega)] at h8
  exact h8
theorem lastPg_append (id : Nat) (l m : List Pg) : lastPg id (l ++ m) = (lastPg id m).or (lastPg id l) := by
  induction l with
  | nil => simp [lastPg]
  | cons a l ih =>
    simp only [List.cons_append, lastPg, ih]
    cases lastPg id m with
    | some s => rfl
    | none => simp
theorem lastPg_mem {id : Nat} {b : Bs} : ∀ {l : List Pg}, lastPg id l = some b → (id, b) ∈ l := by
  intro l
  induction l with
  | nil => intro h; cases h
  | cons a l ih =>
    intro h
    simp only [lastPg] at h
    split at h
    · injection h with h; subst h; exact List.mem_cons_of_mem _ (ih ‹_›)
    · split at h
      · injection h with h; subst h; rename_i _ ha; subst ha; exact List.mem_cons_self ..
      · cases h
theorem lastPg_none {id : Nat} : ∀ {l : List Pg}, lastPg id l = none → ∀ x ∈ l, x.1 ≠ id := by
  intro l
  induction l with
  | nil => intro _ x hx; cases hx
  | cons a l ih =>
    intro h x hx
    simp only [lastPg] at h
    split at h
    · cases h
    · split at h
      · cases h
      · rename_i ha
        rcases List.mem_cons.1 hx with rfl | hx
        · exact ha
        · exact ih ‹_› x hx
theorem lastPg_of_mem {id : Nat} {b : Bs} {l : List Pg} (h : (id, b) ∈ l) : ∃ c, lastPg id l = some c := by
  cases hl : lastPg id l with
  | some c => exact ⟨c, rfl⟩
  | none => exact absurd rfl (lastPg_none hl _ h)
/-- the run of acts, as far as it went -/
structure Halted (D : Disk) (l : List DAct) (D' : Disk) : Prop where
  len : D'.kept.length = D.kept.length
  down : D'.down = true
  ok : D'.Ok
  poss : ∀ i s, i < D.kept.length → D'.poss i s → D.poss i s ∨ ∃ t, .W i t ∈ l ∧ s = pad t
theorem run_cases {l : List DAct} {D : Disk} (hok : D.Ok) (hd : D.down = false) (hl : ∀ a ∈ l, ActIn D.kept.length a) :
    ((D.run l).2 = 0 ∧ Ran D l (D.run l).1) ∨ ((D.run l).2 = 10 ∧ Halted D l (D.run l).1) := by
  rcases run_two hok hd hl with h | ⟨h, m, a, r, D1, h1, h2, h3, h4, h5, h6⟩
  · exact .inl h
  · refine .inr ⟨h, by rw [h5.kept, h4.len], h5.down, h6, fun i s hi hp => ?_⟩
    rcases h4.poss i s hi (h5.poss.1 hp) with h7 | ⟨t, ht, hs⟩
    · exact .inl h7
    · exact .inr ⟨t, by rw [h1]; exact List.mem_append_left _ ht, hs⟩
/-- f, turned back where it is none of what D may hold -/
theorem cont_back {D : Disk} (f : Nat → Bs) : ∃ g, Cont D g ∧ ∀ i, i < D.kept.length → D.poss i (f i) → g i = f i := by
  classical
  refine ⟨fun i => if D.poss i (f i) then f i else D.look i, fun i hi => ?_, fun i _ h => ?_⟩
  · by_cases h : D.poss i (f i)
    · simp only [h, if_true]
    · simp only [h, if_false]; exact look_poss hi
  · simp only [h, if_true]
theorem cont_mono {D D' : Disk} (hl : D'.kept.length = D.kept.length) (h : ∀ i s, i < D.kept.length → D'.poss i s → D.poss i s) {f : Nat → Bs} (hc : Cont D' f) : Cont D f := fun i hi => h i _ hi (hc i (by rw [hl]; exact hi))
end Go.Proofs.YthbbammibdhohaaGreatDoor
