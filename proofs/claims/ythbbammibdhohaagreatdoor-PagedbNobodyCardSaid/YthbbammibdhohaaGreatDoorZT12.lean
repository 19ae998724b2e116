/- A transaction's Commit that writes. Conditions as stated. Crash safety of the pages' database, in plain words: what a disk may hold, and what is found in it. No condition. -/
import Derived.Test.YthbbammibdhohaaGreatDoorZH2
import Derived.Test.YthbbammibdhohaaGreatDoorZT7
set_option linter.unusedSimpArgs false
set_option linter.unusedVariables false
namespace Go.Proofs.YthbbammibdhohaaGreatDoor
open Go.RowKit Aq Go.Rgn Go.Maps

/-- a database at rest: no transaction open, nothing lost -/
structure DbNow (B : Nat) (w : World) (x db p log : Nat) (m : Meta) (L : Log) (D : Disk) : Prop where
  dbi : DbIs B w x db p log m (.pointer none) false
  disk : DiskAt B w db D
  lg : LogNow B w p db L
  half : HalfAt w
def comT : Nat → Bool := fun t => walT t || dbT t
theorem comT_wal (t : Nat) (h : walT t = true) : comT t = true := by simp [comT, h]
theorem comT_db (t : Nat) (h : dbT t = true) : comT t = true := by simp [comT, h]
theorem upd_wal_com {B : Nat} {w w' : World} (h : Upd B walT w w') : Upd B comT w w' := h.mono (Nat.le_refl _) comT_wal
theorem upd_db_com {B : Nat} {w w' : World} (h : Upd B dbT w w') : Upd B comT w w' := h.mono (Nat.le_refl _) comT_db
theorem upd_disk_com {B : Nat} {w w' : World} (h : Upd B diskT w w') : Upd B comT w w' := upd_wal_com (upd_disk_wal h)
theorem upd_log_com {B : Nat} {w w' : World} (h : Upd B logT w w') : Upd B comT w w' := upd_wal_com (upd_log_wal h)
theorem txT_com (t : Nat) (h : txT t = true) : comT t = false := by
  simp only [txT, Bool.or_eq_true, beq_iff_eq] at h
  rcases h with rfl | rfl <;> rfl
theorem logT_db (t : Nat) (h : logT t = true) : dbT t = false := by
  simp only [logT, Bool.or_eq_true, beq_iff_eq] at h
  rcases h with (rfl | rfl) | rfl <;> rfl
theorem dbT_log (t : Nat) (h : dbT t = true) : logT t = false := by simp only [dbT, beq_iff_eq] at h; subst h; rfl
theorem DbNow.below {B : Nat} {w w' : World} {x db p log : Nat} {m : Meta} {L : Log} {D : Disk} (h : DbNow B w x db p log m L D) (hb : Below w.heap.size w w') (hB : 0 < w.heap.size) : DbNow B w' x db p log m L D :=
  ⟨h.dbi.keep (Below.sees hb), h.disk.keep (Below.sees hb), h.lg.keep (Below.sees hb), h.half.below hb hB⟩
def fitsB (L : Log) (n : Nat) : Bool := decide (n + 8 ≤ 64 * (L.n - 1) - L.bytes.length)
/-- what a commit does to the disk -/
def commitRun (log : Nat) (D : Disk) (L : Log) (J : List Pg) : Disk × Int :=
  let z := recB J
  let f := fitsB L z.length
  let r1 := if f then (D, 0) else D.run (settleActs L)
  if r1.2 ≠ 0 then r1 else
  let r2 := r1.1.run (syncActs (if f then L else Log.reset L) z)
  if r2.2 ≠ 0 then r2 else r2.1.run (redoActs log J)
def commitLog (L : Log) (J : List Pg) : Log := Log.sync (if fitsB L (recB J).length then L else Log.reset L) (recB J)
def CommitPost (B : Nat) (w : World) (x db p log : Nat) (tm : Meta) (r : Disk × Int) (L : Log) (e : Ending) (w' : World) : Prop :=
  e = .returned (.int .i64 r.2) ∧ DiskAt B w' db r.1 ∧ (r.2 = 0 → DbIs B w' x db p log tm (.pointer none) false ∧ LogNow B w' p db L) ∧ Upd B comT w w'
def AddPost2 (B : Nat) (w : World) (p db : Nat) (L : Log) (z : Bs) (e : Ending) (w' : World) : Prop :=
  e = .returned (.int .i64 0) ∧ (∃ bv rv wv, LogIs B w' p db bv rv wv { L with wait := [z] }) ∧ Upd B logT w w'
theorem add_call {B : Nat} {w : World} {p db : Nat} {L : Log} (h : LogNow B w p db L) (z : Bs) (hz : z.length ≤ 65536) (hroom : 8 + z.length ≤ 64 * (L.n - 1) - L.bytes.length) :
    Calls Tryz.prog 57 #[.pointer (some ⟨p, 0, none⟩), tx z] w (AddPost2 B w p db L z) := by
  obtain ⟨bv, rv, hl, hw, hlo, _⟩ := h
  refine (log_Add hl hw hlo ⟨z.toArray⟩ hz hroom).mono fun e w' h => ?_
  obtain ⟨h1, ⟨wv, h2⟩, h3⟩ := h
  exact ⟨h1, ⟨bv, rv, wv, h2⟩, h3⟩
theorem sync_call {B : Nat} {w : World} {p db : Nat} {L : Log} {D : Disk} {z : Bs} (h : ∃ bv rv wv, LogIs B w p db bv rv wv { L with wait := [z] }) (hlo : L.lost = false) (hfew : L.recs.length ≤ L.bytes.length)
    (hd : DiskAt B w db D) (hp : D.pend.length < 2147483648) (hfit : L.bytes.length + (8 + z.length) ≤ 64 * (L.n - 1)) (hH : HalfAt w) (hB : 0 < B) :
    Calls Tryz.prog 58 #[.pointer (some ⟨p, 0, none⟩)] w (WalPost B w p db (D.run (syncActs L z)) (Log.sync L z)) := by
  obtain ⟨bv, rv, wv, hl⟩ := h
  exact log_Sync hl z rfl hlo hfew hd hp hfit hH hB
theorem syncActs_len (L : Log) (z : Bs) (h : L.bytes.length + (8 + z.length) ≤ 64 * (L.n - 1)) (hn : L.n ≤ 65536) : (syncActs L z).length ≤ 65600 := by
  have h1 := layActs_len L.bytes.length (syncAll L z)
  have h2 : (syncAll L z).length = L.bytes.length + (8 + z.length) := by rw [syncAll, List.length_append, frame_len]
  rw [h2] at h1
  simp only [syncActs, List.length_append, List.length_cons, List.length_nil]
  omega
theorem splice_meta (db p log : Nat) (m tm : Meta) (op : Value) (lost : Bool) : (splice (dbCells db p log m op lost).toList 3 [int' tm.r0, int' tm.r1, int' tm.r2, int' tm.r3, int' tm.high, int' tm.free, int' tm.count]).toArray = dbCells db p log tm op lost := rfl
theorem DbIs.newMeta {B : Nat} {w : World} {x db p log : Nat} {m : Meta} {op : Value} {lost : Bool} (h : DbIs B w x db p log m op lost) (tm : Meta) :
    DbIs B (w.setRow x (splice (dbCells db p log m op lost).toList 3 [int' tm.r0, int' tm.r1, int' tm.r2, int' tm.r3, int' tm.high, int' tm.free, int' tm.count]).toArray) x db p log tm op lost := ⟨h.hx, setRow_heap _ x _ _ _ _ h.head⟩
/-- where a commit stands: its database has no open transaction any more -/
structure ComSt (B C : Nat) (w : World) (t mb x db p log : Nat) (m tm : Meta) (mk : Bool) (l : List (Nat × Lf)) (D : Disk) : Prop where
  dbi : DbIs B w x db p log m (.pointer none) false
  disk : DiskAt B w db D
  tx : TxIs C w t x mb tm mk false l
  half : HalfAt w
theorem diskT_notdb (t : Nat) (h : diskT t = true) : dbT t = false := by
  simp only [diskT, Bool.or_eq_true, beq_iff_eq] at h
  rcases h with (rfl | rfl) | rfl <;> rfl
theorem ComSt.hBw {B C : Nat} {w : World} {t mb x db p log : Nat} {m tm : Meta} {mk : Bool} {l : List (Nat × Lf)} {D : Disk} (h : ComSt B C w t mb x db p log m tm mk l D) : B ≤ w.heap.size := Nat.le_trans h.dbi.hx (Nat.le_of_lt (lt_of_some h.dbi.head))
theorem ComSt.below {B C : Nat} {w w' : World} {t mb x db p log : Nat} {m tm : Meta} {mk : Bool} {l : List (Nat × Lf)} {D : Disk} (h : ComSt B C w t mb x db p log m tm mk l D) (hb : Below w.heap.size w w') (hB : 0 < B) : ComSt B C w' t mb x db p log m tm mk l D :=
  ⟨h.dbi.keep (Below.sees hb), h.disk.keep (Below.sees hb), h.tx.keep (Below.sees hb), h.half.below hb (Nat.lt_of_lt_of_le hB h.hBw)⟩
theorem walT_db (t : Nat) (h : dbT t = true) : walT t = false := dbT_wal t h
theorem txT_wal (t : Nat) (h : txT t = true) : walT t = false := by
  have h2 := txT_com t h
  cases hw : walT t with
  | false => rfl
  | true => rw [comT_wal t hw] at h2; cases h2
theorem ComSt.wal {B C : Nat} {w w' : World} {t mb x db p log : Nat} {m tm : Meta} {mk : Bool} {l : List (Nat × Lf)} {D D' : Disk} (h : ComSt B C w t mb x db p log m tm mk l D) (hu : Upd B walT w w') (hd : DiskAt B w' db D') (hB : 0 < B) : ComSt B C w' t mb x db p log m tm mk l D' :=
  ⟨h.dbi.keep (hu.sees dbT_wal), hd, h.tx.keep (hu.sees txT_wal), h.half.upd hu hB h.hBw⟩
theorem halfAt_setCell {w : World} (h : HalfAt w) {x : Nat} (hx : 0 < x) (i : Nat) (u : Value) : HalfAt (w.setCell ⟨x, i, none⟩ u) := fun t ht => by
  have h1 := h t ht
  unfold World.cell? at h1 ⊢
  rw [heap_setCell_other _ _ _ _ (by show 0 ≠ x; omega)]; exact h1
theorem halfAt_setRow {w : World} (h : HalfAt w) {x : Nat} (hx : 0 < x) (u : Array Value) : HalfAt (w.setRow x u) := fun t ht => by
  have h1 := h t ht
  unfold World.cell? at h1 ⊢
  rw [setRow_other _ _ _ _ (by show 0 ≠ x; omega)]; exact h1
theorem ComSt.cell {B C : Nat} {w w' : World} {t mb x db p log : Nat} {m tm : Meta} {mk : Bool} {l : List (Nat × Lf)} {D : Disk} (h : ComSt B C w t mb x db p log m tm mk l D) (b : Value) (hw : w' = w.setCell ⟨x, 11, none⟩ b) (hdb : DbIs B w' x db p log m (.pointer none) false) (hB : 0 < B) : ComSt B C w' t mb x db p log m tm mk l D := by
  subst hw
  exact ⟨hdb, h.disk.keep (sees_setCell h.dbi.head rfl 11 _), h.tx.keep (sees_setCell h.dbi.head rfl 11 _), halfAt_setCell h.half (Nat.lt_of_lt_of_le hB h.dbi.hx) 11 _⟩
theorem ComSt.row {B C : Nat} {w : World} {t mb x db p log : Nat} {m tm : Meta} {mk : Bool} {l : List (Nat × Lf)} {D : Disk} (h : ComSt B C w t mb x db p log m tm mk l D) (hB : 0 < B) :
    ComSt B C (w.setRow x (splice (dbCells db p log m (.pointer none) false).toList 3 [int' tm.r0, int' tm.r1, int' tm.r2, int' tm.r3, int' tm.high, int' tm.free, int' tm.count]).toArray) t mb x db p log tm tm mk l D :=
  ⟨h.dbi.newMeta tm, h.disk.keep (sees_setRow h.dbi.head rfl _), h.tx.keep (sees_setRow h.dbi.head rfl _), halfAt_setRow h.half (Nat.lt_of_lt_of_le hB h.dbi.hx) _⟩
theorem LogNow.cell {B : Nat} {w w' : World} {x db p log : Nat} {m : Meta} {op : Value} {lost : Bool} {L : Log} (h : LogNow B w p db L) (hd : DbIs B w x db p log m op lost) (b : Value) (hw : w' = w.setCell ⟨x, 11, none⟩ b) : LogNow B w' p db L := by
  subst hw; exact h.keep (sees_setCell hd.head rfl 11 _)
theorem upd_dbCell {B : Nat} {w w' : World} {x db p log : Nat} {m : Meta} {op : Value} {lost : Bool} (hd : DbIs B w x db p log m op lost) (b : Value) (hw : w' = w.setCell ⟨x, 11, none⟩ b) : Upd B comT w w' := by
  subst hw; exact (Upd.refl B comT w).setCell (p := ⟨x, 11, none⟩) b hd.head hd.hx rfl
theorem upd_dbRow {B : Nat} {w : World} {x db p log : Nat} {m : Meta} {op : Value} {lost : Bool} (hd : DbIs B w x db p log m op lost) (u : Array Value) : Upd B comT w (w.setRow x u) := (Upd.refl B comT w).setRow u hd.head hd.hx rfl
theorem tx_ms {C : Nat} {w : World} {t x mb : Nat} {m : Meta} {mk sp : Bool} {l : List (Nat × Lf)} (h : TxIs C w t x mb m mk sp l) : ∀ j v, [int' m.r0, int' m.r1, int' m.r2, int' m.r3, int' m.high, int' m.free, int' m.count][j]? = some v → w.cell? ⟨t, 1 + j, none⟩ = some v := fun j v hv => by
  refine cellAt h.head (1 + j) v ?_
  match j, hv with
  | 0, hv => exact hv
  | 1, hv => exact hv
  | 2, hv => exact hv
  | 3, hv => exact hv
  | 4, hv => exact hv
  | 5, hv => exact hv
  | 6, hv => exact hv
  | j + 7, hv => simp at hv
set_option maxHeartbeats 8000000 in
set_option maxRecDepth 100000 in
theorem tx_Commit {B C : Nat} {w : World} {t mb x db p log : Nat} {m tm : Meta} {mk : Bool} {l : List (Nat × Lf)} {D : Disk} {L : Log} (h : TxNow B C w t mb x db p log m tm mk false l D) (hlg : LogNow B w p db L) (hl : LeavesOk l) (hll : l.length ≤ 65536) (hm : tm.Ok) (hlog1 : 1 ≤ log) (hlog : log ≤ 65536)
    (hH : HalfAt w) (hB : 0 < B) (hc : commitNo log tm mk false l = none) (hLn : L.n = log) (hfr : L.bytes = framesB L.recs) (hp : D.pend.length < 1000000000) (hep : L.epoch < 4611686018427387904) :
    Calls Tryz.prog 20 #[.pointer (some ⟨t, 0, none⟩)] w (CommitPost B w x db p log tm (commitRun log D L (pagesOf tm mk l)) (commitLog L (pagesOf tm mk l))) := by
  have hup := h.up
  have hend := tx_end h
  have t0 := h.tx.c0
  have hBs : B ≤ w.heap.size := Nat.le_trans h.dbi.hx (Nat.le_of_lt (lt_of_some h.dbi.head))
  obtain ⟨J, hJ⟩ : ∃ J, J = pagesOf tm mk l := ⟨_, rfl⟩
  obtain ⟨hj1, hj2, hj3⟩ := pages_ok tm hl hll hJ
  have hrl : (recB J).length = 4 + 516 * J.length := by rw [recB, List.length_append, num_len, pgs_len (n := 2147483648) hj3]
  have hrec : ∀ w1, TxIs C w1 t x mb tm mk false l → Upd B dbT w w1 → Calls Tryz.prog 54 #[.pointer (some ⟨t, 0, none⟩)] w1 (RecPost w1 J) := fun w1 h1 hu => by
    rw [hJ]; exact tx_record h1 hl hll hm (hH.upd hu hB hBs) (Nat.lt_of_lt_of_le hB (Nat.le_trans hBs hu.size))
  have hcn : commitNo log tm mk false l = if J = [] then some 0 else if 65536 < (recB J).length ∨ 64 * (log - 1) < (recB J).length + 8 then some 7 else none := by rw [hJ]; rfl
  rw [hcn] at hc
  have hJ0 : J ≠ [] := fun e => by rw [if_pos e] at hc; cases hc
  have hsm : (recB J).length ≤ 65536 ∧ (recB J).length + 8 ≤ 64 * (log - 1) := by
    rw [if_neg hJ0] at hc
    split at hc
    · cases hc
    · omega
  have hpg : PgsOk 2147483648 J := ⟨by omega, hj3⟩
  have hlgn : L.Ok := by obtain ⟨_, _, hli, _⟩ := hlg; exact hli.ok
  have hlfew : L.recs.length ≤ L.bytes.length ∧ L.lost = false := by obtain ⟨_, _, _, _, h1, h2⟩ := hlg; exact ⟨h2, h1⟩
  have hmost : D.kept.length ≤ 65536 := by obtain ⟨kb, pv, dn, hd⟩ := h.disk; exact hd.ok.most
  rw [← hJ]
  obtain ⟨R, hR⟩ : ∃ R, R = commitRun log D L J := ⟨_, rfl⟩
  obtain ⟨LR, hLR⟩ : ∃ LR, LR = commitLog L J := ⟨_, rfl⟩
  rw [← hR, ← hLR]
  have hroom : ∀ w3, LogNow B w3 p db L → Calls Tryz.prog 55 #[.pointer (some ⟨p, 0, none⟩)] w3 (IntPost w3 .i64 ((64 * (L.n - 1) - L.bytes.length : Nat) : Int)) := fun w3 h3 => by
    obtain ⟨bv, rv, hli, hw0, _⟩ := h3; exact log_Room hli hw0
  obtain ⟨rm, hrm⟩ : ∃ rm, rm = 64 * (L.n - 1) - L.bytes.length := ⟨_, rfl⟩
  rw [← hrm] at hroom
  have hst1 : ∀ w1 w2, DbIs B w1 x db p log m (.pointer none) false → TxIs C w1 t x mb tm mk false l → Upd B dbT w w1 → Below w1.heap.size w1 w2 → ComSt B C w2 t mb x db p log m tm mk l D ∧ LogNow B w2 p db L := fun w1 w2 h1 h2 hu hb =>
    ⟨(⟨h1, h.disk.keep (hu.sees diskT_notdb), h2, hH.upd hu hB hBs⟩ : ComSt B C w1 t mb x db p log m tm mk l D).below hb hB, (hlg.keep (hu.sees logT_db)).keep (Below.sees hb)⟩
  have hrunR : R = (if fitsB L (recB J).length then (let r2 := D.run (syncActs L (recB J)); if r2.2 ≠ 0 then r2 else r2.1.run (redoActs log J)) else
      (let r1 := D.run (settleActs L); if r1.2 ≠ 0 then r1 else let r2 := r1.1.run (syncActs (Log.reset L) (recB J)); if r2.2 ≠ 0 then r2 else r2.1.run (redoActs log J))) := by
    rw [hR]; unfold commitRun
    cases hfb : fitsB L (recB J).length
    · simp only [hfb, Bool.false_eq_true, if_false]
    · simp only [hfb, if_true, ne_eq, not_true_eq_false, if_false]
  have hLRR : LR = Log.sync (if fitsB L (recB J).length then L else Log.reset L) (recB J) := hLR
  obtain ⟨z, hz⟩ : ∃ z, z = recB J := ⟨_, rfl⟩
  rw [← hz] at hrl hsm hrunR hLRR
  have hrec2 : ∀ w1, TxIs C w1 t x mb tm mk false l → Upd B dbT w w1 → Calls Tryz.prog 54 #[.pointer (some ⟨t, 0, none⟩)] w1 fun e w' => ∃ ib, e = .returned (.tuple #[tx z, .map (some ib)]) ∧ StrMap w' ib J ∧ Below w1.heap.size w1 w' := fun w1 h1 hu => by
    rw [hz]; exact hrec w1 h1 hu
  have hredo : ∀ w7 D2, D2.pend.length < 2147483648 → ComSt B C w7 t mb x db p log tm tm mk l D2 → Calls Tryz.prog 44 #[.pointer (some ⟨x, 0, none⟩), tx z] w7 (DiskPost B w7 db (D2.run (redoActs log J))) := fun w7 D2 h7 hs7 =>
    db_redo hs7.dbi hs7.disk J 2147483648 (Nat.le_refl _) hpg ⟨z.toArray⟩ hz (by omega) h7
  have hlose : ∀ w5 m5, DbIs B w5 x db p log m5 (.pointer none) false → ∀ v, Calls Tryz.prog 56 #[.pointer (some ⟨x, 0, none⟩), .int .i64 v] w5 (DbLose B w5 x db p log m5 (.pointer none) false v) := fun w5 m5 h v => db_lose h v
  have hzl := hsm.1
  have q1 : ((J.length : Int) == 0) = false := by simp; exact hJ0
  have q2 : ¬ (J.length : Int) = 0 := by have : J.length ≠ 0 := fun e => hJ0 (List.eq_nil_of_length_eq_zero e); omega
  have q3 : (z.length : Int) ≤ 65536 := by omega
  have q4 : (log : Int) ≤ 65536 := by omega
  have q5 : (1 : Int) ≤ (log : Int) := by omega
  have q6 : ¬ ((65536 : Int) < (z.length : Int)) := by omega
  have q7 : ¬ (64 * ((log : Int) - 1) < (z.length : Int) + 8) := by have := hsm.2; omega
  have HREC := Lib.hid hrec2; have HROOM := Lib.hid hroom; have HST := Lib.hid hst1; have HREDO := Lib.hid hredo; have HLOSE := Lib.hid hlose; have HRUN := Lib.hid hrunR; have HLRR := Lib.hid hLRR
  have HSM := Lib.hid hsm; have HOK := Lib.hid hlgn; have HFEW := Lib.hid hlfew; have HJN : Hid (J.length ≤ 65537) := hj2
  have HMM : Hid (D.kept.length ≤ 65536) := hmost
  clear h hlg hl hm hH hJ hj1 hj3 hrec hrec2 hcn hz hR hLR hc hrl hsm hlgn hlfew hroom hst1 hredo hlose hrunR hLRR hpg hj2
  have HRM := Lib.hid hrm
  by_cases hfit : z.length + 8 ≤ rm
  · have hfb : fitsB L z.length = true := by unfold fitsB; rw [← hrm]; simpa using hfit
    have hrun1 := HRUN.out
    rw [hfb] at hrun1
    simp only [if_true] at hrun1
    have hlr1 : LR = Log.sync L z := by rw [HLRR.out, hfb]; rfl
    obtain ⟨r2, hr2⟩ : ∃ r2, r2 = D.run (syncActs L z) := ⟨_, rfl⟩
    rw [← hr2] at hrun1
    have hadd : ∀ w3, LogNow B w3 p db L → Calls Tryz.prog 57 #[.pointer (some ⟨p, 0, none⟩), tx z] w3 (AddPost2 B w3 p db L z) := fun w3 h3 => add_call h3 z hzl (by omega)
    have hsy : ∀ w4, (∃ bv rv wv, LogIs B w4 p db bv rv wv { L with wait := [z] }) → ComSt B C w4 t mb x db p log m tm mk l D → Calls Tryz.prog 58 #[.pointer (some ⟨p, 0, none⟩)] w4 (WalPost B w4 p db r2 LR) := fun w4 h4 hs4 => by
      rw [hr2, hlr1]
      exact sync_call h4 HFEW.out.2 HFEW.out.1 hs4.disk (by omega) (by have := HOK.out.fits; omega) hs4.half hB
    have hpend : r2.1.pend.length < 2147483648 := by
      have h1 := run_pend (syncActs L z) D
      have h2 := syncActs_len L z (by have := HOK.out.fits; omega) HOK.out.nmax
      rw [hr2]; omega
    have q8 : ¬ ((rm : Int) < (z.length : Int) + 8) := by omega
    have HADD := Lib.hid hadd; have HSY := Lib.hid hsy
    obtain ⟨D2, v2⟩ := r2
    clear hr2 hadd hsy hfb hlr1 hrm hfit
    by_cases hv2 : v2 = 0
    · subst hv2
      simp only [ne_eq, not_true_eq_false, if_false] at hrun1
      obtain ⟨r3, hr3⟩ : ∃ r3, r3 = D2.run (redoActs log J) := ⟨_, rfl⟩
      rw [← hr3] at hrun1
      subst hrun1
      have hred : ∀ w7, ComSt B C w7 t mb x db p log tm tm mk l D2 → Calls Tryz.prog 44 #[.pointer (some ⟨x, 0, none⟩), tx z] w7 (DiskPost B w7 db R) := fun w7 hs7 => by rw [hr3]; exact HREDO.out w7 D2 hpend hs7
      have HRED := Lib.hid hred
      obtain ⟨D3, v3⟩ := R
      clear hr3 hred hpend
      go_enter Tryz.func20, Tryz.ntmps20
      go_wp2_with (first
        | (go_at_call 53; refine hup.mono ?_; rintro e w' ⟨rfl, rfl⟩)
        | (go_at_call 51; go_must (refine hend.mono ?_; rintro e w1 ⟨rfl, hdb1, htx1, hu1⟩; have HR1 := HREC.out w1 htx1 hu1; have HDB1 := Lib.hid hdb1; have HTX1 := Lib.hid htx1; have HU1 := Lib.hid hu1; clear hdb1 htx1 hu1))
        | (go_at_call 54; go_must (refine HR1.mono ?_; rintro e w2 ⟨ib, rfl, hm2, hb2⟩; obtain ⟨hs2, hl2⟩ := HST.out w1 w2 HDB1.out HTX1.out HU1.out hb2; have k10 := hs2.tx.c10; have kx1 := hs2.dbi.c1; have kx2 := hs2.dbi.c2; have HM2 := Lib.hid hm2; have HU2 : Hid (Upd B comT w w2) := (upd_db_com HU1.out).trans (.of_below hb2); have HS2 := Lib.hid hs2; have HL2 := Lib.hid hl2; clear hm2 hb2 hs2 hl2 HR1))
        | (at_len; refine wpList_len_own _ rfl _ 104 rfl 3 9 Tryz.underlying104 strR ib J.length (mapD strD J) rfl HM2.out ?_; rw [mapD_size])
        | (go_at_call 55; go_must (refine (HROOM.out _ HL2.out).mono ?_; rintro e w3 ⟨rfl, hb3⟩; have hs3 := HS2.out.below hb3 hB; have hl3 := HL2.out.keep (Below.sees hb3); have kx31 := hs3.dbi.c1; have HU3 : Hid (Upd B comT w w3) := HU2.out.trans (.of_below hb3); have HS3 := Lib.hid hs3; have HL3 := Lib.hid hl3; clear hb3 hs3 hl3))
        | (go_at_call 57; go_must (refine (HADD.out _ HL3.out).mono ?_; rintro e w4 ⟨rfl, hl4, hu4⟩; have hs4 := HS3.out.wal (upd_log_wal hu4) (HS3.out.disk.keep (hu4.sees diskT_log)) hB; have kx41 := hs4.dbi.c1; have HU4 : Hid (Upd B comT w w4) := HU3.out.trans (upd_log_com hu4); have HY4 := Lib.hid (HSY.out w4 hl4 hs4); have HS4 := Lib.hid hs4; clear hl4 hu4 hs4))
        | (go_at_call 58; go_must (refine HY4.out.mono ?_; rintro e w5 ⟨rfl, hd5, hl5, hu5⟩; have hs5 := HS4.out.wal hu5 hd5 hB; have HL5 := Lib.hid (hl5 rfl); have HU5 : Hid (Upd B comT w w5) := HU4.out.trans (upd_wal_com hu5); have HS5 := Lib.hid hs5; have HLP := Lib.hid (HLOSE.out w5 m hs5.dbi 0); clear hd5 hl5 hu5 hs5 HY4))
        | (go_at_call 56; have _tk := HLP; go_must (refine HLP.out.mono ?_; rintro e w6 ⟨rfl, hdb6, b6, hw6⟩; have hs6 := HS5.out.cell _ hw6 hdb6 hB; have hl6 := HL5.out.cell HS5.out.dbi _ hw6; have HU6 : Hid (Upd B comT w w6) := HU5.out.trans (upd_dbCell HS5.out.dbi _ hw6); have HMS := Lib.hid (tx_ms hs6.tx); have HDH := Lib.hid hs6.dbi.head; have HRD := Lib.hid (HRED.out _ (hs6.row hB)); have HS6 := Lib.hid hs6; have HL6 := Lib.hid hl6; clear hdb6 hw6 hs6 hl6 HLP))
        | (with_reducible refine wpList_load_mid rfl 60 (.tmp 86) rfl t 1 rfl [int' tm.r0, int' tm.r1, int' tm.r2, int' tm.r3, int' tm.high, int' tm.free, int' tm.count] (by kernel_rfl) HMS.out ?_)
        | (with_reducible refine wpList_store_mid rfl 60 (.tmp 89) (.tmp 87) rfl x 3 rfl [int' tm.r0, int' tm.r1, int' tm.r2, int' tm.r3, int' tm.high, int' tm.free, int' tm.count] rfl tDB (dbCells db p log m (.pointer none) false) (by kernel_rfl) HDH.out (Nat.le_of_ble_eq_true rfl) (metaOne tm) ?_)
        | (go_at_call 44; go_must (refine HRD.out.mono ?_; rintro e w8 ⟨rfl, hd8, hu8⟩; have hs7 := HS6.out.row hB; have hs8 := hs7.wal (upd_disk_wal hu8) hd8 hB; have HL8 := Lib.hid ((HL6.out.keep (sees_setRow HDH.out rfl _)).keep (hu8.sees logT_disk)); have HU8 : Hid (Upd B comT w w8) := (HU6.out.trans (upd_dbRow HS6.out.dbi _)).trans (upd_disk_com hu8); have HS8 := Lib.hid hs8; have HLQ := Lib.hid (HLOSE.out w8 tm hs8.dbi v3); clear hd8 hu8 hs7 hs8 HRD))
        | (go_at_call 56; go_must (refine HLQ.out.mono ?_; rintro e w9 ⟨rfl, hdb9, b9, hw9⟩; have HDB9 := Lib.hid hdb9; have HW9 := Lib.hid hw9; clear hdb9 hw9)))
      go_ret
      have hd9 : DiskAt B w9 db D3 := by rw [HW9.out]; exact HS8.out.disk.keep (sees_setCell HS8.out.dbi.head rfl 11 _)
      refine ⟨rfl, hd9, fun e => ?_, HU8.out.trans (upd_dbCell HS8.out.dbi _ HW9.out)⟩
      have e2 : v3 = 0 := e
      have h9 := HDB9.out
      rw [e2] at h9
      exact ⟨h9, HL8.out.cell HS8.out.dbi _ HW9.out⟩
    · have hb2 : (v2 != 0) = true := by simpa using hv2
      rw [if_pos hv2] at hrun1
      subst hrun1
      clear hpend
      go_enter Tryz.func20, Tryz.ntmps20
      go_wp2_with (first
        | (go_at_call 53; refine hup.mono ?_; rintro e w' ⟨rfl, rfl⟩)
        | (go_at_call 51; go_must (refine hend.mono ?_; rintro e w1 ⟨rfl, hdb1, htx1, hu1⟩; have HR1 := HREC.out w1 htx1 hu1; have HDB1 := Lib.hid hdb1; have HTX1 := Lib.hid htx1; have HU1 := Lib.hid hu1; clear hdb1 htx1 hu1))
        | (go_at_call 54; go_must (refine HR1.mono ?_; rintro e w2 ⟨ib, rfl, hm2, hb2⟩; obtain ⟨hs2, hl2⟩ := HST.out w1 w2 HDB1.out HTX1.out HU1.out hb2; have k10 := hs2.tx.c10; have kx1 := hs2.dbi.c1; have kx2 := hs2.dbi.c2; have HM2 := Lib.hid hm2; have HU2 : Hid (Upd B comT w w2) := (upd_db_com HU1.out).trans (.of_below hb2); have HS2 := Lib.hid hs2; have HL2 := Lib.hid hl2; clear hm2 hb2 hs2 hl2 HR1))
        | (at_len; refine wpList_len_own _ rfl _ 104 rfl 3 9 Tryz.underlying104 strR ib J.length (mapD strD J) rfl HM2.out ?_; rw [mapD_size])
        | (go_at_call 55; go_must (refine (HROOM.out _ HL2.out).mono ?_; rintro e w3 ⟨rfl, hb3⟩; have hs3 := HS2.out.below hb3 hB; have hl3 := HL2.out.keep (Below.sees hb3); have kx31 := hs3.dbi.c1; have HU3 : Hid (Upd B comT w w3) := HU2.out.trans (.of_below hb3); have HS3 := Lib.hid hs3; have HL3 := Lib.hid hl3; clear hb3 hs3 hl3))
        | (go_at_call 57; go_must (refine (HADD.out _ HL3.out).mono ?_; rintro e w4 ⟨rfl, hl4, hu4⟩; have hs4 := HS3.out.wal (upd_log_wal hu4) (HS3.out.disk.keep (hu4.sees diskT_log)) hB; have kx41 := hs4.dbi.c1; have HU4 : Hid (Upd B comT w w4) := HU3.out.trans (upd_log_com hu4); have HY4 := Lib.hid (HSY.out w4 hl4 hs4); have HS4 := Lib.hid hs4; clear hl4 hu4 hs4))
        | (go_at_call 58; go_must (refine HY4.out.mono ?_; rintro e w5 ⟨rfl, hd5, hl5, hu5⟩; have hs5 := HS4.out.wal hu5 hd5 hB; have HU5 : Hid (Upd B comT w w5) := HU4.out.trans (upd_wal_com hu5); have HS5 := Lib.hid hs5; have HLP := Lib.hid (HLOSE.out w5 m hs5.dbi v2); clear hd5 hl5 hu5 hs5 HY4))
        | (go_at_call 56; have _tk := HLP; go_must (refine HLP.out.mono ?_; rintro e w6 ⟨rfl, hdb6, b6, hw6⟩; have HW6 := Lib.hid hw6; clear hdb6 hw6 HLP)))
      go_ret
      have hd9 : DiskAt B w6 db D2 := by rw [HW6.out]; exact HS5.out.disk.keep (sees_setCell HS5.out.dbi.head rfl 11 _)
      exact ⟨rfl, hd9, fun e => absurd e hv2, HU5.out.trans (upd_dbCell HS5.out.dbi _ HW6.out)⟩
  · have hfb : fitsB L z.length = false := by unfold fitsB; rw [← hrm]; simpa using hfit
    have hrun1 := HRUN.out
    rw [hfb] at hrun1
    simp only [Bool.false_eq_true, if_false] at hrun1
    have hlr1 : LR = Log.sync (Log.reset L) z := by rw [HLRR.out, hfb]; rfl
    obtain ⟨r1, hr1⟩ : ∃ r1, r1 = D.run (settleActs L) := ⟨_, rfl⟩
    rw [← hr1] at hrun1
    have hrecs : L.recs ≠ [] := fun e => by
      rw [e] at hfr
      have : L.bytes.length = 0 := by rw [hfr]; rfl
      have := HSM.out.2
      omega
    have hset : ∀ w3, ComSt B C w3 t mb x db p log m tm mk l D → LogNow B w3 p db L → Calls Tryz.prog 45 #[.pointer (some ⟨x, 0, none⟩)] w3 (WalPost B w3 p db r1 (Log.reset L)) := fun w3 hs3 hl3 => by
      rw [hr1]; exact db_settle hs3.dbi hs3.disk hl3 hrecs (by omega) hep hs3.half hB
    have hpend1 : r1.1.pend.length < 1000000100 := by
      have h1 := run_pend (settleActs L) D
      have h2 : (settleActs L).length = 3 := rfl
      rw [hr1]; omega
    have hadd : ∀ w3, LogNow B w3 p db (Log.reset L) → Calls Tryz.prog 57 #[.pointer (some ⟨p, 0, none⟩), tx z] w3 (AddPost2 B w3 p db (Log.reset L) z) := fun w3 h3 => add_call h3 z hzl (by have := HSM.out.2; show 8 + z.length ≤ 64 * (L.n - 1) - 0; omega)
    have q8 : (rm : Int) < (z.length : Int) + 8 := by omega
    have HSET := Lib.hid hset; have HADD := Lib.hid hadd
    obtain ⟨D1, v1⟩ := r1
    have hpend1 : D1.pend.length < 1000000100 := hpend1
    clear hset hadd hfb hrm hfit hr1 hrecs
    by_cases hv1 : v1 = 0
    · subst hv1
      simp only [ne_eq, not_true_eq_false, if_false] at hrun1
      obtain ⟨r2, hr2⟩ : ∃ r2, r2 = D1.run (syncActs (Log.reset L) z) := ⟨_, rfl⟩
      rw [← hr2] at hrun1
      have hsy : ∀ w4, (∃ bv rv wv, LogIs B w4 p db bv rv wv { Log.reset L with wait := [z] }) → ComSt B C w4 t mb x db p log m tm mk l D1 → Calls Tryz.prog 58 #[.pointer (some ⟨p, 0, none⟩)] w4 (WalPost B w4 p db r2 LR) := fun w4 h4 hs4 => by
        rw [hr2, hlr1]
        exact sync_call h4 HFEW.out.2 (Nat.le_refl _) hs4.disk (by omega) (by have := HSM.out.2; show 0 + (8 + z.length) ≤ 64 * (L.n - 1); omega) hs4.half hB
      have hpend : r2.1.pend.length < 2147483648 := by
        have h1 := run_pend (syncActs (Log.reset L) z) D1
        have h2 := syncActs_len (Log.reset L) z (by have := HSM.out.2; show 0 + (8 + z.length) ≤ 64 * (L.n - 1); omega) HOK.out.nmax
        rw [hr2]; omega
      have HSY := Lib.hid hsy
      obtain ⟨D2, v2⟩ := r2
      clear hr2 hsy hlr1 hpend1
      by_cases hv2 : v2 = 0
      · subst hv2
        simp only [ne_eq, not_true_eq_false, if_false] at hrun1
        obtain ⟨r3, hr3⟩ : ∃ r3, r3 = D2.run (redoActs log J) := ⟨_, rfl⟩
        rw [← hr3] at hrun1
        subst hrun1
        have hred : ∀ w7, ComSt B C w7 t mb x db p log tm tm mk l D2 → Calls Tryz.prog 44 #[.pointer (some ⟨x, 0, none⟩), tx z] w7 (DiskPost B w7 db R) := fun w7 hs7 => by rw [hr3]; exact HREDO.out w7 D2 hpend hs7
        have HRED := Lib.hid hred
        obtain ⟨D3, v3⟩ := R
        clear hr3 hred hpend
        go_enter Tryz.func20, Tryz.ntmps20
        go_wp2_with (first
          | (go_at_call 53; refine hup.mono ?_; rintro e w' ⟨rfl, rfl⟩)
          | (go_at_call 51; go_must (refine hend.mono ?_; rintro e w1 ⟨rfl, hdb1, htx1, hu1⟩; have HR1 := HREC.out w1 htx1 hu1; have HDB1 := Lib.hid hdb1; have HTX1 := Lib.hid htx1; have HU1 := Lib.hid hu1; clear hdb1 htx1 hu1))
          | (go_at_call 54; go_must (refine HR1.mono ?_; rintro e w2 ⟨ib, rfl, hm2, hb2⟩; obtain ⟨hs2, hl2⟩ := HST.out w1 w2 HDB1.out HTX1.out HU1.out hb2; have k10 := hs2.tx.c10; have kx1 := hs2.dbi.c1; have kx2 := hs2.dbi.c2; have HM2 := Lib.hid hm2; have HU2 : Hid (Upd B comT w w2) := (upd_db_com HU1.out).trans (.of_below hb2); have HS2 := Lib.hid hs2; have HL2 := Lib.hid hl2; clear hm2 hb2 hs2 hl2 HR1))
          | (at_len; refine wpList_len_own _ rfl _ 104 rfl 3 9 Tryz.underlying104 strR ib J.length (mapD strD J) rfl HM2.out ?_; rw [mapD_size])
          | (go_at_call 55; go_must (refine (HROOM.out _ HL2.out).mono ?_; rintro e w3 ⟨rfl, hb3⟩; have hs3 := HS2.out.below hb3 hB; have hl3 := HL2.out.keep (Below.sees hb3); have kx31 := hs3.dbi.c1; have HU3 : Hid (Upd B comT w w3) := HU2.out.trans (.of_below hb3); have HS3 := Lib.hid hs3; have HL3 := Lib.hid hl3; clear hb3 hs3 hl3))
          | (go_at_call 45; go_must (refine (HSET.out _ HS3.out HL3.out).mono ?_; rintro e wa ⟨rfl, hda, hla, hua⟩; have hsa := HS3.out.wal hua hda hB; have HLA := Lib.hid (hla rfl); have HUA : Hid (Upd B comT w wa) := HU3.out.trans (upd_wal_com hua); have HSA := Lib.hid hsa; have HLO := Lib.hid (HLOSE.out wa m hsa.dbi 0); clear hda hla hua hsa))
          | (go_at_call 56; have _tk := HLO; go_must (refine HLO.out.mono ?_; rintro e wb ⟨rfl, hdbb, bb, hwb⟩; have hsb := HSA.out.cell _ hwb hdbb hB; have hlb := HLA.out.cell HSA.out.dbi _ hwb; have kxb1 := hsb.dbi.c1; have HU3' : Hid (Upd B comT w wb) := HUA.out.trans (upd_dbCell HSA.out.dbi _ hwb); have HS3' := Lib.hid hsb; have HL3' := Lib.hid hlb; clear hdbb hwb hsb hlb HLO))
          | (go_at_call 57; go_must (refine (HADD.out _ HL3'.out).mono ?_; rintro e w4 ⟨rfl, hl4, hu4⟩; have hs4 := HS3'.out.wal (upd_log_wal hu4) (HS3'.out.disk.keep (hu4.sees diskT_log)) hB; have kx41 := hs4.dbi.c1; have HU4 : Hid (Upd B comT w w4) := HU3'.out.trans (upd_log_com hu4); have HY4 := Lib.hid (HSY.out w4 hl4 hs4); have HS4 := Lib.hid hs4; clear hl4 hu4 hs4))
          | (go_at_call 58; go_must (refine HY4.out.mono ?_; rintro e w5 ⟨rfl, hd5, hl5, hu5⟩; have hs5 := HS4.out.wal hu5 hd5 hB; have HL5 := Lib.hid (hl5 rfl); have HU5 : Hid (Upd B comT w w5) := HU4.out.trans (upd_wal_com hu5); have HS5 := Lib.hid hs5; have HLP := Lib.hid (HLOSE.out w5 m hs5.dbi 0); clear hd5 hl5 hu5 hs5 HY4))
          | (go_at_call 56; have _tk := HLP; go_must (refine HLP.out.mono ?_; rintro e w6 ⟨rfl, hdb6, b6, hw6⟩; have hs6 := HS5.out.cell _ hw6 hdb6 hB; have hl6 := HL5.out.cell HS5.out.dbi _ hw6; have HU6 : Hid (Upd B comT w w6) := HU5.out.trans (upd_dbCell HS5.out.dbi _ hw6); have HMS := Lib.hid (tx_ms hs6.tx); have HDH := Lib.hid hs6.dbi.head; have HRD := Lib.hid (HRED.out _ (hs6.row hB)); have HS6 := Lib.hid hs6; have HL6 := Lib.hid hl6; clear hdb6 hw6 hs6 hl6 HLP))
          | (with_reducible refine wpList_load_mid rfl 60 (.tmp 86) rfl t 1 rfl [int' tm.r0, int' tm.r1, int' tm.r2, int' tm.r3, int' tm.high, int' tm.free, int' tm.count] (by kernel_rfl) HMS.out ?_)
          | (with_reducible refine wpList_store_mid rfl 60 (.tmp 89) (.tmp 87) rfl x 3 rfl [int' tm.r0, int' tm.r1, int' tm.r2, int' tm.r3, int' tm.high, int' tm.free, int' tm.count] rfl tDB (dbCells db p log m (.pointer none) false) (by kernel_rfl) HDH.out (Nat.le_of_ble_eq_true rfl) (metaOne tm) ?_)
          | (go_at_call 44; go_must (refine HRD.out.mono ?_; rintro e w8 ⟨rfl, hd8, hu8⟩; have hs7 := HS6.out.row hB; have hs8 := hs7.wal (upd_disk_wal hu8) hd8 hB; have HL8 := Lib.hid ((HL6.out.keep (sees_setRow HDH.out rfl _)).keep (hu8.sees logT_disk)); have HU8 : Hid (Upd B comT w w8) := (HU6.out.trans (upd_dbRow HS6.out.dbi _)).trans (upd_disk_com hu8); have HS8 := Lib.hid hs8; have HLQ := Lib.hid (HLOSE.out w8 tm hs8.dbi v3); clear hd8 hu8 hs7 hs8 HRD))
          | (go_at_call 56; go_must (refine HLQ.out.mono ?_; rintro e w9 ⟨rfl, hdb9, b9, hw9⟩; have HDB9 := Lib.hid hdb9; have HW9 := Lib.hid hw9; clear hdb9 hw9)))
        go_ret
        have hd9 : DiskAt B w9 db D3 := by rw [HW9.out]; exact HS8.out.disk.keep (sees_setCell HS8.out.dbi.head rfl 11 _)
        refine ⟨rfl, hd9, fun e => ?_, HU8.out.trans (upd_dbCell HS8.out.dbi _ HW9.out)⟩
        have e2 : v3 = 0 := e
        have h9 := HDB9.out
        rw [e2] at h9
        exact ⟨h9, HL8.out.cell HS8.out.dbi _ HW9.out⟩
      · have hb2 : (v2 != 0) = true := by simpa using hv2
        rw [if_pos hv2] at hrun1
        subst hrun1
        clear hpend
        go_enter Tryz.func20, Tryz.ntmps20
        go_wp2_with (first
          | (go_at_call 53; refine hup.mono ?_; rintro e w' ⟨rfl, rfl⟩)
          | (go_at_call 51; go_must (refine hend.mono ?_; rintro e w1 ⟨rfl, hdb1, htx1, hu1⟩; have HR1 := HREC.out w1 htx1 hu1; have HDB1 := Lib.hid hdb1; have HTX1 := Lib.hid htx1; have HU1 := Lib.hid hu1; clear hdb1 htx1 hu1))
          | (go_at_call 54; go_must (refine HR1.mono ?_; rintro e w2 ⟨ib, rfl, hm2, hb2⟩; obtain ⟨hs2, hl2⟩ := HST.out w1 w2 HDB1.out HTX1.out HU1.out hb2; have k10 := hs2.tx.c10; have kx1 := hs2.dbi.c1; have kx2 := hs2.dbi.c2; have HM2 := Lib.hid hm2; have HU2 : Hid (Upd B comT w w2) := (upd_db_com HU1.out).trans (.of_below hb2); have HS2 := Lib.hid hs2; have HL2 := Lib.hid hl2; clear hm2 hb2 hs2 hl2 HR1))
          | (at_len; refine wpList_len_own _ rfl _ 104 rfl 3 9 Tryz.underlying104 strR ib J.length (mapD strD J) rfl HM2.out ?_; rw [mapD_size])
          | (go_at_call 55; go_must (refine (HROOM.out _ HL2.out).mono ?_; rintro e w3 ⟨rfl, hb3⟩; have hs3 := HS2.out.below hb3 hB; have hl3 := HL2.out.keep (Below.sees hb3); have kx31 := hs3.dbi.c1; have HU3 : Hid (Upd B comT w w3) := HU2.out.trans (.of_below hb3); have HS3 := Lib.hid hs3; have HL3 := Lib.hid hl3; clear hb3 hs3 hl3))
          | (go_at_call 45; go_must (refine (HSET.out _ HS3.out HL3.out).mono ?_; rintro e wa ⟨rfl, hda, hla, hua⟩; have hsa := HS3.out.wal hua hda hB; have HLA := Lib.hid (hla rfl); have HUA : Hid (Upd B comT w wa) := HU3.out.trans (upd_wal_com hua); have HSA := Lib.hid hsa; have HLO := Lib.hid (HLOSE.out wa m hsa.dbi 0); clear hda hla hua hsa))
          | (go_at_call 56; have _tk := HLO; go_must (refine HLO.out.mono ?_; rintro e wb ⟨rfl, hdbb, bb, hwb⟩; have hsb := HSA.out.cell _ hwb hdbb hB; have hlb := HLA.out.cell HSA.out.dbi _ hwb; have kxb1 := hsb.dbi.c1; have HU3' : Hid (Upd B comT w wb) := HUA.out.trans (upd_dbCell HSA.out.dbi _ hwb); have HS3' := Lib.hid hsb; have HL3' := Lib.hid hlb; clear hdbb hwb hsb hlb HLO))
          | (go_at_call 57; go_must (refine (HADD.out _ HL3'.out).mono ?_; rintro e w4 ⟨rfl, hl4, hu4⟩; have hs4 := HS3'.out.wal (upd_log_wal hu4) (HS3'.out.disk.keep (hu4.sees diskT_log)) hB; have kx41 := hs4.dbi.c1; have HU4 : Hid (Upd B comT w w4) := HU3'.out.trans (upd_log_com hu4); have HY4 := Lib.hid (HSY.out w4 hl4 hs4); have HS4 := Lib.hid hs4; clear hl4 hu4 hs4))
          | (go_at_call 58; go_must (refine HY4.out.mono ?_; rintro e w5 ⟨rfl, hd5, hl5, hu5⟩; have hs5 := HS4.out.wal hu5 hd5 hB; have HU5 : Hid (Upd B comT w w5) := HU4.out.trans (upd_wal_com hu5); have HS5 := Lib.hid hs5; have HLP := Lib.hid (HLOSE.out w5 m hs5.dbi v2); clear hd5 hl5 hu5 hs5 HY4))
          | (go_at_call 56; have _tk := HLP; go_must (refine HLP.out.mono ?_; rintro e w6 ⟨rfl, hdb6, b6, hw6⟩; have HW6 := Lib.hid hw6; clear hdb6 hw6 HLP)))
        go_ret
        have hd9 : DiskAt B w6 db D2 := by rw [HW6.out]; exact HS5.out.disk.keep (sees_setCell HS5.out.dbi.head rfl 11 _)
        exact ⟨rfl, hd9, fun e => absurd e hv2, HU5.out.trans (upd_dbCell HS5.out.dbi _ HW6.out)⟩
    · have hb1 : (v1 != 0) = true := by simpa using hv1
      rw [if_pos hv1] at hrun1
      subst hrun1
      clear hlr1 hpend1
      go_enter Tryz.func20, Tryz.ntmps20
      go_wp2_with (first
        | (go_at_call 53; refine hup.mono ?_; rintro e w' ⟨rfl, rfl⟩)
        | (go_at_call 51; go_must (refine hend.mono ?_; rintro e w1 ⟨rfl, hdb1, htx1, hu1⟩; have HR1 := HREC.out w1 htx1 hu1; have HDB1 := Lib.hid hdb1; have HTX1 := Lib.hid htx1; have HU1 := Lib.hid hu1; clear hdb1 htx1 hu1))
        | (go_at_call 54; go_must (refine HR1.mono ?_; rintro e w2 ⟨ib, rfl, hm2, hb2⟩; obtain ⟨hs2, hl2⟩ := HST.out w1 w2 HDB1.out HTX1.out HU1.out hb2; have k10 := hs2.tx.c10; have kx1 := hs2.dbi.c1; have kx2 := hs2.dbi.c2; have HM2 := Lib.hid hm2; have HU2 : Hid (Upd B comT w w2) := (upd_db_com HU1.out).trans (.of_below hb2); have HS2 := Lib.hid hs2; have HL2 := Lib.hid hl2; clear hm2 hb2 hs2 hl2 HR1))
        | (at_len; refine wpList_len_own _ rfl _ 104 rfl 3 9 Tryz.underlying104 strR ib J.length (mapD strD J) rfl HM2.out ?_; rw [mapD_size])
        | (go_at_call 55; go_must (refine (HROOM.out _ HL2.out).mono ?_; rintro e w3 ⟨rfl, hb3⟩; have hs3 := HS2.out.below hb3 hB; have hl3 := HL2.out.keep (Below.sees hb3); have kx31 := hs3.dbi.c1; have HU3 : Hid (Upd B comT w w3) := HU2.out.trans (.of_below hb3); have HS3 := Lib.hid hs3; have HL3 := Lib.hid hl3; clear hb3 hs3 hl3))
        | (go_at_call 45; go_must (refine (HSET.out _ HS3.out HL3.out).mono ?_; rintro e wa ⟨rfl, hda, hla, hua⟩; have hsa := HS3.out.wal hua hda hB; have HUA : Hid (Upd B comT w wa) := HU3.out.trans (upd_wal_com hua); have HSA := Lib.hid hsa; have HLO := Lib.hid (HLOSE.out wa m hsa.dbi v1); clear hda hla hua hsa))
        | (go_at_call 56; have _tk := HLO; go_must (refine HLO.out.mono ?_; rintro e wb ⟨rfl, hdbb, bb, hwb⟩; have HWB := Lib.hid hwb; clear hdbb hwb HLO)))
      go_ret
      have hd9 : DiskAt B wb db D1 := by rw [HWB.out]; exact HSA.out.disk.keep (sees_setCell HSA.out.dbi.head rfl 11 _)
      exact ⟨rfl, hd9, fun e => absurd e hv1, HUA.out.trans (upd_dbCell HSA.out.dbi _ HWB.out)⟩
end Go.Proofs.YthbbammibdhohaaGreatDoor

namespace Go.Proofs.YthbbammibdhohaaGreatDoor
open Go.RowKit Aq Go.Rgn

/-- what the sectors may hold, if the power goes now -/
def Cont (D : Disk) (f : Nat → Bs) : Prop := ∀ i, i < D.kept.length → D.poss i (f i)
def imgF (f : Nat → Bs) (log id : Nat) : Bs := (List.range 8).flatMap fun k => f (log + id * 8 + k)
def secsF (f : Nat → Bs) (k : Nat) : Bs := (List.range k).flatMap fun i => f (1 + i)
def LogF (f : Nat → Bs) (n epoch : Nat) (recs : List Bs) : Prop :=
  (f 0 = zeros 64 ∧ epoch = 0 ∧ recs = []) ∨
  (f 0 = headB epoch (framesB recs).length ∧ epoch ≤ 4611686018427387904 ∧ (∀ r ∈ recs, r.length ≤ 65536) ∧ (framesB recs).length ≤ 64 * (n - 1) ∧
    (secsF f (((framesB recs).length + 63) / 64)).take (framesB recs).length = framesB recs)
theorem logF_iff (D : Disk) (n epoch : Nat) (recs : List Bs) : LogOn D n epoch recs ↔ LogF D.look n epoch recs := Iff.rfl
theorem imgF_eq (D : Disk) (log id : Nat) : imgOf D log id = imgF D.look log id := rfl
/-- the last bytes that a list of pages has for a page -/
def lastPg (id : Nat) : List Pg → Option Bs
  | [] => none
  | x :: l => match lastPg id l with
    | some b => some b
    | none => if x.1 = id then some x.2 else none
def viewF (f : Nat → Bs) (log : Nat) (pss : List (List Pg)) (id : Nat) : Bs := (lastPg id pss.flatten).getD (imgF f log id)
structure FoundF (f : Nat → Bs) (log ep cnt : Nat) (pss : List (List Pg)) (W : Nat → Bs) : Prop where
  lg : LogF f log ep (pss.map recB)
  ok : ∀ ps ∈ pss, PgsOk cnt ps
  view : ∀ id, id < cnt → viewF f log pss id = W id
theorem secsF_len {f : Nat → Bs} : ∀ k, (∀ j, j < k → (f (1 + j)).length = 64) → (secsF f k).length = 64 * k := by
  intro k
  induction k with
  | zero => intro _; rfl
  | succ k ih =>
    intro h
    have e : secsF f (k + 1) = secsF f k ++ f (1 + k) := by simp [secsF, List.range_succ]
    rw [e, List.length_append, ih (fun j hj => h j (by omega)), h k (by omega)]; omega
theorem secsF_get {f : Nat → Bs} : ∀ k, (∀ j, j < k → (f (1 + j)).length = 64) → ∀ i, i < 64 * k → (secsF f k)[i]? = (f (1 + i / 64))[i % 64]? := by
  intro k
  induction k with
  | zero => intro _ i hi; omega
  | succ k ih =>
    intro h i hi
    have e : secsF f (k + 1) = secsF f k ++ f (1 + k) := by simp [secsF, List.range_succ]
    have hl := secsF_len k (fun j hj => h j (by omega))
    rw [e]
    by_cases hk : i < 64 * k
    · rw [List.getElem?_append_left (by omega)]
      exact ih (fun j hj => h j (by omega)) i hk
    · rw [List.getElem?_append_right (by omega), hl]
      have e1 : i / 64 = k := by omega
      have e2 : i % 64 = i - 64 * k := by omega
      rw [e1, e2]
/-- the sectors hold these bytes -/
def SecE (f : Nat → Bs) (b : Bs) : Prop := ∀ i, i < b.length → (f (1 + i / 64))[i % 64]? = b[i]?
theorem secs_iff {f : Nat → Bs} {b : Bs} (h : ∀ j, 64 * j < b.length → (f (1 + j)).length = 64) : (secsF f ((b.length + 63) / 64)).take b.length = b ↔ SecE f b := by
  have hk : ∀ j, j < (b.length + 63) / 64 → (f (1 + j)).length = 64 := fun j hj => h j (by omega)
  have hl := secsF_len _ hk
  have hg := secsF_get _ hk
  constructor
  · intro e i hi
    have h1 := congrArg (fun l : Bs => l[i]?) e
    simp only [List.getElem?_take_of_lt hi] at h1
    rw [← h1, hg i (by omega)]
  · intro e
    apply List.ext_getElem?
    intro i
    by_cases hi : i < b.length
    · rw [List.getElem?_take_of_lt hi, hg i (by omega), e i hi]
    · rw [List.getElem?_eq_none (by rw [List.length_take]; omega), List.getElem?_eq_none (by omega)]
theorem cont_len {D : Disk} (hok : D.Ok) {f : Nat → Bs} (hc : Cont D f) (i : Nat) (hi : i < D.kept.length) : (f i).length = 64 := (poss_lt hok (hc i hi)).2
theorem cont_look (D : Disk) : Cont D D.look := fun _ hi => look_poss hi
theorem imgF_len {f : Nat → Bs} {log id : Nat} (h : ∀ k, k < 8 → (f (log + id * 8 + k)).length = 64) : (imgF f log id).length = 512 := by
  have : ∀ n, n ≤ 8 → ((List.range n).flatMap fun k => f (log + id * 8 + k)).length = 64 * n := by
    intro n
    induction n with
    | zero => intro _; rfl
    | succ n ih => intro hn; rw [List.range_succ, List.flatMap_append, List.length_append, ih (by omega)]; simp [h n (by omega)]; omega
  exact this 8 (Nat.le_refl _)
theorem imgF_congr {f g : Nat → Bs} {log id : Nat} (h : ∀ k, k < 8 → f (log + id * 8 + k) = g (log + id * 8 + k)) : imgF f log id = imgF g log id := by
  unfold imgF
  simp only [List.flatMap]
  congr 1
  exact List.map_congr_left fun k hk => h k (List.mem_range.1 hk)
theorem sect_len {b : Bs} (h : b.length = 512) {k : Nat} (hk : k < 8) : (sect b k).length = 64 := by simp [sect, h]; omega
theorem pad_full {b : Bs} (h : b.length = 64) : pad b = b := by simp [pad, h, zeros]
/-- a page that lies sector by sector -/
theorem imgF_of_sect {f : Nat → Bs} {log id : Nat} {b : Bs} (hb : b.length = 512) (h : ∀ k, k < 8 → f (log + id * 8 + k) = sect b k) : imgF f log id = b := by
  have e : ∀ n, n ≤ 8 → ((List.range n).flatMap fun k => f (log + id * 8 + k)) = b.take (64 * n) := by
    intro n
    induction n with
    | zero => intro _; simp
    | succ n ih =>
      intro hn
      rw [List.range_succ, List.flatMap_append, ih (by omega)]
      simp only [List.flatMap_cons, List.flatMap_nil, List.append_nil]
      rw [h n (by omega), sect, show 64 * (n + 1) = 64 * n + 64 from by omega, List.take_add]
  have h8 := e 8 (Nat.le_refl _)
  rw [List.take_of_length_le (by omega)] at h8
  exact h8
theorem lastPg_append (id : Nat) (l m : List Pg) : lastPg id (l ++ m) = (lastPg id m).or (lastPg id l) := by
  induction l with
  | nil => simp [lastPg]
  | cons a l ih =>
    simp only [List.cons_append, lastPg, ih]
    cases lastPg id m with
    | some s => rfl
    | none => simp
theorem lastPg_mem {id : Nat} {b : Bs} : ∀ {l : List Pg}, lastPg id l = some b → (id, b) ∈ l := by
  intro l
  induction l with
  | nil => intro h; cases h
  | cons a l ih =>
    intro h
    simp only [lastPg] at h
    split at h
    · injection h with h; subst h; exact List.mem_cons_of_mem _ (ih ‹_›)
    · split at h
      · injection h with h; subst h; rename_i _ ha; subst ha; exact List.mem_cons_self ..
      · cases h
theorem lastPg_none {id : Nat} : ∀ {l : List Pg}, lastPg id l = none → ∀ x ∈ l, x.1 ≠ id := by
  intro l
  induction l with
  | nil => intro _ x hx; cases hx
  | cons a l ih =>
    intro h x hx
    simp only [lastPg] at h
    split at h
    · cases h
    · split at h
      · cases h
      · rename_i ha
        rcases List.mem_cons.1 hx with rfl | hx
        · exact ha
        · exact ih ‹_› x hx
theorem lastPg_of_mem {id : Nat} {b : Bs} {l : List Pg} (h : (id, b) ∈ l) : ∃ c, lastPg id l = some c := by
  cases hl : lastPg id l with
  | some c => exact ⟨c, rfl⟩
  | none => exact absurd rfl (lastPg_none hl _ h)
/-- the run of acts, as far as it went -/
structure Halted (D : Disk) (l : List DAct) (D' : Disk) : Prop where
  len : D'.kept.length = D.kept.length
  down : D'.down = true
  ok : D'.Ok
  poss : ∀ i s, i < D.kept.length → D'.poss i s → D.poss i s ∨ ∃ t, .W i t ∈ l ∧ s = pad t
theorem run_cases {l : List DAct} {D : Disk} (hok : D.Ok) (hd : D.down = false) (hl : ∀ a ∈ l, ActIn D.kept.length a) :
    ((D.run l).2 = 0 ∧ Ran D l (D.run l).1) ∨ ((D.run l).2 = 10 ∧ Halted D l (D.run l).1) := by
  rcases run_two hok hd hl with h | ⟨h, m, a, r, D1, h1, h2, h3, h4, h5, h6⟩
  · exact .inl h
  · refine .inr ⟨h, by rw [h5.kept, h4.len], h5.down, h6, fun i s hi hp => ?_⟩
    rcases h4.poss i s hi (h5.poss.1 hp) with h7 | ⟨t, ht, hs⟩
    · exact .inl h7
    · exact .inr ⟨t, by rw [h1]; exact List.mem_append_left _ ht, hs⟩
/-- f, turned back where it is none of what D may hold -/
theorem cont_back {D : Disk} (f : Nat → Bs) : ∃ g, Cont D g ∧ ∀ i, i < D.kept.length → D.poss i (f i) → g i = f i := by
  classical
  refine ⟨fun i => if D.poss i (f i) then f i else D.look i, fun i hi => ?_, fun i _ h => ?_⟩
  · by_cases h : D.poss i (f i)
    · simp only [h, if_true]
    · simp only [h, if_false]; exact look_poss hi
  · simp only [h, if_true]
theorem cont_mono {D D' : Disk} (hl : D'.kept.length = D.kept.length) (h : ∀ i s, i < D.kept.length → D'.poss i s → D.poss i s) {f : Nat → Bs} (hc : Cont D' f) : Cont D f := fun i hi => h i _ hi (hc i (by rw [hl]; exact hi))
end Go.Proofs.YthbbammibdhohaaGreatDoor
