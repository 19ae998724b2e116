/- pagedb.Open on a disk with a log comes to the model's. Conditions as stated. Small maps as rising lists: plain Lean, no program. No condition. A transaction's map in memory. No condition. A transaction in memory; it is begun; its up, end, Abort. Conditions as stated. -/
import Derived.Maps.RangeWalk
import Derived.Maps.OwnSet
import Derived.Lib.Builder
import Derived.Test.YthbbammibdhohaaGreatDoorZG7
set_option linter.unusedSimpArgs false
set_option linter.unusedVariables false
namespace Go.Proofs.YthbbammibdhohaaGreatDoor
open Go.RowKit Aq Go.Rgn

theorem frames_pages (pss : List (List Pg)) (n : Nat) (h : ∀ ps ∈ pss, PgsOk n ps) : 516 * pss.flatten.length ≤ (framesB (pss.map recB)).length := by
  induction pss with
  | nil => exact Nat.le_refl _
  | cons ps pss ih =>
    have h1 := ih fun q hq => h q (List.mem_cons_of_mem _ hq)
    show _ ≤ (frameB (recB ps) ++ framesB (pss.map recB)).length
    rw [List.length_append, frame_len, rec_size (h ps (List.mem_cons_self ..)), List.flatten_cons, List.length_append]
    omega
theorem redoAll_len (log : Nat) (pss : List (List Pg)) : (redoAll log pss).length = 8 * pss.flatten.length := by
  induction pss with
  | nil => rfl
  | cons ps pss ih =>
    show (redoActs log ps ++ redoAll log pss).length = _
    rw [List.length_append, ih, redoActs_len, List.flatten_cons, List.length_append]; omega
theorem redoAll_snoc (log : Nat) (pss : List (List Pg)) (i : Nat) (hi : i < pss.length) : redoAll log (pss.take (i + 1)) = redoAll log (pss.take i) ++ redoActs log pss[i] := by
  unfold redoAll; rw [List.take_succ_eq_append_getElem hi, List.flatMap_append, List.flatMap_cons, List.flatMap_nil, List.append_nil]
theorem redoAll_stop {D D1 : Disk} {v : Int} {log e i : Nat} {pss : List (List Pg)} (h : D.run (redoAll log (pss.take i)) = (D1, v)) (hx : v ≠ 0) : D.run (openActs log e pss) = (D1, v) := by
  have e1 : redoAll log pss = redoAll log (pss.take i) ++ redoAll log (pss.drop i) := by
    unfold redoAll; rw [← List.flatMap_append, List.take_append_drop]
  rw [openActs, e1, List.append_assoc, Disk.run_append, h, if_neg hx]
theorem write_len (D : Disk) (i : Int) (s : Bs) : (D.write i s).1.kept.length = D.kept.length := by
  have h := does_kept D
  unfold Disk.write
  split
  · rfl
  split
  · rfl
  split
  · rfl
  split
  · show D.does.1.kept.length = _; rw [h.1]
  · rw [h.1]
theorem flush_len (D : Disk) : D.flush.1.kept.length = D.kept.length := by
  have h := does_kept D
  unfold Disk.flush
  split
  · rfl
  split
  · exact Aq.apply_len _ _
  · rw [h.1]
theorem run_len (l : List DAct) : ∀ D : Disk, (D.run l).1.kept.length = D.kept.length := by
  induction l with
  | nil => intro D; rfl
  | cons a l ih =>
    intro D
    have h1 : (D.act a).1.kept.length = D.kept.length := by
      cases a with
      | W i s => exact write_len D i s
      | F => exact flush_len D
    simp only [Disk.run]
    split
    · rw [ih, h1]
    · exact h1
theorem dbT_wal (t : Nat) (h : dbT t = true) : walT t = false := by simp only [dbT, beq_iff_eq] at h; subst h; rfl
theorem sees_setCell {B : Nat} {T : Nat → Bool} {w : World} {p : Nat} {cs : Array Value} {t : Nat} {fr : Nat × Nat} (hp : w.heap[p]? = some (.cells cs t fr)) (ht : T t = false) (i : Nat) (u : Value) : Sees B T w (w.setCell ⟨p, i, none⟩ u) := fun k o _ hk hT => by
  rw [heap_setCell_other _ _ _ _ (fun e => ?_)]; exact hk
  have e : k = p := e
  subst e; rw [hp] at hk; injection hk with hk; subst hk
  rw [show tag (.cells cs t fr) = t from rfl, ht] at hT; cases hT
theorem setCell_db {B : Nat} {w : World} {b : Nat} {D : Disk} (h : DiskAt B w b D) {p : Nat} {cs : Array Value} {fr : Nat × Nat} (hp : w.heap[p]? = some (.cells cs tDB fr)) (i : Nat) (u : Value) : DiskAt B (w.setCell ⟨p, i, none⟩ u) b D :=
  h.keep (sees_setCell hp rfl i u)
/-- what was not there at first may be written -/
theorem Upd.newCell {B : Nat} {T : Nat → Bool} {w0 w : World} (h : Upd B T w0 w) {x : Nat} (hx : w0.heap.size ≤ x) (i : Nat) (u : Value) : Upd B T w0 (w.setCell ⟨x, i, none⟩ u) :=
  ⟨h.os, h.tape, h.output, by simpa using h.size, fun k o hk hc => by
    rw [heap_setCell_other _ _ _ _ (fun e => ?_)]; exact h.block k o hk hc
    have e : k = x := e
    have := lt_of_some hk
    omega⟩
theorem sees_setRow {B : Nat} {T : Nat → Bool} {w : World} {p : Nat} {cs : Array Value} {t : Nat} {fr : Nat × Nat} (hp : w.heap[p]? = some (.cells cs t fr)) (ht : T t = false) (u : Array Value) : Sees B T w (w.setRow p u) := fun k o _ hk hT => by
  rw [setRow_other _ _ _ _ (fun e => ?_)]; exact hk
  have e : k = p := e
  subst e; rw [hp] at hk; injection hk with hk; subst hk
  rw [show tag (.cells cs t fr) = t from rfl, ht] at hT; cases hT
theorem Upd.newRow {B : Nat} {T : Nat → Bool} {w0 w : World} (h : Upd B T w0 w) {x : Nat} (hx : w0.heap.size ≤ x) (u : Array Value) : Upd B T w0 (w.setRow x u) :=
  ⟨h.os, h.tape, h.output, by simpa using h.size, fun k o hk hc => by
    rw [setRow_other _ _ _ _ (fun e => ?_)]; exact h.block k o hk hc
    have e : k = x := e
    have := lt_of_some hk
    omega⟩
theorem metaOne (m : Meta) : ∀ v ∈ [int' m.r0, int' m.r1, int' m.r2, int' m.r3, int' m.high, int' m.free, int' m.count], v.oneCell' = true := by
  intro v hv; simp only [List.mem_cons, List.not_mem_nil, or_false] at hv; rcases hv with rfl | rfl | rfl | rfl | rfl | rfl | rfl <;> rfl
def OpenLoopInv (B : Nat) (w0 : World) (x db p log : Nat) (D : Disk) (L : Log) (pss : List (List Pg)) (sv : Value) (v : Value) (wr : World) : Prop :=
  ∃ i : Nat, i ≤ pss.length ∧ v = .int .i64 (i : Int) ∧ (D.run (redoAll log (pss.take i))).2 = 0 ∧ DiskAt B wr db (D.run (redoAll log (pss.take i))).1 ∧ DbIs B wr x db p log meta00 (.pointer none) false ∧
    LogNow B wr p db L ∧ RowIs B wr 9 sv (txs (pss.map recB)) ∧ Upd B diskT w0 wr
/-- what pagedb.Open comes to -/
def DbOpenPost (B : Nat) (w : World) (db log : Nat) (r : Disk × Int) (m : Meta) (L : Log) (e : Ending) (w' : World) : Prop :=
  DiskAt B w' db r.1 ∧ Upd B walT w w' ∧
    (r.2 ≠ 0 → e = .returned (.tuple #[.pointer none, .int .i64 r.2])) ∧
    (r.2 = 0 → ∃ x p, e = .returned (.tuple #[.pointer (some ⟨x, 0, none⟩), .int .i64 0]) ∧ w.heap.size ≤ x ∧ DbIs B w' x db p log m (.pointer none) false ∧ LogNow B w' p db L)
def openLog (log e : Nat) (pss : List (List Pg)) : Log := if pss = [] then freshLog log e [] else Log.reset (freshLog log e (pss.map recB))
set_option maxHeartbeats 4000000 in
set_option maxRecDepth 100000 in
theorem db_Open {B : Nat} {w : World} {db : Nat} {D : Disk} (hd : DiskAt B w db D) (hdn : D.down = false) (hpe : D.pend.length ≤ 1000000000) (hBs : B ≤ w.heap.size) (log : Nat) (h2 : 2 ≤ log) (hlog : log ≤ D.kept.length) (h4 : 4 ≤ (D.kept.length - log) / 8)
    (ep : Nat) (pss : List (List Pg)) (hl : LogOn D log ep (pss.map recB)) (hps : ∀ ps ∈ pss, PgsOk ((D.kept.length - log) / 8) ps) (hep : ep < 4611686018427387904) (m : Meta)
    (hm : ∀ D1, D.run (openActs log ep pss) = (D1, 0) → D1.down = false ∧ ((imgOf D1 log 0 = zeros 512 ∧ m = meta0) ∨ (imgOf D1 log 0 = sealPage 0 1 (metaB m) ∧ m.Ok ∧ 1 ≤ m.high ∧ m.high ≤ (D.kept.length - log) / 8)))
    (hH : HalfAt w) (hB : 0 < B) :
    Calls Tryz.prog 11 #[.pointer (some ⟨db, 0, none⟩), .int .i64 (log : Int)] w (DbOpenPost B w db log (D.run (openActs log ep pss)) m (openLog log ep pss)) := by
  have hw := wal_Open_any hd hdn log h2 hlog ep (pss.map recB) hl hH hB
  have hmost : D.kept.length ≤ 65536 := by obtain ⟨kb, pv, dn, h⟩ := hd; exact h.ok.most
  have hc : ∀ p w1, Below w.heap.size w w1 → Calls Tryz.prog 24 #[.pointer (some ⟨w1.heap.size, 0, none⟩)] (w1.alloc (.cells (newCells db p log) tDB)) (IntPost (w1.alloc (.cells (newCells db p log) tDB)) .i64 (((D.kept.length - log) / 8 : Nat) : Int)) := fun p w1 hb =>
    db_Count (db_new db p log (Nat.le_trans hBs hb.size)) (hd.keep (Below.sees (hb.alloc hb.size _))) hlog
  have hfl : 8 * pss.flatten.length ≤ 65536 := by
    have h1 := frames_pages pss _ hps
    rcases hl with ⟨_, _, h⟩ | ⟨_, _, _, h, _⟩
    · have : pss = [] := List.map_eq_nil_iff.1 h
      subst this; exact Nat.zero_le _
    · omega
  have hfew : pss.length ≤ 4194304 := by
    have h1 := framesB_few (pss.map recB)
    rw [List.length_map] at h1
    rcases hl with ⟨_, _, h⟩ | ⟨_, _, _, h, _⟩
    · have : pss = [] := List.map_eq_nil_iff.1 h
      subst this; exact Nat.zero_le _
    · omega
  obtain ⟨c, hcc⟩ : ∃ c, c = (D.kept.length - log) / 8 := ⟨_, rfl⟩
  obtain ⟨L, hL⟩ : ∃ L, L = freshLog log ep (pss.map recB) := ⟨_, rfl⟩
  obtain ⟨R, hR⟩ : ∃ R, R = D.run (openActs log ep pss) := ⟨_, rfl⟩
  rw [← hR] at hm ⊢
  rw [← hcc] at hc h4 hps
  rw [← hL] at hw
  have g1 : ¬ ((c : Int) < 4) := by omega
  have HD := Lib.hid hd; have HL := Lib.hid hl; have HPS := Lib.hid hps; have HM := Lib.hid hm; have HH := Lib.hid hH; have HLL := Lib.hid hL; have HRR := Lib.hid hR; have HCC := Lib.hid hcc; have HDN := Lib.hid hdn; have HPE := Lib.hid hpe
  clear hd hl hps hm hH hL hR hcc hdn hpe
  go_enter Tryz.func11, Tryz.ntmps11
  go_wp2_with (first
    | (go_at_call 41; go_must (refine hw.mono ?_; rintro e w1 ⟨p, rfl, hl1, hp1, hb1⟩; have HC := hc p w1 hb1; have HL1 := Lib.hid hl1; have HB1 := Lib.hid hb1; clear hb1 hl1 hp1))
    | (go_at_call 24; go_must (refine HC.mono ?_; rintro e w2 ⟨rfl, hb2⟩; have hb12 : Below w1.heap.size w1 w2 := ((Below.refl _ w1).alloc (Nat.le_refl _) _).trans (hb2.mono (by simp)); have hdb2 : DbIs B w2 w1.heap.size db p log meta00 (.pointer none) false := (db_new db p log (Nat.le_trans hBs HB1.out.size)).keep (Below.sees hb2); have hl2 := HL1.out.keep (Below.sees hb12); have HB2 : Hid (Below w.heap.size w w2) := HB1.out.trans (hb12.mono HB1.out.size); have hx : w.heap.size ≤ w1.heap.size := HB1.out.size; clear hb2 hb12; generalize w1.heap.size = x at hdb2 hx ⊢; have HX := Lib.hid hx; have HDB2 := Lib.hid hdb2; have HL2 := Lib.hid hl2; obtain ⟨bv, rv, hli, _, _, _⟩ := HL2.out; have hrec := log_Records hli; have HREC := Lib.hid hrec; clear hdb2 hl2 hx HC hli hrec))
    | (go_at_call 42; go_must (refine HREC.out.mono ?_; rintro e w3 ⟨sv, rfl, hown3, hb3⟩; obtain ⟨sa, sc, rfl⟩ := owns_shape hown3; have HO3 := Lib.hid hown3; have HB3 := Lib.hid hb3; clear hown3 hb3 HREC)))
  have hrecs : L.recs = pss.map recB := by rw [HLL.out]; rfl
  have hlen : L.recs.length = pss.length := by rw [hrecs, List.length_map]
  have hb03 : Below w.heap.size w w3 := HB2.out.trans (HB3.out.mono HB2.out.size)
  have hrow3 : RowIs B w3 9 (.slice sa L.recs.length sc) (txs (pss.map recB)) := by
    have h := rowIs_low (RowIs.of_owns HO3.out) (Nat.le_trans hBs HB2.out.size)
    rw [hrecs] at h ⊢; exact h
  rw [hlen] at hrow3 ⊢
  have HRW := Lib.hid hrow3; have HB03 := Lib.hid hb03
  have HDB3 : Hid (DbIs B w3 x db p log meta00 (.pointer none) false) := HDB2.out.keep (Below.sees HB3.out)
  have HL3 : Hid (LogNow B w3 p db L) := HL2.out.keep (Below.sees HB3.out)
  have HD3 : Hid (DiskAt B w3 db D) := HD.out.keep (Below.sees hb03)
  have HH3 : Hid (HalfAt w3) := HH.out.below hb03 (Nat.lt_of_lt_of_le hB hBs)
  have HRC := Lib.hid hrecs
  clear hrecs hlen hrow3 hb03 HL2 HDB2
  go_loopw [38] (fun v wr => OpenLoopInv B w3 x db p log D L pss (.slice sa pss.length sc) v wr) (fun v _ => pss.length - (intOf v).toNat)
  case atStart => exact ⟨0, Nat.zero_le _, rfl, rfl, HD3.out, HDB3.out, HL3.out, HRW.out, Upd.refl _ _ _⟩
  case round =>
    obtain ⟨i, hi, rfl, hi0, hdi, hdbi, hli, hri, hui⟩ := hrel
    by_cases hil : i < pss.length
    · obtain ⟨g, rfl, hci⟩ := hri.cell (t := i) (u := tx (recB pss[i])) (by rw [txs, List.map_map, List.getElem?_map, List.getElem?_eq_getElem hil]; rfl)
      obtain ⟨ps, hpsi⟩ : ∃ ps, ps = pss[i] := ⟨_, rfl⟩
      rw [← hpsi] at hci
      have hpo : PgsOk c ps := HPS.out ps (by rw [hpsi]; exact List.getElem_mem _)
      have hkl : (D.run (redoAll log (pss.take i))).1.kept.length = D.kept.length := run_len _ _
      have hsnd := db_sound (D := (D.run (redoAll log (pss.take i))).1) hdbi hdi (by rw [hkl]; exact hlog) ps (by rw [hkl, ← HCC.out]; exact hpo) ⟨(recB ps).toArray⟩ rfl
      have hpl : (D.run (redoAll log (pss.take i))).1.pend.length < 2147483648 := by
        have h1 := run_pend (redoAll log (pss.take i)) D
        rw [redoAll_len] at h1
        have h3 := HPE.out
        have h2 : (pss.take i).flatten.length ≤ pss.flatten.length := by
          conv => rhs; rw [← List.take_append_drop i pss, List.flatten_append, List.length_append]
          omega
        omega
      obtain ⟨r, hr⟩ : ∃ r, r = (D.run (redoAll log (pss.take i))).1.run (redoActs log ps) := ⟨_, rfl⟩
      have hrd : ∀ w1, Below wr.heap.size wr w1 → Calls Tryz.prog 44 #[.pointer (some ⟨x, 0, none⟩), tx (recB ps)] w1 (DiskPost B w1 db r) := fun w1 hb => by
        rw [hr]; exact db_redo (hdbi.keep (Below.sees hb)) (hdi.keep (Below.sees hb)) ps c (by have := HCC.out; omega) hpo ⟨(recB ps).toArray⟩ rfl (by omega) hpl
      have hstep : D.run (redoAll log (pss.take (i + 1))) = r := by
        rw [redoAll_snoc log pss i hil, Disk.run_append, if_pos hi0, hr, hpsi]
      obtain ⟨l, hll⟩ : ∃ l, l = recB ps := ⟨_, rfl⟩
      rw [← hll] at hci hsnd hrd
      have g1 : (i : Int) < (pss.length : Int) := by omega
      have g2 : (i : Int) < 4194304 := by omega
      obtain ⟨D1, v⟩ := r
      have HRD := Lib.hid hrd; have HST := Lib.hid hstep; have HDBI := Lib.hid hdbi; have HLI := Lib.hid hli; have HRI := Lib.hid hri; have HUI := Lib.hid hui; have HSND := Lib.hid hsnd
      clear hdi hdbi hli hri hui hi0 hrd hstep hr hpl hkl hpo hll hpsi hsnd
      by_cases hv : v = 0
      · subst hv
        go_wp2_with (first
          | (go_at_call 43; go_must (refine HSND.out.mono ?_; rintro e w4 ⟨rfl, hb4⟩; have HB4 := Lib.hid hb4; clear hb4))
          | (go_at_call 44; go_must (refine (HRD.out _ HB4.out).mono ?_; rintro e w5 ⟨rfl, hd5, hu5⟩; have HD5 := Lib.hid hd5; have HU5 : Hid (Upd B diskT wr w5) := (Upd.of_below HB4.out).trans hu5; clear hd5 hu5)))
        go_roundw
        case rel => exact ⟨i + 1, hil, congrArg (Value.int .i64) (by omega), by rw [HST.out], by rw [HST.out]; exact HD5.out, HDBI.out.keep (HU5.out.sees diskT_db), HLI.out.keep (HU5.out.sees logT_disk), HRI.out.sees (T := logT) (HU5.out.sees logT_disk) rfl, HUI.out.trans HU5.out⟩
        case measure => simp [intOf]; omega
      · have hb : (v != 0) = true := by simpa using hv
        have hRR : R = (D1, v) := by rw [HRR.out]; exact redoAll_stop HST.out hv
        have HRV := Lib.hid hRR
        clear hRR
        go_wp2_with (first
          | (go_at_call 43; go_must (refine HSND.out.mono ?_; rintro e w4 ⟨rfl, hb4⟩; have HB4 := Lib.hid hb4; clear hb4))
          | (go_at_call 44; go_must (refine (HRD.out _ HB4.out).mono ?_; rintro e w5 ⟨rfl, hd5, hu5⟩; have HD5 := Lib.hid hd5; have HU5 : Hid (Upd B diskT wr w5) := (Upd.of_below HB4.out).trans hu5; clear hd5 hu5)))
        go_ret2
        rw [HRV.out]
        exact ⟨HD5.out, (Upd.of_below HB03.out).trans (upd_disk_wal (HUI.out.trans HU5.out)), fun _ => rfl, fun h => absurd h hv⟩
    · obtain rfl : i = pss.length := by omega
      rw [List.take_length] at hi0 hdi
      have hset : Calls Tryz.prog 45 #[.pointer (some ⟨x, 0, none⟩)] wr (WalPost B wr p db R (openLog log ep pss)) := by
        have hHr : HalfAt wr := HH3.out.upd hui hB (Nat.le_trans (Nat.le_trans hBs HB2.out.size) HB3.out.size)
        have hrun : R = (D.run (redoAll log pss)).1.run (if pss = [] then [] else [.F, .W 0 (headB (ep + 1) 0), .F]) := by
          rw [HRR.out, openActs, Disk.run_append, if_pos hi0]
        by_cases hp0 : pss = []
        · have h1 := db_settle_nil hdbi hli (by rw [HRC.out, hp0]; rfl)
          rw [if_pos hp0] at hrun
          rw [hrun, openLog, if_pos hp0]
          refine h1.mono fun e w' h => ⟨h.1, hdi.keep (Below.sees h.2), fun _ => ?_, .of_below h.2⟩
          have h2 := hli.keep (Below.sees h.2)
          rw [HLL.out, hp0] at h2
          exact h2
        · have hpl : (D.run (redoAll log pss)).1.pend.length < 4294967296 := by
            have h1 := run_pend (redoAll log pss) D
            rw [redoAll_len] at h1
            have h3 := HPE.out
            omega
          have h1 := db_settle hdbi hdi hli (by rw [HRC.out]; intro e; exact hp0 (List.map_eq_nil_iff.1 e)) hpl (by rw [HLL.out]; exact hep) hHr hB
          rw [if_neg hp0] at hrun
          rw [hrun, openLog, if_neg hp0]
          have e2 : settleActs L = [.F, .W 0 (headB (ep + 1) 0), .F] := by rw [HLL.out]; rfl
          rw [e2, HLL.out] at h1
          exact h1
      have hRl : R.1.kept.length = D.kept.length := by rw [HRR.out]; exact run_len _ _
      obtain ⟨D1, v⟩ := R
      have HUI := Lib.hid hui; have HDBI := Lib.hid hdbi; have HRL := Lib.hid hRl
      clear hui hdbi hli hri hdi hi0 hRl
      by_cases hv : v = 0
      · subst hv
        obtain ⟨hdn1, hm1⟩ := HM.out D1 rfl
        have HM1 := Lib.hid hm1; have HDN1 := Lib.hid hdn1
        clear hm1 hdn1
        have hroom : log + 8 ≤ D.kept.length := by have := HCC.out; omega
        rcases HM1.out with ⟨hz, rfl⟩ | ⟨hz, hmo, hm1, hm2⟩
        · have himg : ∀ w4, DbIs B w4 x db p log meta00 (.pointer none) false → DiskAt B w4 db D1 → Calls Tryz.prog 46 #[.pointer (some ⟨x, 0, none⟩), .int .i64 0] w4 (ImgPost w4 (zeros 512)) := fun w4 h1 h2 => by
            have h3 := db_image h1 h2 HDN1.out 0 (by rw [HRL.out]; omega)
            rw [hz] at h3
            exact h3
          have hbl : ∀ w5, Calls Tryz.prog 47 #[tx (zeros 512)] w5 (BlankPost w5 true) := fun w5 => page_Blank w5 ⟨(zeros 512).toArray⟩ (by show (zeros 512).toArray.size = _; simp [zeros]) true (.inl ⟨rfl, rfl⟩)
          obtain ⟨z, hzz⟩ : ∃ z, z = zeros 512 := ⟨_, rfl⟩
          rw [← hzz] at himg hbl
          have HIMG := Lib.hid himg
          clear hz hzz himg
          go_wp2_with (first
            | (go_at_call 45; go_must (refine hset.mono ?_; rintro e w4 ⟨rfl, hd4, hl4, hu4⟩; have HI4 := HIMG.out w4 (HDBI.out.keep (hu4.sees dbT_wal)) hd4; have HD4 := Lib.hid hd4; have HU4 := Lib.hid hu4; have HL4 := Lib.hid (hl4 rfl); clear hd4 hl4 hu4))
            | (go_at_call 46; go_must (refine HI4.mono ?_; rintro e w5 ⟨rfl, hb5⟩; have HB5 := Lib.hid hb5; clear hb5))
            | (go_at_call 47; go_must (refine (hbl _).mono ?_; rintro e w6 ⟨rfl, hb6⟩; have hb46 := HB5.out.trans (hb6.mono HB5.out.size); have hdb6 := (HDBI.out.keep (HU4.out.sees dbT_wal)).keep (Below.sees hb46); have h67 := hdb6.c7; have f67 := hdb6.fr 7; have HB6 := Lib.hid hb46; have HDB6 := Lib.hid hdb6; clear hb6 hb46 hdb6)))
          go_ret2
          have hu6 : Upd B walT w w6 := (Upd.of_below HB03.out).trans ((upd_disk_wal HUI.out).trans (HU4.out.trans (.of_below HB6.out)))
          refine ⟨setCell_db (HD4.out.keep (Below.sees HB6.out)) HDB6.out.head 7 _, ?_, fun h => absurd rfl h, fun _ => ⟨x, p, rfl, HX.out, HDB6.out.field 7 _ rfl, ?_⟩⟩
          · exact hu6.newCell HX.out 7 _
          · exact (HL4.out.keep (Below.sees HB6.out)).keep (sees_setCell HDB6.out.head rfl 7 _)
        · have himg : ∀ w4, DbIs B w4 x db p log meta00 (.pointer none) false → DiskAt B w4 db D1 → Calls Tryz.prog 46 #[.pointer (some ⟨x, 0, none⟩), .int .i64 0] w4 (ImgPost w4 (sealPage 0 1 (metaB m))) := fun w4 h1 h2 => by
            have h3 := db_image h1 h2 HDN1.out 0 (by rw [HRL.out]; omega)
            rw [hz] at h3
            exact h3
          have hsl : (sealPage 0 1 (metaB m)).length = 512 := sealPage_len _ _ _ (by rw [metaB_len]; decide)
          have hbl : ∀ w5, Calls Tryz.prog 47 #[tx (sealPage 0 1 (metaB m))] w5 (BlankPost w5 false) := fun w5 => page_Blank w5 ⟨(sealPage 0 1 (metaB m)).toArray⟩ hsl false (.inr ⟨rfl, UInt8.ofNat 1, List.mem_of_getElem? (seal_get 0 1 (metaB m)).1, by decide⟩)
          have hop : ∀ w6, HalfAt w6 → 0 < w6.heap.size → Calls Tryz.prog 48 #[.int .i64 0, tx (sealPage 0 1 (metaB m))] w6 (POpenPost w6 1 (metaB m)) := fun w6 hh hb => page_Open w6 hh hb 0 1 (metaB m) ⟨(sealPage 0 1 (metaB m)).toArray⟩ rfl (by decide) (by decide) (by decide) (by rw [metaB_len]; decide)
          have hpa : ∀ w7, Calls Tryz.prog 49 #[tx (metaB m)] w7 (ParsePost w7 m) := fun w7 => pagedb_parse w7 m hmo hm1 ⟨(metaB m).toArray⟩ rfl
          have hHr : HalfAt wr := HH3.out.upd HUI.out hB (Nat.le_trans (Nat.le_trans hBs HB2.out.size) HB3.out.size)
          have hsr : w.heap.size ≤ wr.heap.size := Nat.le_trans HB03.out.size HUI.out.size
          have HHR := Lib.hid hHr
          obtain ⟨z, hzz⟩ : ∃ z, z = sealPage 0 1 (metaB m) := ⟨_, rfl⟩
          rw [← hzz] at himg hbl hop
          obtain ⟨z2, hzz2⟩ : ∃ z2, z2 = metaB m := ⟨_, rfl⟩
          rw [← hzz2] at hop hpa
          have HIMG := Lib.hid himg; have HOP := Lib.hid hop; have HMO := Lib.hid hmo
          clear hz hzz hzz2 himg hop hmo hHr hsl
          have g7 : ¬ ((c : Int) < (m.high : Int)) := by have := HCC.out; omega
          have g8 : (m.high : Int) ≤ (c : Int) := by have := HCC.out; omega
          go_wp2_with (first
            | (go_at_call 45; go_must (refine hset.mono ?_; rintro e w4 ⟨rfl, hd4, hl4, hu4⟩; have HI4 := HIMG.out w4 (HDBI.out.keep (hu4.sees dbT_wal)) hd4; have HD4 := Lib.hid hd4; have HU4 := Lib.hid hu4; have HL4 := Lib.hid (hl4 rfl); clear hd4 hl4 hu4))
            | (go_at_call 46; go_must (refine HI4.mono ?_; rintro e w5 ⟨rfl, hb5⟩; have HB5 := Lib.hid hb5; clear hb5))
            | (go_at_call 47; go_must (refine (hbl _).mono ?_; rintro e w6 ⟨rfl, hb6⟩; have hb46 := HB5.out.trans (hb6.mono HB5.out.size); have hh6 := (HHR.out.upd HU4.out hB (Nat.le_trans hBs hsr)).below hb46 (Nat.lt_of_lt_of_le hB (Nat.le_trans (Nat.le_trans hBs hsr) HU4.out.size)); have HO6 := HOP.out w6 hh6 (Nat.lt_of_lt_of_le hB (Nat.le_trans (Nat.le_trans (Nat.le_trans hBs hsr) HU4.out.size) hb46.size)); have HB6 := Lib.hid hb46; clear hb6 hb46 hh6))
            | (go_at_call 48; go_must (refine HO6.mono ?_; rintro e w7 ⟨rfl, hb7⟩; have HB7 := Lib.hid (HB6.out.trans (hb7.mono HB6.out.size)); clear hb7))
            | (go_at_call 49; go_must (refine (hpa _).mono ?_; rintro e w8 ⟨rfl, hb8⟩; have hb48 := HB7.out.trans (hb8.mono HB7.out.size); have HB8 := Lib.hid hb48; clear hb8 hb48))
            | (with_reducible refine wpList_store_new rfl 60 (.tmp 16) (.tmp 85) rfl 60 _ rfl [int' m.r0, int' m.r1, int' m.r2, int' m.r3, int' m.high, int' m.free, int' m.count] rfl (by kernel_rfl) rfl (metaOne m) ?_))
          obtain ⟨w9, hw9⟩ : ∃ w9, w9 = w8.alloc (.cells #[int' m.r0, int' m.r1, int' m.r2, int' m.r3, int' m.high, int' m.free, int' m.count] 60) := ⟨_, rfl⟩
          have h9 : w9.heap[w8.heap.size]? = some (.cells [int' m.r0, int' m.r1, int' m.r2, int' m.r3, int' m.high, int' m.free, int' m.count].toArray 60 (0, 0)) := by rw [hw9]; exact heap_alloc_new w8 _
          have hb9 : Below w4.heap.size w4 w9 := by rw [hw9]; exact HB8.out.trans (((Below.refl _ w8).alloc (Nat.le_refl _) _).mono HB8.out.size)
          have hsz9 : w.heap.size ≤ w8.heap.size := Nat.le_trans hsr (Nat.le_trans HU4.out.size HB8.out.size)
          rw [← hw9]
          clear hw9
          generalize w8.heap.size = b9 at h9 hsz9 ⊢
          have hdb9 : DbIs B w9 x db p log meta00 (.pointer none) false := (HDBI.out.keep (HU4.out.sees dbT_wal)).keep (Below.sees hb9)
          have hd9 : DiskAt B w9 db D1 := HD4.out.keep (Below.sees hb9)
          have h94 := cellAt h9 4 (int' m.high) rfl
          have hcq : ∀ n, Calls Tryz.prog 24 #[.pointer (some ⟨x, 0, none⟩)] (w9.drewN n) fun e w' => e = .returned (.int .i64 (c : Int)) ∧ ∃ k, w' = (w9.drewN n).drewN k := fun n => by
            have h := db_Count_q (w := w9.drewN n) (hdb9.keep (Below.sees ⟨rfl, rfl, rfl, Nat.le_refl _, fun _ _ => rfl⟩)) (hd9.keep (Below.sees ⟨rfl, rfl, rfl, Nat.le_refl _, fun _ _ => rfl⟩)) (by rw [HRL.out]; exact hlog)
            rw [HRL.out, ← HCC.out] at h
            exact h
          have HDB9 := Lib.hid hdb9; have HD9 := Lib.hid hd9; have H9 := Lib.hid h9; have HB9 := Lib.hid hb9
          clear hdb9 hd9 h9 hb9
          go_quiet (first | (go_at_call 24; exact Calls.quiet_of (hcq _)))
          have HLD : Hid (∀ n j v, [int' m.r0, int' m.r1, int' m.r2, int' m.r3, int' m.high, int' m.free, int' m.count][j]? = some v → (w9.drewN n).cell? ⟨b9, 0 + j, none⟩ = some v) := fun n j v hv => cellAt (w := w9.drewN n) H9.out (0 + j) v (by rw [Nat.zero_add]; simpa using hv)
          have HHD : Hid (∀ n, (w9.drewN n).heap[x]? = some (.cells (dbCells db p log meta00 (.pointer none) false) tDB (0, 0))) := fun n => HDB9.out.head
          clear hcq h94
          go_wp2_with (first
            | (with_reducible refine wpList_load_mid rfl 60 (.tmp 16) rfl b9 0 rfl [int' m.r0, int' m.r1, int' m.r2, int' m.r3, int' m.high, int' m.free, int' m.count] (by kernel_rfl) (HLD.out _) ?_)
            | (with_reducible refine wpList_store_mid rfl 60 (.tmp 103) (.tmp 101) rfl x 3 rfl [int' m.r0, int' m.r1, int' m.r2, int' m.r3, int' m.high, int' m.free, int' m.count] rfl tDB (dbCells db p log meta00 (.pointer none) false) (by kernel_rfl) (HHD.out _) (Nat.le_of_ble_eq_true rfl) (metaOne m) ?_))
          go_ret2
          have hu9 : Upd B walT w w9 := (Upd.of_below HB03.out).trans ((upd_disk_wal HUI.out).trans (HU4.out.trans (.of_below HB9.out)))
          refine ⟨HD9.out.keep (sees_setRow (HHD.out _) rfl _), (hu9.drewN _).newRow HX.out _, fun h => absurd rfl h, fun _ => ⟨x, p, rfl, HX.out, ⟨HDB9.out.hx, setRow_heap _ x _ _ _ _ (HHD.out _)⟩, ?_⟩⟩
          exact ((HL4.out.keep (Below.sees HB9.out)).keep (sees_setRow (HHD.out _) rfl _))
      · have hb : (v != 0) = true := by simpa using hv
        go_wp2_with (first
          | (go_at_call 45; go_must (refine hset.mono ?_; rintro e w4 ⟨rfl, hd4, hl4, hu4⟩; have HD4 := Lib.hid hd4; have HU4 := Lib.hid hu4; clear hd4 hl4 hu4)))
        go_ret2
        exact ⟨HD4.out, (Upd.of_below HB03.out).trans ((upd_disk_wal HUI.out).trans HU4.out), fun _ => rfl, fun h => absurd h hv⟩
end Go.Proofs.YthbbammibdhohaaGreatDoor

namespace Aq
abbrev Lf := Nat × Bs
variable {α : Type}
def getL (i : Nat) (l : List (Nat × α)) : Option α := (l.find? fun p => p.1 == i).map (·.2)
def insL (x : Nat × α) : List (Nat × α) → List (Nat × α)
  | [] => [x]
  | y :: r => if x.1 < y.1 then x :: y :: r else y :: insL x r
def putL (i : Nat) (v : α) (l : List (Nat × α)) : List (Nat × α) := insL (i, v) (l.filter fun p => !(p.1 == i))
def Rises (l : List (Nat × α)) : Prop := l.Pairwise fun a b => a.1 < b.1
theorem getL_nil (i : Nat) : getL i ([] : List (Nat × α)) = none := rfl
theorem getL_cons (i : Nat) (x : Nat × α) (l : List (Nat × α)) : getL i (x :: l) = if x.1 = i then some x.2 else getL i l := by
  unfold getL
  rw [List.find?_cons]
  by_cases h : x.1 = i
  · simp [h]
  · have : (x.1 == i) = false := by simpa using h
    simp [this, h]
theorem mem_insL {x y : Nat × α} {l : List (Nat × α)} : y ∈ insL x l ↔ y = x ∨ y ∈ l := by
  induction l with
  | nil => simp [insL]
  | cons z l ih =>
    unfold insL
    split
    · simp
    · simp only [List.mem_cons, ih]
      constructor
      · rintro (h | h | h)
        · exact .inr (.inl h)
        · exact .inl h
        · exact .inr (.inr h)
      · rintro (h | h | h)
        · exact .inr (.inl h)
        · exact .inl h
        · exact .inr (.inr h)
theorem mem_putL {i : Nat} {v : α} {y : Nat × α} {l : List (Nat × α)} : y ∈ putL i v l ↔ y = (i, v) ∨ (y ∈ l ∧ y.1 ≠ i) := by
  unfold putL
  rw [mem_insL]
  simp
theorem getL_mem {i : Nat} {v : α} {l : List (Nat × α)} (h : getL i l = some v) : (i, v) ∈ l := by
  induction l with
  | nil => cases h
  | cons x l ih =>
    rw [getL_cons] at h
    split at h
    · rename_i hx
      injection h with h; subst h; subst hx
      exact List.mem_cons_self ..
    · exact List.mem_cons_of_mem _ (ih h)
theorem getL_none {i : Nat} {l : List (Nat × α)} : getL i l = none ↔ ∀ y ∈ l, y.1 ≠ i := by
  induction l with
  | nil => simp [getL_nil]
  | cons x l ih =>
    rw [getL_cons]
    by_cases h : x.1 = i
    · simp [h]
    · simp only [h, if_false, ih, List.mem_cons, forall_eq_or_imp, ne_eq, not_false_eq_true, true_and]
theorem getL_of_mem {i : Nat} {v : α} {l : List (Nat × α)} (hr : Rises l) (h : (i, v) ∈ l) : getL i l = some v := by
  induction l with
  | nil => cases h
  | cons x l ih =>
    rw [getL_cons]
    rcases List.mem_cons.1 h with rfl | h
    · simp
    · have h1 := (List.pairwise_cons.1 hr).1 _ h
      have hne : x.1 ≠ i := by have : x.1 < i := h1; omega
      rw [if_neg hne]
      exact ih (List.pairwise_cons.1 hr).2 h
theorem getL_insL (i : Nat) (x : Nat × α) : ∀ (l : List (Nat × α)), (∀ y ∈ l, y.1 ≠ x.1) → getL i (insL x l) = if x.1 = i then some x.2 else getL i l := by
  intro l
  induction l with
  | nil => intro _; simp [insL, getL_cons]
  | cons y l ih =>
    intro hl
    unfold insL
    split
    · rw [getL_cons]
    · rw [getL_cons, ih (fun z hz => hl z (List.mem_cons_of_mem _ hz)), getL_cons]
      have hy := hl y (List.mem_cons_self ..)
      by_cases h1 : x.1 = i
      · have : y.1 ≠ i := by omega
        simp [h1, this]
      · simp [h1]
theorem getL_filter (i j : Nat) (l : List (Nat × α)) (h : i ≠ j) : getL i (l.filter fun p => !(p.1 == j)) = getL i l := by
  induction l with
  | nil => rfl
  | cons x l ih =>
    rw [List.filter_cons]
    by_cases hx : x.1 = j
    · have e : (!(x.1 == j)) = false := by simp [hx]
      rw [e, if_neg (by decide), ih, getL_cons, if_neg (by omega)]
    · have e : (!(x.1 == j)) = true := by simp [hx]
      rw [e, if_pos rfl, getL_cons, getL_cons, ih]
theorem getL_putL (i j : Nat) (v : α) (l : List (Nat × α)) : getL i (putL j v l) = if j = i then some v else getL i l := by
  unfold putL
  rw [getL_insL i (j, v) _ (fun y hy => by simpa using (List.mem_filter.1 hy).2)]
  by_cases h : j = i
  · simp [h]
  · simp only [h, if_false]; exact getL_filter i j l (Ne.symm h)
theorem rises_insL {x : Nat × α} : ∀ {l : List (Nat × α)}, Rises l → (∀ y ∈ l, y.1 ≠ x.1) → Rises (insL x l) := by
  intro l
  induction l with
  | nil => intro _ _; exact List.pairwise_singleton ..
  | cons y l ih =>
    intro hr hl
    obtain ⟨h1, h2⟩ := List.pairwise_cons.1 hr
    unfold insL
    split
    · rename_i hlt
      refine List.pairwise_cons.2 ⟨fun z hz => ?_, hr⟩
      rcases List.mem_cons.1 hz with rfl | hz
      · exact hlt
      · exact Nat.lt_trans hlt (h1 z hz)
    · rename_i hlt
      refine List.pairwise_cons.2 ⟨fun z hz => ?_, ih h2 (fun z hz => hl z (List.mem_cons_of_mem _ hz))⟩
      rcases mem_insL.1 hz with rfl | hz
      · have := hl y (List.mem_cons_self ..); omega
      · exact h1 z hz
theorem rises_putL {i : Nat} {v : α} {l : List (Nat × α)} (h : Rises l) : Rises (putL i v l) :=
  rises_insL (h.filter _) (fun y hy => by simpa using (List.mem_filter.1 hy).2)
theorem insL_len (x : Nat × α) (l : List (Nat × α)) : (insL x l).length = l.length + 1 := by
  induction l with
  | nil => rfl
  | cons y l ih => unfold insL; split <;> simp [ih]
theorem putL_len_le (i : Nat) (v : α) (l : List (Nat × α)) : (putL i v l).length ≤ l.length + 1 := by
  unfold putL; rw [insL_len]; have := List.length_filter_le (fun p : Nat × α => !(p.1 == i)) l; omega
theorem filter_len_of_rises {i : Nat} : ∀ {l : List (Nat × α)}, Rises l → (l.filter fun p => !(p.1 == i)).length + (if (getL i l).isSome then 1 else 0) = l.length := by
  intro l
  induction l with
  | nil => intro _; rfl
  | cons x l ih =>
    intro hr
    obtain ⟨h1, h2⟩ := List.pairwise_cons.1 hr
    have h3 := ih h2
    rw [List.filter_cons, getL_cons]
    by_cases hx : x.1 = i
    · have hn : getL i l = none := getL_none.2 fun y hy => by have := h1 y hy; omega
      simp only [hn, Option.isSome_none] at h3
      simp [hx] at h3 ⊢
      omega
    · simp only [hx, if_false]
      have e : (!(x.1 == i)) = true := by simp [hx]
      simp only [e, if_true, List.length_cons]
      omega
theorem putL_len {i : Nat} {v : α} {l : List (Nat × α)} (h : Rises l) : (putL i v l).length = if (getL i l).isSome then l.length else l.length + 1 := by
  have h1 := filter_len_of_rises (i := i) h
  unfold putL
  rw [insL_len]
  split <;> rename_i h2 <;> simp only [h2, if_true, if_false, Bool.false_eq_true] at h1 <;> omega
end Aq

namespace Go.Proofs.YthbbammibdhohaaGreatDoor
open Go.RowKit Aq Go.Rgn Go.Maps

theorem sameI (a b : Nat) : (Lit.int .i64 (a : Int)).sameKey (.int .i64 (b : Int)) = (a == b) := by
  simp only [Lit.sameKey, true_and]
  by_cases h : a = b
  · simp [h]
  · have h2 : ¬ ((a : Int) = (b : Int)) := by omega
    simp [h, h2]
section
variable {α : Type} (enc : α → DataW Nat)
def mapD (l : List (Nat × α)) : DataW Nat := .map (l.map fun p => (.int .i64 (p.1 : Int), enc p.2))
theorem mapD_insert (x : Nat × α) (l : List (Nat × α)) : DataW.insert (.int .i64 (x.1 : Int), enc x.2) (l.map fun p => (Lit.int .i64 (p.1 : Int), enc p.2)) = (insL x l).map fun p => (Lit.int .i64 (p.1 : Int), enc p.2) := by
  induction l with
  | nil => rfl
  | cons y l ih =>
    simp only [List.map_cons, DataW.insert, insL, Lit.before]
    by_cases h : x.1 < y.1
    · simp [h]
    · have h2 : ¬ ((x.1 : Int) < (y.1 : Int)) := by omega
      simp [h, h2, ih]
theorem mapD_filter (i : Nat) (l : List (Nat × α)) : (l.map fun p => (Lit.int .i64 (p.1 : Int), enc p.2)).filter (fun p => !p.1.sameKey (.int .i64 (i : Int))) = (l.filter fun p => !(p.1 == i)).map fun p => (Lit.int .i64 (p.1 : Int), enc p.2) := by
  induction l with
  | nil => rfl
  | cons y l ih =>
    rw [List.map_cons, List.filter_cons, List.filter_cons, ih]
    simp only [sameI]
    split <;> rfl
theorem mapD_put (i : Nat) (v : α) (l : List (Nat × α)) : (mapD enc l).put (.int .i64 (i : Int)) (enc v) = mapD enc (putL i v l) := by
  show DataW.map _ = DataW.map _
  rw [mapD_filter, mapD_insert enc (i, v)]; rfl
theorem mapD_find (i : Nat) (l : List (Nat × α)) : ((l.map fun p => (Lit.int .i64 (p.1 : Int), enc p.2)).find? fun p => p.1.sameKey (.int .i64 (i : Int))) = (getL i l).map fun v => (Lit.int .i64 (i : Int), enc v) := by
  induction l with
  | nil => rfl
  | cons y l ih =>
    rw [List.map_cons, List.find?_cons, getL_cons, ih]
    simp only [sameI]
    by_cases h : y.1 = i
    · simp [h]
    · have h2 : (y.1 == i) = false := by simpa using h
      simp only [h2, if_neg h]
theorem mapD_at (i : Nat) (l : List (Nat × α)) (z : DataW Nat) : (mapD enc l).atKey (.int .i64 (i : Int)) z = match getL i l with | some v => enc v | none => z := by
  unfold mapD DataW.atKey
  simp only [mapD_find]
  cases getL i l <;> rfl
theorem mapD_has (i : Nat) (l : List (Nat × α)) : Maps.has (mapD enc l) (.int .i64 (i : Int)) = (getL i l).isSome := by
  show ((l.map fun p => (Lit.int .i64 (p.1 : Int), enc p.2)).any fun p => p.1.sameKey (.int .i64 (i : Int))) = _
  have h := mapD_find enc i l
  have e : ∀ {β : Type} (q : β → Bool) (m : List β), m.any q = (m.find? q).isSome := fun q m => by
    induction m with
    | nil => rfl
    | cons x m ih => rw [List.any_cons, List.find?_cons, ih]; cases q x <;> rfl
  rw [e, h]
  cases getL i l <;> rfl
theorem mapD_size (l : List (Nat × α)) : Maps.size (mapD enc l) = l.length := by
  show (l.map fun p => (Lit.int .i64 (p.1 : Int), enc p.2)).length = _
  rw [List.length_map]
end
theorem mapD_key {α : Type} (enc : α → DataW Nat) (l : List (Nat × α)) (x : Int) (d : DataW Nat) (h : ∀ z, (mapD enc l).atKey (.int .i64 x) z = d) : ∃ (i : Nat) (v : α), x = (i : Int) ∧ getL i l = some v ∧ enc v = d := by
  unfold mapD DataW.atKey at h
  simp only at h
  cases hf : (l.map fun p => (Lit.int .i64 (p.1 : Int), enc p.2)).find? (fun p => p.1.sameKey (.int .i64 x)) with
  | none =>
    rw [hf] at h
    have h1 := h .nil
    have h2 := h (.lit (.bool true))
    simp only at h1 h2
    rw [← h1] at h2; cases h2
  | some q =>
    have hm := List.mem_of_find?_eq_some hf
    have hs := List.find?_some hf
    obtain ⟨p, hp, rfl⟩ := List.mem_map.1 hm
    have hx : (p.1 : Int) = x := by
      simp only [Lit.sameKey, true_and, decide_eq_true_eq] at hs
      exact hs
    subst hx
    have h3 := mapD_find enc p.1 l
    rw [hf] at h3
    rw [hf] at h
    cases hg : getL p.1 l with
    | none => rw [hg] at h3; cases h3
    | some v =>
      rw [hg] at h3
      injection h3 with h3
      injection h3 with _ h3
      exact ⟨p.1, v, rfl, hg, by rw [← h3]; exact h .nil⟩
theorem owns_tight {P : Program} {k : TypeId} {R : Value → Option (DataW Nat × List MemPlace)} {w : World} {b n : Nat} {D : DataW Nat} (h : w.ownsMap P k R b n D) : w.ownsMap P k R b (Maps.size D) D := by
  obtain ⟨es, clock, hb, F, hs, rfl⟩ := h
  refine ⟨es, clock, hb, F, ?_, rfl⟩
  simp [Maps.size, length_sorted]
/-- a page's kind and body as a value, and as a datum -/
def leafV (p : Lf) : Value := .agg #[.int .i64 (p.1 : Int), tx p.2]
def leafD (p : Lf) : DataW Nat := .agg [.lit (.int .i64 (p.1 : Int)), .lit (.string p.2)]
def leafR : Value → Option (DataW Nat × List MemPlace)
  | .agg cs => match cs.toList with
    | [.int .i64 k, .string s] => if 0 ≤ k then some (.agg [.lit (.int .i64 k), .lit (.string s.data.toList)], []) else none
    | _ => none
  | _ => none
theorem leafR_mk (p : Lf) : leafR (leafV p) = some (leafD p, []) := by simp [leafR, leafV, leafD]
theorem leafR_shape {v : Value} {y : DataW Nat × List MemPlace} (h : leafR v = some y) : ∃ p : Lf, v = leafV p ∧ y = (leafD p, []) := by
  unfold leafR at h
  split at h
  · rename_i cs
    split at h
    · rename_i k s hcs
      split at h
      · rename_i hk
        injection h with h
        subst h
        have e : cs = #[.int .i64 k, .string s] := by rw [← Array.toList_inj, hcs]
        refine ⟨(k.toNat, s.data.toList), ?_, ?_⟩
        · rw [e, leafV, ← str_tx, Int.toNat_of_nonneg hk]
        · rw [leafD, Int.toNat_of_nonneg hk]
      · cases h
    · cases h
  · cases h
theorem leafD_inj {p q : Lf} (h : leafD p = leafD q) : p = q := by
  unfold leafD at h
  injection h with h1
  injection h1 with h1 h2
  injection h1 with h1
  injection h1 with _ h1
  injection h2 with h2 _
  injection h2 with h2
  injection h2 with h2
  have h3 : p.1 = q.1 := by omega
  exact Prod.ext h3 h2
theorem leafR_inv {v : Value} {p : Lf} {ps : List MemPlace} (h : leafR v = some (leafD p, ps)) : v = leafV p := by
  obtain ⟨q, hv, hq⟩ := leafR_shape h
  injection hq with hq _
  rw [hv, leafD_inj hq]
theorem Tryz.keyI : Keyed Tryz.prog 3 := int_keyed Tryz.underlying3
theorem keyOf_nat (i : Nat) (h : i < 2147483648) : keyOf Tryz.prog 3 (.int .i64 (i : Int)) = some (.int .i64 (i : Int)) := keyOf_int_mk Tryz.underlying3 (WalkArith.wf_i64 (by omega))
theorem zero_leaf (w : World) : (zeroValue 101).run Tryz.prog w = .ok (leafV (0, [])) w := by kernel_rfl
/-- block b of w is a map of these pages -/
def LeafMap (w : World) (b : Nat) (l : List (Nat × Lf)) : Prop := w.ownsMap Tryz.prog 3 leafR b l.length (mapD leafD l)
theorem LeafMap.look {w : World} {b : Nat} {l : List (Nat × Lf)} (h : LeafMap w b l) (i : Nat) (hi : i < 2147483648) :
    (Instr.lookup 65 (.map (some b)) (.int .i64 (i : Int)) true).run Tryz.prog w = .ok (.tuple #[leafV ((getL i l).getD (0, [])), .bool (getL i l).isSome]) w := by
  obtain ⟨v, ps, hrun, hv⟩ := h.look_ok Tryz.keyI Tryz.underlying65 (zero_leaf w) (leafR_mk (0, [])) (keyOf_nat i hi)
  rw [hrun, mapD_has]
  rw [mapD_at] at hv
  cases hg : getL i l with
  | some p => rw [hg] at hv; rw [leafR_inv hv]; rfl
  | none => rw [hg] at hv; rw [leafR_inv hv]; rfl
theorem LeafMap.made (w : World) : LeafMap (w.alloc (.map #[] 0)) w.heap.size [] := World.ownsMap_made w _ _ _
theorem wpList_put_leaf {ops : Array Oper} {rest : List Oper} {o : Oper} {a : Act} {w : World} {Q : Exit → Act → World → Prop} (hg : o.guard = none) (m x v : Operand) (hop : o.op = Op.mapUpdate 65 m x v)
    (b : Nat) (l : List (Nat × Lf)) (hm : a.eval m = .map (some b)) (h : LeafMap w b l) (i : Nat) (hi : i < 2147483648) (hx : a.eval x = .int .i64 (i : Int)) (p : Lf) (hv : a.eval v = leafV p) (hl : l.length < 2147483648)
    (hK : ∀ w', LeafMap w' b (putL i p l) → w.mapTurned w' b → wpList Tryz.prog ops Q rest (a.put o.dst undef) w') : wpList Tryz.prog ops Q (o :: rest) a w := by
  refine wpList_plain hg fun K' hK' => ?_
  obtain ⟨w', hrun, r1, r2⟩ := h.store Tryz.keyI Tryz.underlying65 (by unfold maxLen; omega) (keyOf_nat i hi) (leafR_mk p)
  unfold Oper.wp
  simp [execOp, hop, hm, hx, hv, hrun, Result.andThen]
  rw [mapD_put] at r1
  have r3 := owns_tight r1
  rw [mapD_size] at r3
  exact hK' _ _ (hK w' r3 r2)
theorem LeafMap.grown {w w' : World} {b : Nat} {l : List (Nat × Lf)} {row : Option Nat} (h : LeafMap w b l) (hg : w.grownBy w' row) (hne : some b ≠ row) : LeafMap w' b l := World.ownsMap.kept h hg hne
theorem LeafMap.same {w w' : World} {b : Nat} {l : List (Nat × Lf)} (h : LeafMap w b l) (he : w'.heap[b]? = w.heap[b]?) : LeafMap w' b l := by
  obtain ⟨es, clock, hb, r⟩ := h
  exact ⟨es, clock, he.trans hb, r⟩
theorem LeafMap.obj {w : World} {b : Nat} {l : List (Nat × Lf)} (h : LeafMap w b l) : ∃ es c, w.heap[b]? = some (.map es c) := by
  obtain ⟨es, clock, hb, _⟩ := h
  exact ⟨es, clock, hb⟩
theorem LeafMap.keep {B : Nat} {T : Nat → Bool} {w w' : World} {b : Nat} {l : List (Nat × Lf)} (h : LeafMap w b l) (hs : Sees B T w w') (hB : B ≤ b) (hT : T 1000000 = true) : LeafMap w' b l := by
  obtain ⟨es, c, hb⟩ := h.obj
  exact h.same ((hs b _ hB hb hT).trans hb.symm)
theorem turned_upd {B : Nat} {T : Nat → Bool} {w w' : World} {b : Nat} (h : w.mapTurned w' b) (hB : B ≤ b) (hT : T 1000000 = true) : Upd B T w w' := by
  obtain ⟨es, c, es', c', hb, rfl⟩ := h
  have hg := World.mapTurned.grown ⟨es, c, es', c', hb, rfl⟩
  refine (Upd.refl B T w).grown hg (fun k o hk ho => ?_)
  injection hk with hk; subst hk
  rw [hb] at ho; injection ho with ho; subst ho
  exact ⟨hB, hT⟩
end Go.Proofs.YthbbammibdhohaaGreatDoor

namespace Go.Proofs.YthbbammibdhohaaGreatDoor
open Go.RowKit Aq Go.Rgn Go.Maps

abbrev tTx : Nat := 67
def txCells (x mb : Nat) (m : Meta) (mk sp : Bool) : Array Value := #[.pointer (some ⟨x, 0, none⟩), int' m.r0, int' m.r1, int' m.r2, int' m.r3, int' m.high, int' m.free, int' m.count, .map (some mb), .bool mk, .bool sp]
structure TxIs (C : Nat) (w : World) (t x mb : Nat) (m : Meta) (mk sp : Bool) (l : List (Nat × Lf)) : Prop where
  ht : C ≤ t
  hmb : C ≤ mb
  head : w.heap[t]? = some (.cells (txCells x mb m mk sp) tTx (0, 0))
  map : LeafMap w mb l
def txT : Nat → Bool := fun t => t == tTx || t == 1000000
theorem TxIs.keep {C : Nat} {w w' : World} {t x mb : Nat} {m : Meta} {mk sp : Bool} {l : List (Nat × Lf)} (h : TxIs C w t x mb m mk sp l) (hs : Sees C txT w w') : TxIs C w' t x mb m mk sp l :=
  ⟨h.ht, h.hmb, hs t _ h.ht h.head rfl, h.map.keep hs h.hmb rfl⟩
section
variable {C : Nat} {w : World} {t x mb : Nat} {m : Meta} {mk sp : Bool} {l : List (Nat × Lf)}
theorem TxIs.c0 (h : TxIs C w t x mb m mk sp l) : w.cell? ⟨t, 0, none⟩ = some (.pointer (some ⟨x, 0, none⟩)) := cellAt h.head 0 _ rfl
theorem TxIs.c5 (h : TxIs C w t x mb m mk sp l) : w.cell? ⟨t, 5, none⟩ = some (int' m.high) := cellAt h.head 5 _ rfl
theorem TxIs.c6 (h : TxIs C w t x mb m mk sp l) : w.cell? ⟨t, 6, none⟩ = some (int' m.free) := cellAt h.head 6 _ rfl
theorem TxIs.c7 (h : TxIs C w t x mb m mk sp l) : w.cell? ⟨t, 7, none⟩ = some (int' m.count) := cellAt h.head 7 _ rfl
theorem TxIs.c8 (h : TxIs C w t x mb m mk sp l) : w.cell? ⟨t, 8, none⟩ = some (.map (some mb)) := cellAt h.head 8 _ rfl
theorem TxIs.c9 (h : TxIs C w t x mb m mk sp l) : w.cell? ⟨t, 9, none⟩ = some (.bool mk) := cellAt h.head 9 _ rfl
theorem TxIs.c10 (h : TxIs C w t x mb m mk sp l) : w.cell? ⟨t, 10, none⟩ = some (.bool sp) := cellAt h.head 10 _ rfl
theorem TxIs.fr (h : TxIs C w t x mb m mk sp l) (i : Nat) : w.frozen? ⟨t, i, none⟩ = false := freeAt h.head i
end
theorem TxIs.ne {C : Nat} {w : World} {t x mb : Nat} {m : Meta} {mk sp : Bool} {l : List (Nat × Lf)} (h : TxIs C w t x mb m mk sp l) : t ≠ mb := by
  obtain ⟨es, c, hb⟩ := h.map.obj
  intro e; subst e; rw [h.head] at hb; injection hb with hb; cases hb
/-- a field of the transaction's head is written -/
theorem TxIs.field {C : Nat} {w : World} {t x mb : Nat} {m m' : Meta} {mk sp mk' sp' : Bool} {l : List (Nat × Lf)} (h : TxIs C w t x mb m mk sp l) (i : Nat) (u : Value)
    (hc : (txCells x mb m mk sp).setIfInBounds i u = txCells x mb m' mk' sp') : TxIs C (w.setCell ⟨t, i, none⟩ u) t x mb m' mk' sp' l :=
  ⟨h.ht, h.hmb, by rw [heap_setCell_same w t i _ _ u h.head, hc], h.map.same (heap_setCell_other _ _ _ _ (Ne.symm h.ne))⟩
theorem TxIs.upd {C : Nat} {w w0 : World} {t x mb : Nat} {m : Meta} {mk sp : Bool} {l : List (Nat × Lf)} {T : Nat → Bool} (h : TxIs C w t x mb m mk sp l) (hu : Upd C T w0 w) (hT : T tTx = true) (i : Nat) (u : Value) : Upd C T w0 (w.setCell ⟨t, i, none⟩ u) :=
  hu.setCell (p := ⟨t, i, none⟩) u h.head h.ht hT
theorem run_neq_ptr_other {P : Program} (w : World) {tp te : TypeId} {j : TypeInfo} {a b : Addr} {ca cb : Array Value} {ta tb : TypeId} (hp : P.underlying tp = some (.pointer te)) (hte : P.info? te = some j) (hsz : j.size ≠ 0)
    (hne : a ≠ b) (ha : w.heap[a.block]? = some (.cells ca ta (0, 0))) (hb : w.heap[b.block]? = some (.cells cb tb (0, 0))) :
    (binOp .neq tp (.pointer (some a)) (.pointer (some b))).run P w = .ok (.bool true) w := by
  have h : ∀ d : Nat, (Op.equalIn (d + 1) tp (.pointer (some a)) (.pointer (some b))).run P w = .ok false w := fun d => by
    simp [Op.equalIn, run_underlying hp, sizeOf, typeInfo, hte, hsz, run_sameAddr_other w hne ha hb]
  simp only [binOp]
  simp [Op.equal, Op.maxDepth, h 9999]
theorem infoTx : ∃ j, Tryz.prog.info? tTx = some j ∧ j.size ≠ 0 := by
  have h : (Tryz.prog.info? tTx).map (·.size) = some 11 := by kernel_rfl
  cases hj : Tryz.prog.info? tTx with
  | none => rw [hj] at h; cases h
  | some j => exact ⟨j, rfl, fun e => by rw [hj] at h; simp [e] at h⟩
theorem tx_neq_same (w : World) (t : Nat) : (binOp .neq 40 (.pointer (some ⟨t, 0, none⟩)) (.pointer (some ⟨t, 0, none⟩))).run Tryz.prog w = .ok (.bool false) w := by
  obtain ⟨j, hj, _⟩ := infoTx
  exact Lib.run_neq_ptr_same w _ Tryz.underlying40 hj
theorem tx_eql_same (w : World) (t : Nat) : (binOp .eql 40 (.pointer (some ⟨t, 0, none⟩)) (.pointer (some ⟨t, 0, none⟩))).run Tryz.prog w = .ok (.bool true) w := by
  obtain ⟨j, hj, _⟩ := infoTx
  exact run_eql_ptr_same w _ Tryz.underlying40 hj
theorem tx_neq_nil (w : World) (t : Nat) : (binOp .neq 40 (.pointer none) (.pointer (some ⟨t, 0, none⟩))).run Tryz.prog w = .ok (.bool true) w := by
  have h : ∀ d : Nat, (Op.equalIn (d + 1) 40 (.pointer none) (.pointer (some ⟨t, 0, none⟩))).run Tryz.prog w = .ok false w := fun d => by
    simp [Op.equalIn, run_underlying Tryz.underlying40]
  simp only [binOp]
  simp [Op.equal, Op.maxDepth, h 9999]
theorem tx_eql_nil (w : World) (t : Nat) : (binOp .eql 40 (.pointer none) (.pointer (some ⟨t, 0, none⟩))).run Tryz.prog w = .ok (.bool false) w := by
  have h : ∀ d : Nat, (Op.equalIn (d + 1) 40 (.pointer none) (.pointer (some ⟨t, 0, none⟩))).run Tryz.prog w = .ok false w := fun d => by
    simp [Op.equalIn, run_underlying Tryz.underlying40]
  simp only [binOp]
  simp [Op.equal, Op.maxDepth, h 9999]
/-- two transactions in memory, not one -/
def TxTwo (w : World) (u t : Nat) : Prop := u ≠ t ∧ ∃ cu ct, w.heap[u]? = some (.cells cu tTx (0, 0)) ∧ w.heap[t]? = some (.cells ct tTx (0, 0))
theorem tx_neq_other {w : World} {u t : Nat} (h : TxTwo w u t) : (binOp .neq 40 (.pointer (some ⟨u, 0, none⟩)) (.pointer (some ⟨t, 0, none⟩))).run Tryz.prog w = .ok (.bool true) w := by
  obtain ⟨j, hj, hs⟩ := infoTx
  obtain ⟨hne, cu, ct, hu, ht⟩ := h
  exact run_neq_ptr_other w Tryz.underlying40 hj hs (fun e => hne (by injection e)) hu ht
theorem tx_eql_other {w : World} {u t : Nat} (h : TxTwo w u t) : (binOp .eql 40 (.pointer (some ⟨u, 0, none⟩)) (.pointer (some ⟨t, 0, none⟩))).run Tryz.prog w = .ok (.bool false) w := by
  obtain ⟨j, hj, hs⟩ := infoTx
  obtain ⟨hne, cu, ct, hu, ht⟩ := h
  exact run_eql_ptr_other w Tryz.underlying40 hj hs (fun e => hne (by injection e)) hu ht
def BeginPost (B : Nat) (w : World) (x db p log : Nat) (m : Meta) (e : Ending) (w' : World) : Prop :=
  ∃ t mb, e = .returned (.tuple #[.pointer (some ⟨t, 0, none⟩), .int .i64 0]) ∧ DbIs B w' x db p log m (.pointer (some ⟨t, 0, none⟩)) false ∧ TxIs w.heap.size w' t x mb m false false [] ∧ Upd B dbT w w'
set_option maxHeartbeats 1000000 in
set_option maxRecDepth 100000 in
theorem db_Begin {B : Nat} {w : World} {x db p log : Nat} {m : Meta} {D : Disk} (h : DbIs B w x db p log m (.pointer none) false) (hd : DiskAt B w db D) (hdn : D.down = false) :
    Calls Tryz.prog 15 #[.pointer (some ⟨x, 0, none⟩)] w (BeginPost B w x db p log m) := by
  have hup := db_up h.c0 h.c11 hd
  simp only [hdn, Bool.or_self, Bool.false_eq_true, if_false] at hup
  have h10 := h.c10; have f10 := h.fr 10
  have HLD : Hid (∀ j v, [int' m.r0, int' m.r1, int' m.r2, int' m.r3, int' m.high, int' m.free, int' m.count][j]? = some v → w.cell? ⟨x, 3 + j, none⟩ = some v) := fun j v hv => h.ms j v hv
  have hmm := @run_makeMap Tryz.prog
  have hxl := lt_of_some h.head
  have H := Lib.hid h
  clear h hd hdn
  go_enter Tryz.func15, Tryz.ntmps15
  go_wp2_with (first
    | (go_at_call 50; refine hup.mono ?_; rintro e w' ⟨rfl, rfl⟩)
    | (with_reducible refine wpList_load_mid rfl 60 (.tmp 19) rfl x 3 rfl [int' m.r0, int' m.r1, int' m.r2, int' m.r3, int' m.high, int' m.free, int' m.count] (by kernel_rfl) HLD.out ?_))
  go_ret2
  have hdb2 : DbIs B (w.setCell ⟨x, 10, none⟩ (.pointer (some ⟨w.heap.size + 1, 0, none⟩))) x db p log m (.pointer (some ⟨w.heap.size + 1, 0, none⟩)) false := H.out.field 10 _ rfl
  have hu2 : Upd B dbT w (w.setCell ⟨x, 10, none⟩ (.pointer (some ⟨w.heap.size + 1, 0, none⟩))) := H.out.upd (Upd.refl _ _ _) rfl 10 _
  generalize hw2 : w.setCell ⟨x, 10, none⟩ (.pointer (some ⟨w.heap.size + 1, 0, none⟩)) = w2 at hdb2 hu2 ⊢
  have hs2 : w2.heap.size = w.heap.size := by rw [← hw2]; simp
  rw [← hs2]
  have hb : Below w2.heap.size w2 ((w2.alloc (.map #[] 0)).alloc (.cells (txCells x w2.heap.size m false false) tTx)) := ((Below.refl _ w2).alloc (Nat.le_refl _) _).alloc (by simp) _
  rw [← hs2] at hdb2
  refine ⟨w2.heap.size + 1, w2.heap.size, by simp [hs2], hdb2.keep (Below.sees hb), ⟨by omega, by omega, ?_, ?_⟩, hu2.trans (.of_below hb)⟩
  · have h := heap_alloc_new (w2.alloc (.map #[] 0)) (.cells (txCells x w2.heap.size m false false) tTx)
    rw [show (w2.alloc (.map #[] 0)).heap.size = w2.heap.size + 1 from by simp] at h
    exact h
  · exact (LeafMap.made w2).same (Below.heap_alloc _ _ _ (by simp))
set_option maxHeartbeats 400000 in
set_option maxRecDepth 100000 in
theorem db_Begin_open {B : Nat} {w : World} {x db p log : Nat} {m : Meta} {D : Disk} {t : Nat} (h : DbIs B w x db p log m (.pointer (some ⟨t, 0, none⟩)) false) (hd : DiskAt B w db D) (hdn : D.down = false) :
    Calls Tryz.prog 15 #[.pointer (some ⟨x, 0, none⟩)] w fun e w' => e = .returned (.tuple #[.pointer none, .int .i64 9]) ∧ w = w' := by
  have hup := db_up h.c0 h.c11 hd
  simp only [hdn, Bool.or_self, Bool.false_eq_true, if_false] at hup
  have h10 := h.c10
  clear h hd hdn
  go_enter Tryz.func15, Tryz.ntmps15
  go_wp2_with (first
    | (go_at_call 50; refine hup.mono ?_; rintro e w' ⟨rfl, rfl⟩))
  go_ret2
  exact ⟨rfl, rfl⟩
set_option maxHeartbeats 400000 in
set_option maxRecDepth 100000 in
theorem tx_up {B C : Nat} {w : World} {x db p log t mb : Nat} {m tm : Meta} {mk sp : Bool} {l : List (Nat × Lf)} {D : Disk} (h : DbIs B w x db p log m (.pointer (some ⟨t, 0, none⟩)) false) (hd : DiskAt B w db D) (hdn : D.down = false) (ht : TxIs C w t x mb tm mk sp l) :
    Calls Tryz.prog 53 #[.pointer (some ⟨t, 0, none⟩)] w fun e w' => e = .returned (.int .i64 0) ∧ w = w' := by
  have hup := db_up h.c0 h.c11 hd
  simp only [hdn, Bool.or_self, Bool.false_eq_true, if_false] at hup
  have h10 := h.c10; have t0 := ht.c0; have hpp := tx_neq_same w t
  clear h hd hdn ht
  go_enter Tryz.func53, Tryz.ntmps53
  go_wp2_with (first
    | (go_at_call 50; refine hup.mono ?_; rintro e w' ⟨rfl, rfl⟩))
  go_ret
  exact ⟨rfl, rfl⟩
/-- a transaction that is not open: none, one that no call made, or one that was ended -/
def Shut (w : World) (v : Value) : Prop := v = .pointer none ∨ ∃ t, v = .pointer (some ⟨t, 0, none⟩) ∧ (w.cell? ⟨t, 0, none⟩ = some (.pointer none) ∨ ∃ x y, w.cell? ⟨t, 0, none⟩ = some (.pointer (some ⟨x, 0, none⟩)) ∧ w.cell? ⟨x, 10, none⟩ = some y ∧ (y = .pointer none ∨ ∃ u, y = .pointer (some ⟨u, 0, none⟩) ∧ TxTwo w u t))
set_option maxHeartbeats 400000 in
set_option maxRecDepth 100000 in
theorem tx_up_shut {w : World} {v : Value} (h : Shut w v) : Calls Tryz.prog 53 #[v] w fun e w' => e = .returned (.int .i64 1) ∧ w = w' := by
  rcases h with rfl | ⟨t, rfl, h0 | ⟨x, y, h0, h1, rfl | ⟨u, rfl, hu⟩⟩⟩
  · go_enter Tryz.func53, Tryz.ntmps53
    go_wp2
    go_ret
    exact ⟨rfl, rfl⟩
  · go_enter Tryz.func53, Tryz.ntmps53
    go_wp2
    go_ret
    exact ⟨rfl, rfl⟩
  · have hpp := tx_neq_nil w t
    go_enter Tryz.func53, Tryz.ntmps53
    go_wp2
    go_ret
    exact ⟨rfl, rfl⟩
  · have hpp := tx_neq_other hu
    go_enter Tryz.func53, Tryz.ntmps53
    go_wp2
    go_ret
    exact ⟨rfl, rfl⟩
end Go.Proofs.YthbbammibdhohaaGreatDoor
