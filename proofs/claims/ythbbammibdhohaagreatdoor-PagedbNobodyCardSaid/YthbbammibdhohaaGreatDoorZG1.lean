/- The database in memory, and its small functions: none, up, lose, Count, High, Free. No condition. The database's lose, Count, High, Free. No condition. The database's lay comes to the model's. Conditions as stated. The database's image reads a page's bytes. Conditions as stated. The database's redo of a record comes to the model's. Conditions as stated. The database's meta as bytes. Conditions as stated. More rules: structs handed back, a struct stored where it already lies. No condition. -/
import Derived.Deep.CutRange
import Derived.Test.YthbbammibdhohaaGreatDoorZU2
set_option linter.unusedSimpArgs false
set_option linter.unusedVariables false
namespace Go.Proofs.YthbbammibdhohaaGreatDoor
open Go.RowKit Aq Go.Rgn

structure Meta where
  r0 : Nat
  r1 : Nat
  r2 : Nat
  r3 : Nat
  high : Nat
  free : Nat
  count : Nat
structure Meta.Ok (m : Meta) : Prop where
  r0 : m.r0 < 2147483648
  r1 : m.r1 < 2147483648
  r2 : m.r2 < 2147483648
  r3 : m.r3 < 2147483648
  high : m.high < 2147483648
  free : m.free < 2147483648
  count : m.count < 2147483648
abbrev int' (n : Nat) : Value := .int .i64 (n : Int)
def metaCells (m : Meta) : List Value := [int' m.r0, int' m.r1, int' m.r2, int' m.r3, int' m.high, int' m.free, int' m.count]
abbrev tDB : Nat := 62
/-- the cells of a database: its disk, its log, the log's sectors, the meta, the open transaction, whether it is lost -/
def dbCells (db p log : Nat) (m : Meta) (op : Value) (lost : Bool) : Array Value :=
  #[.pointer (some ⟨db, 0, none⟩), .pointer (some ⟨p, 0, none⟩), int' log, int' m.r0, int' m.r1, int' m.r2, int' m.r3, int' m.high, int' m.free, int' m.count, op, .bool lost]
structure DbIs (B : Nat) (w : World) (x db p log : Nat) (m : Meta) (op : Value) (lost : Bool) : Prop where
  hx : B ≤ x
  head : w.heap[x]? = some (.cells (dbCells db p log m op lost) tDB (0, 0))
def dbT : Nat → Bool := fun t => t == tDB
theorem DbIs.keep {B : Nat} {w w' : World} {x db p log : Nat} {m : Meta} {op : Value} {lost : Bool} (h : DbIs B w x db p log m op lost) (hs : Sees B dbT w w') : DbIs B w' x db p log m op lost :=
  ⟨h.hx, hs x _ h.hx h.head rfl⟩
section
variable {B : Nat} {w : World} {x db p log : Nat} {m : Meta} {op : Value} {lost : Bool}
theorem DbIs.c0 (h : DbIs B w x db p log m op lost) : w.cell? ⟨x, 0, none⟩ = some (.pointer (some ⟨db, 0, none⟩)) := cellAt h.head 0 _ rfl
theorem DbIs.c1 (h : DbIs B w x db p log m op lost) : w.cell? ⟨x, 1, none⟩ = some (.pointer (some ⟨p, 0, none⟩)) := cellAt h.head 1 _ rfl
theorem DbIs.c2 (h : DbIs B w x db p log m op lost) : w.cell? ⟨x, 2, none⟩ = some (int' log) := cellAt h.head 2 _ rfl
theorem DbIs.c7 (h : DbIs B w x db p log m op lost) : w.cell? ⟨x, 7, none⟩ = some (int' m.high) := cellAt h.head 7 _ rfl
theorem DbIs.c8 (h : DbIs B w x db p log m op lost) : w.cell? ⟨x, 8, none⟩ = some (int' m.free) := cellAt h.head 8 _ rfl
theorem DbIs.c9 (h : DbIs B w x db p log m op lost) : w.cell? ⟨x, 9, none⟩ = some (int' m.count) := cellAt h.head 9 _ rfl
theorem DbIs.c10 (h : DbIs B w x db p log m op lost) : w.cell? ⟨x, 10, none⟩ = some op := cellAt h.head 10 _ rfl
theorem DbIs.c11 (h : DbIs B w x db p log m op lost) : w.cell? ⟨x, 11, none⟩ = some (.bool lost) := cellAt h.head 11 _ rfl
theorem DbIs.fr (h : DbIs B w x db p log m op lost) (i : Nat) : w.frozen? ⟨x, i, none⟩ = false := freeAt h.head i
theorem DbIs.ms (h : DbIs B w x db p log m op lost) (j : Nat) (v : Value) (hv : (metaCells m)[j]? = some v) : w.cell? ⟨x, 3 + j, none⟩ = some v := by
  refine cellAt h.head (3 + j) v ?_
  match j, hv with
  | 0, hv => exact hv
  | 1, hv => exact hv
  | 2, hv => exact hv
  | 3, hv => exact hv
  | 4, hv => exact hv
  | 5, hv => exact hv
  | 6, hv => exact hv
  | j + 7, hv => simp [metaCells] at hv
end
theorem DbIs.field {B : Nat} {w : World} {x db p log : Nat} {m m' : Meta} {op op' : Value} {lost lost' : Bool} (h : DbIs B w x db p log m op lost) (i : Nat) (u : Value)
    (hc : (dbCells db p log m op lost).setIfInBounds i u = dbCells db p log m' op' lost') : DbIs B (w.setCell ⟨x, i, none⟩ u) x db p log m' op' lost' :=
  ⟨h.hx, by rw [heap_setCell_same w x i _ _ u h.head, hc]⟩
theorem DbIs.upd {B : Nat} {w w0 : World} {x db p log : Nat} {m : Meta} {op : Value} {lost : Bool} {T : Nat → Bool} (h : DbIs B w x db p log m op lost) (hu : Upd B T w0 w) (hT : T tDB = true) (i : Nat) (u : Value) : Upd B T w0 (w.setCell ⟨x, i, none⟩ u) :=
  hu.setCell (p := ⟨x, i, none⟩) u h.head h.hx hT
set_option maxHeartbeats 400000 in
theorem db_none {w : World} {x db : Nat} (h0 : w.cell? ⟨x, 0, none⟩ = some (.pointer (some ⟨db, 0, none⟩))) :
    Calls Tryz.prog 61 #[.pointer (some ⟨x, 0, none⟩)] w fun e w' => e = .returned (.bool false) ∧ w = w' := by
  go_enter Tryz.func61, Tryz.ntmps61
  go_wp2
  go_ret
  exact ⟨rfl, rfl⟩
set_option maxHeartbeats 400000 in
theorem db_up {C : Nat} {w : World} {x db : Nat} {D : Disk} {lo : Bool} (h0 : w.cell? ⟨x, 0, none⟩ = some (.pointer (some ⟨db, 0, none⟩))) (h11 : w.cell? ⟨x, 11, none⟩ = some (.bool lo)) (hd : DiskAt C w db D) :
    Calls Tryz.prog 50 #[.pointer (some ⟨x, 0, none⟩)] w fun e w' => e = .returned (.int .i64 (if lo || D.down then 10 else 0)) ∧ w = w' := by
  have hdw := disk_Down hd
  clear hd
  cases lo
  · cases hdn : D.down
    all_goals
      rw [hdn] at hdw
      go_enter Tryz.func50, Tryz.ntmps50
      go_wp2_with (first
        | (go_at_call 61; refine (db_none h0).mono ?_; rintro e w' ⟨rfl, rfl⟩)
        | (go_at_call 33; refine hdw.mono ?_; rintro e w' ⟨rfl, rfl⟩))
      go_ret
      exact ⟨rfl, rfl⟩
  · go_enter Tryz.func50, Tryz.ntmps50
    go_wp2_with (first
      | (go_at_call 61; refine (db_none h0).mono ?_; rintro e w' ⟨rfl, rfl⟩))
    go_ret
    exact ⟨rfl, rfl⟩
end Go.Proofs.YthbbammibdhohaaGreatDoor

namespace Go.Proofs.YthbbammibdhohaaGreatDoor
open Go.RowKit Aq Go.Rgn

def DbLose (B : Nat) (w : World) (x db p log : Nat) (m : Meta) (op : Value) (lost : Bool) (v : Int) (e : Ending) (w' : World) : Prop :=
  e = .returned (.int .i64 v) ∧ DbIs B w' x db p log m op (lost || decide (v ≠ 0)) ∧ ∃ b, w' = w.setCell ⟨x, 11, none⟩ (.bool b)
set_option maxHeartbeats 400000 in
theorem db_lose {B : Nat} {w : World} {x db p log : Nat} {m : Meta} {op : Value} {lost : Bool} (h : DbIs B w x db p log m op lost) (v : Int) :
    Calls Tryz.prog 56 #[.pointer (some ⟨x, 0, none⟩), .int .i64 v] w (DbLose B w x db p log m op lost v) := by
  have h11 := h.c11; have f11 := h.fr 11
  have hfin : DbIs B (w.setCell ⟨x, 11, none⟩ (.bool (lost || decide (v ≠ 0)))) x db p log m op (lost || decide (v ≠ 0)) := h.field 11 _ rfl
  have HF := Lib.hid hfin
  clear h hfin
  cases lost
  · simp only [Bool.false_or] at HF
    by_cases hx : v = 0
    · subst hx
      go_enter Tryz.func56, Tryz.ntmps56
      go_wp2
      go_ret
      exact ⟨rfl, HF.out, _, rfl⟩
    · have hd : decide (v ≠ 0) = true := by simpa using hx
      rw [hd] at HF
      have hb : (v != 0) = true := by simpa using hx
      have HD := Lib.hid hd
      clear hd
      go_enter Tryz.func56, Tryz.ntmps56
      go_wp2
      go_ret
      exact ⟨rfl, by rw [HD.out]; exact HF.out, _, rfl⟩
  · simp only [Bool.true_or] at HF
    go_enter Tryz.func56, Tryz.ntmps56
    go_wp2
    go_ret
    exact ⟨rfl, HF.out, _, rfl⟩
set_option maxHeartbeats 400000 in
theorem db_High {B : Nat} {w : World} {x db p log : Nat} {m : Meta} {op : Value} {lost : Bool} (h : DbIs B w x db p log m op lost) :
    Calls Tryz.prog 25 #[.pointer (some ⟨x, 0, none⟩)] w fun e w' => e = .returned (int' m.high) ∧ w = w' := by
  have h0 := h.c0; have h7 := h.c7
  clear h
  go_enter Tryz.func25, Tryz.ntmps25
  go_wp2_with (first | (go_at_call 61; refine (db_none h0).mono ?_; rintro e w' ⟨rfl, rfl⟩))
  go_ret
  exact ⟨rfl, rfl⟩
set_option maxHeartbeats 400000 in
theorem db_Free {B : Nat} {w : World} {x db p log : Nat} {m : Meta} {op : Value} {lost : Bool} (h : DbIs B w x db p log m op lost) :
    Calls Tryz.prog 26 #[.pointer (some ⟨x, 0, none⟩)] w fun e w' => e = .returned (int' m.count) ∧ w = w' := by
  have h0 := h.c0; have h9 := h.c9
  clear h
  go_enter Tryz.func26, Tryz.ntmps26
  go_wp2_with (first | (go_at_call 61; refine (db_none h0).mono ?_; rintro e w' ⟨rfl, rfl⟩))
  go_ret
  exact ⟨rfl, rfl⟩
set_option maxHeartbeats 400000 in
theorem db_Count_q {B C : Nat} {w : World} {x db p log : Nat} {m : Meta} {op : Value} {lost : Bool} {D : Disk} (h : DbIs B w x db p log m op lost) (hd : DiskAt C w db D) (hl : log ≤ D.kept.length) :
    Calls Tryz.prog 24 #[.pointer (some ⟨x, 0, none⟩)] w (fun e w' => e = .returned (.int .i64 (((D.kept.length - log) / 8 : Nat) : Int)) ∧ ∃ n, w' = w.drewN n) := by
  have h0 := h.c0; have h2 := h.c2
  have hs : ∀ n, Calls Tryz.prog 62 #[.pointer (some ⟨db, 0, none⟩)] (w.drewN n) fun e w' => e = .returned (.int .i64 (D.kept.length : Int)) ∧ w' = w.drewN n := fun n =>
    (disk_Size (hd.keep (w' := w.drewN n) (Below.sees ⟨rfl, rfl, rfl, Nat.le_refl _, fun _ _ => rfl⟩))).mono fun e w' h => ⟨h.1, h.2.symm⟩
  have hm : D.kept.length ≤ 65536 := by obtain ⟨kb, pv, dn, h⟩ := hd; exact h.ok.most
  have e1 : ((D.kept.length : Int) - (log : Int)) / 8 = (((D.kept.length - log) / 8 : Nat) : Int) := by omega
  have g1 : (log : Int) ≤ (D.kept.length : Int) := by omega
  have g2 : (0 : Int) ≤ (D.kept.length : Int) - (log : Int) := by omega
  have E := Lib.hid e1
  clear h hd e1
  go_enter Tryz.func24, Tryz.ntmps24
  go_wp2_with (first | (go_at_call 61; refine (db_none h0).mono ?_; rintro e w' ⟨rfl, rfl⟩))
  go_quiet (first | (go_at_call 62; exact Calls.quiet_of_same (hs _)))
  go_wp2
  go_ret
  exact ⟨congrArg (fun x => Ending.returned (.int .i64 x)) E.out, _, rfl⟩

theorem db_Count {B C : Nat} {w : World} {x db p log : Nat} {m : Meta} {op : Value} {lost : Bool} {D : Disk} (h : DbIs B w x db p log m op lost) (hd : DiskAt C w db D) (hl : log ≤ D.kept.length) :
    Calls Tryz.prog 24 #[.pointer (some ⟨x, 0, none⟩)] w (IntPost w .i64 (((D.kept.length - log) / 8 : Nat) : Int)) :=
  (db_Count_q h hd hl).mono fun e w' h => ⟨h.1, by obtain ⟨n, hn⟩ := h.2; rw [hn]; exact ⟨rfl, rfl, rfl, Nat.le_refl _, fun _ _ => rfl⟩⟩
end Go.Proofs.YthbbammibdhohaaGreatDoor

namespace Go.Proofs.YthbbammibdhohaaGreatDoor
open Go.RowKit Aq Go.Rgn

def pageAct (log id : Nat) (l : Bs) (k : Nat) : DAct := .W (log + id * 8 + k) (sect l k)
def pageActs (log id : Nat) (l : Bs) : List DAct := (List.range 8).map (pageAct log id l)
theorem diskT_db (t : Nat) (h : dbT t = true) : diskT t = false := by simp only [dbT, beq_iff_eq] at h; subst h; rfl
def DbLayInv (B : Nat) (w : World) (x db p log : Nat) (m : Meta) (op : Value) (lost : Bool) (D : Disk) (id : Nat) (l : Bs) (sv : Value) (v : Value) (wr : World) : Prop :=
  ∃ j : Nat, j ≤ 8 ∧ v = .int .i64 (j : Int) ∧ (D.run ((List.range j).map (pageAct log id l))).2 = 0 ∧ DiskAt B wr db (D.run ((List.range j).map (pageAct log id l))).1 ∧
    (D.run ((List.range j).map (pageAct log id l))).1.pend.length ≤ D.pend.length + j ∧ DbIs B wr x db p log m op lost ∧ RowIs B wr 9 sv (txs ((List.range 8).map (sect l))) ∧ Upd B diskT w wr
theorem dlay_stop {D D1 : Disk} {v : Int} {log id j : Nat} {l : Bs} (hj : j < 8) (h : D.run ((List.range (j + 1)).map (pageAct log id l)) = (D1, v)) (hx : v ≠ 0) : D.run (pageActs log id l) = (D1, v) := by
  obtain ⟨k, hk⟩ : ∃ k, 8 = (j + 1) + k := ⟨7 - j, by omega⟩
  rw [pageActs, hk, List.range_add, List.map_append, Disk.run_append, h, if_neg hx]
set_option maxHeartbeats 2000000 in
set_option maxRecDepth 100000 in
theorem db_lay {B : Nat} {w : World} {x db p log : Nat} {m : Meta} {op : Value} {lost : Bool} {D : Disk} (h : DbIs B w x db p log m op lost) (hd : DiskAt B w db D) (id : Nat) (s : ByteArray) (hs : s.size = 512)
    (hid : id < 2147483648) (hlog : log < 2147483648) (hp : D.pend.length + 8 < 4294967296) :
    Calls Tryz.prog 82 #[.pointer (some ⟨x, 0, none⟩), .int .i64 (id : Int), .string s] w (DiskPost B w db (D.run (pageActs log id s.data.toList))) := by
  have hsec := page_Sectors w s hs
  have hBs : B ≤ w.heap.size := Nat.le_trans h.hx (Nat.le_of_lt (lt_of_some h.head))
  obtain ⟨l, hl⟩ : ∃ l, l = s.data.toList := ⟨_, rfl⟩
  rw [← hl] at hsec ⊢
  obtain ⟨R, hR⟩ : ∃ R, R = D.run (pageActs log id l) := ⟨_, rfl⟩
  rw [← hR]
  have HR := Lib.hid hR; have H := Lib.hid h; have HD := Lib.hid hd
  clear hR h hd hl
  go_enter Tryz.func82, Tryz.ntmps82
  go_wp2_with (first
    | (go_at_call 110; go_must (refine hsec.mono ?_; rintro e w1 ⟨sv, rfl, hown, hb1⟩; obtain ⟨sa, sc, rfl⟩ := owns_shape hown; have HO := Lib.hid hown; have HB1 := Lib.hid hb1; clear hown hb1)))
  go_loopw [13] (fun v wr => DbLayInv B w x db p log m op lost D id l (.slice sa 8 sc) v wr) (fun v _ => 8 - (intOf v).toNat)
  case atStart => exact ⟨0, by omega, rfl, rfl, HD.out.keep (Below.sees HB1.out), Nat.le_refl _, H.out.keep (Below.sees HB1.out), rowIs_low (RowIs.of_owns HO.out) hBs, .of_below HB1.out⟩
  case round =>
    obtain ⟨j, hj, rfl, hj0, hdj, hpj, hlj, hrj, huj⟩ := hrel
    have h0 := hlj.c0; have h2 := hlj.c2
    by_cases hj8 : j < 8
    · obtain ⟨g, rfl, hcj⟩ := hrj.cell (t := j) (u := tx (sect l j)) (by rw [txs, List.map_map, List.getElem?_map, List.getElem?_range hj8]; rfl)
      have g1 : (j : Int) < 8 := by omega
      have HDJ := Lib.hid hdj; have HPJ := Lib.hid hpj; have HLJ := Lib.hid hlj; have HUJ := Lib.hid huj; have HJ0 := Lib.hid hj0; have HRJ := Lib.hid hrj
      clear hdj hpj hlj huj hj0 hrj
      have hdr : DiskAt B wr.drew db (D.run ((List.range j).map (pageAct log id l))).1 := HDJ.out.keep (Below.sees ((Below.refl _ wr).drew))
      have hW := disk_Write hdr ((log + id * 8 + j : Nat) : Int) ⟨(sect l j).toArray⟩ (by have := HPJ.out; omega)
      obtain ⟨r, hr2⟩ : ∃ r, r = (D.run ((List.range j).map (pageAct log id l))).1.write ((log + id * 8 + j : Nat) : Int) (sect l j) := ⟨_, rfl⟩
      have hW' : Calls Tryz.prog 111 #[.pointer (some ⟨db, 0, none⟩), .int .i64 ((log : Int) + (id : Int) * 8 + (j : Int)), tx (sect l j)] wr.drew (DiskPost B wr.drew db r) := by
        rw [show (log : Int) + (id : Int) * 8 + (j : Int) = ((log + id * 8 + j : Nat) : Int) from by omega, hr2]; exact hW
      have hstep : D.run ((List.range (j + 1)).map (pageAct log id l)) = r := by
        rw [List.range_succ, List.map_append, Disk.run_append, if_pos HJ0.out, List.map_cons, List.map_nil, Disk.run_one, hr2]; rfl
      obtain ⟨D1, v⟩ := r
      have hpl : D1.pend.length ≤ D.pend.length + (j + 1) := by
        have h1 := HPJ.out
        have h2 := write_pend (D.run ((List.range j).map (pageAct log id l))).1 ((log + id * 8 + j : Nat) : Int) (sect l j)
        rw [← hr2] at h2
        have h3 : D1.pend.length ≤ _ := h2
        omega
      have HST := Lib.hid hstep; have HPL := Lib.hid hpl
      clear hW hr2 hstep hpl hdr
      have g2 : (id : Int) < 2147483648 := by omega
      have g3 : (log : Int) < 2147483648 := by omega
      have hdone : ∀ w', DiskPost B wr.drew db (D1, v) (.returned (.int .i64 v)) w' → DiskAt B w' db D1 ∧ DbIs B w' x db p log m op lost ∧ RowIs B w' 9 (.slice (some ⟨g, 0, none⟩) 8 sc) (txs ((List.range 8).map (sect l))) ∧ Upd B diskT w w' := fun w' h =>
        ⟨h.2.1, HLJ.out.keep (fun k o hB hk ht => (h.2.2.sees diskT_db) k o hB hk ht), HRJ.out.sees (T := logT) (fun k o hB hk ht => (h.2.2.sees logT_disk) k o hB hk ht) rfl, HUJ.out.trans ((Upd.of_below ((Below.refl _ wr).drew)).trans h.2.2)⟩
      go_wp2
      refine wp_region_still_tail 14 (by kernel_rfl) (by kernel_rfl) ?_
      simp only [List.take_succ_cons, List.take_zero, List.drop_succ_cons, List.drop_zero]
      change wpStill _ _ wr.drew _ _ _
      iterate 14 still_step
      refine wpStill_nil ?_
      by_cases hx : v = 0
      · subst hx
        have hinv : ∀ w', DiskPost B wr.drew db (D1, 0) (.returned (.int .i64 0)) w' → DbLayInv B w x db p log m op lost D id l (.slice (some ⟨g, 0, none⟩) 8 sc) (.int .i64 ((j : Int) + 1)) w' := fun w' h => by
          obtain ⟨h1, h2, h3, h4⟩ := hdone w' h
          refine ⟨j + 1, by omega, congrArg (Value.int .i64) (by omega), ?_, ?_, ?_, h2, h3, h4⟩
          · rw [HST.out]
          · rw [HST.out]; exact h1
          · rw [HST.out]; exact HPL.out
        clear hdone
        change wpList _ _ _ _ _ wr.drew
        go_wp2_with (first
          | (go_at_call 111; go_must (refine hW'.mono ?_; rintro e w1 ⟨rfl, hd1⟩; have HIV := Lib.hid (hinv w1 ⟨rfl, hd1⟩); clear hd1)))
        go_roundw
        case rel => exact HIV.out
        case measure => simp [intOf]; omega
      · have hb : (v != 0) = true := by simpa using hx
        have hfin : ∀ w', DiskPost B wr.drew db (D1, v) (.returned (.int .i64 v)) w' → DiskPost B w db R (.returned (.int .i64 v)) w' := fun w' h => by
          obtain ⟨h1, h2, h3, h4⟩ := hdone w' h
          rw [HR.out, dlay_stop hj8 HST.out hx]
          exact ⟨rfl, h1, h4⟩
        clear hdone
        change wpList _ _ _ _ _ wr.drew
        go_wp2_with (first
          | (go_at_call 111; go_must (refine hW'.mono ?_; rintro e w1 ⟨rfl, hd1⟩; have HIV := Lib.hid (hfin w1 ⟨rfl, hd1⟩); clear hd1)))
        go_ret
        exact HIV.out
    · obtain rfl : j = 8 := by omega
      have hR : R = D.run ((List.range 8).map (pageAct log id l)) := HR.out
      have HJ0 := Lib.hid hj0; have HDJ := Lib.hid hdj; have HUJ := Lib.hid huj; have HRR := Lib.hid hR
      clear hj0 hdj huj hrj hlj hpj hR
      go_wp2
      go_ret
      refine ⟨by rw [HRR.out, HJ0.out]; rfl, by rw [HRR.out]; exact HDJ.out, HUJ.out⟩
end Go.Proofs.YthbbammibdhohaaGreatDoor

namespace Go.Proofs.YthbbammibdhohaaGreatDoor
open Go.RowKit Aq Go.Rgn

def imgTo (D : Disk) (log id j : Nat) : Bs := (List.range j).flatMap fun k => D.look (log + id * 8 + k)
def imgOf (D : Disk) (log id : Nat) : Bs := imgTo D log id 8
theorem imgTo_succ (D : Disk) (log id j : Nat) : imgTo D log id (j + 1) = imgTo D log id j ++ D.look (log + id * 8 + j) := by simp [imgTo, List.range_succ]
theorem imgTo_len {D : Disk} (h : D.Ok) (log id : Nat) : ∀ j, log + id * 8 + j ≤ D.kept.length → (imgTo D log id j).length = 64 * j := by
  intro j
  induction j with
  | zero => intro _; rfl
  | succ j ih => intro hj; rw [imgTo_succ, List.length_append, ih (by omega), look_len h _ (by omega)]; omega
def HeldD (x db log : Nat) (w : World) : Prop := w.cell? ⟨x, 0, none⟩ = some (.pointer (some ⟨db, 0, none⟩)) ∧ w.cell? ⟨x, 2, none⟩ = some (int' log)
def ImgPost (w : World) (l : Bs) (e : Ending) (w' : World) : Prop := e = .returned (.tuple #[tx l, .int .i64 0]) ∧ Below w.heap.size w w'
def ImgInv (w : World) (D : Disk) (log id : Nat) (u v : Value) (wr : World) : Prop := ∃ j : Nat, j ≤ 8 ∧ v = .int .i64 (j : Int) ∧ u = tx (imgTo D log id j) ∧ Below w.heap.size w wr
set_option maxHeartbeats 2000000 in
set_option maxRecDepth 100000 in
theorem db_image {B : Nat} {w : World} {x db p log : Nat} {m : Meta} {op : Value} {lost : Bool} {D : Disk} (h : DbIs B w x db p log m op lost) (hd : DiskAt B w db D) (hdn : D.down = false) (id : Nat) (hid : log + id * 8 + 8 ≤ D.kept.length) :
    Calls Tryz.prog 46 #[.pointer (some ⟨x, 0, none⟩), .int .i64 (id : Int)] w (ImgPost w (imgOf D log id)) := by
  have hok : D.Ok := by obtain ⟨kb, pv, dn, h⟩ := hd; exact h.ok
  have hm := hok.most
  have H := Lib.hid h; have HD := Lib.hid hd; have HDN := Lib.hid hdn; have HOK := Lib.hid hok
  clear h hd hdn hok
  go_enter Tryz.func46, Tryz.ntmps46
  go_wp2
  go_loopw [6, 10] (fun u v wr => ImgInv w D log id u v wr) (fun _ v _ => 8 - (intOf v).toNat)
  case atStart => exact ⟨0, by omega, rfl, rfl, Below.refl _ _⟩
  case round =>
    obtain ⟨j, hj, rfl, rfl, hbj⟩ := hrel
    by_cases hj8 : j < 8
    · have hdb := H.out.keep (w' := wr.drew) (Below.sees (hbj.drew))
      have h0 : wr.drew.cell? ⟨x, 0, none⟩ = some (.pointer (some ⟨db, 0, none⟩)) := hdb.c0
      have h2 : wr.drew.cell? ⟨x, 2, none⟩ = some (int' log) := hdb.c2
      have hrd := disk_Read (HD.out.keep (w' := wr.drew) (Below.sees (hbj.drew))) ((log + id * 8 + j : Nat) : Int)
      rw [read_look HDN.out _ (by omega)] at hrd
      have hrd' : Calls Tryz.prog 75 #[.pointer (some ⟨db, 0, none⟩), .int .i64 ((log : Int) + (id : Int) * 8 + (j : Int))] wr.drew (ReadPost wr.drew (D.look (log + id * 8 + j), 0)) := by
        rw [show (log : Int) + (id : Int) * 8 + (j : Int) = ((log + id * 8 + j : Nat) : Int) from by omega]; exact hrd
      obtain ⟨l1, hl1⟩ : ∃ l1, l1 = imgTo D log id j := ⟨_, rfl⟩
      obtain ⟨l2, hl2⟩ : ∃ l2, l2 = D.look (log + id * 8 + j) := ⟨_, rfl⟩
      rw [← hl2] at hrd'
      rw [← hl1]
      have e1 : l1.length = 64 * j := by rw [hl1]; exact imgTo_len HOK.out _ _ _ (by omega)
      have e2 : l2.length = 64 := by rw [hl2]; exact look_len HOK.out _ (by omega)
      have g0 : ¬ (9223372036854775807 < l1.length + l2.length) := by omega
      have g1 : (j : Int) < 8 := by omega
      have g2 : (id : Int) < 65536 := by omega
      have g3 : (log : Int) ≤ 65536 := by omega
      have hap : (⟨l1.toArray⟩ ++ ⟨l2.toArray⟩ : ByteArray) = ⟨(imgTo D log id (j + 1)).toArray⟩ := by
        rw [ByteArray.ext_iff, ← Array.toList_inj, data_app, imgTo_succ, ← hl1, ← hl2]
      have HAP := Lib.hid hap; have HBJ := Lib.hid hbj
      clear e1 e2 hrd hl1 hl2 hap hbj hdb
      go_wp2
      have hw1 : IntKind.i64.wrap ((id : Int) * 8) = (id : Int) * 8 := wraps_i64 _ (by omega) (by omega)
      have hw2 : IntKind.i64.wrap ((log : Int) + (id : Int) * 8) = (log : Int) + (id : Int) * 8 := wraps_i64 _ (by omega) (by omega)
      have hw3 : IntKind.i64.wrap ((log : Int) + (id : Int) * 8 + (j : Int)) = (log : Int) + (id : Int) * 8 + (j : Int) := wraps_i64 _ (by omega) (by omega)
      have hS0 : HeldD x db log wr.drew := ⟨h0, h2⟩
      refine wp_region_C (HeldD x db log) (fun i => i == 3 || i == 7 || i == 10 || i == 12) (by kernel_rfl) ?_
      change anyC _ _ _ _ _ 19 _ _ wr.drew
      refine anyC_pure 0 14 (by decide) (by kernel_rfl) rfl rfl (by kernel_rfl) (by kernel_rfl) (fun _ _ _ _ h => h) (yi_move _ _ rfl rfl rfl) ?_
      simp only [Act.put, act_eval_tmp, act_eval_const, List.setIfInBounds_toArray, List.set_cons_succ, List.set_cons_zero, List.getD_cons_succ, List.getD_cons_zero]
      refine anyC_pure 1 15 (by decide) (by kernel_rfl) rfl rfl (by kernel_rfl) (by kernel_rfl) (fun _ _ _ _ h => h) (yi_nilCheck _ _ rfl rfl rfl) ?_
      simp only [Act.put, act_eval_tmp, act_eval_const, List.setIfInBounds_toArray, List.set_cons_succ, List.set_cons_zero, List.getD_cons_succ, List.getD_cons_zero]
      refine anyC_pure 2 16 (by decide) (by kernel_rfl) rfl rfl (by kernel_rfl) (by kernel_rfl) (fun _ _ _ _ h => h) (yi_field 62 0 _ _ _ 0 rfl rfl rfl (by kernel_rfl)) ?_
      simp only [Act.put, act_eval_tmp, act_eval_const, List.setIfInBounds_toArray, List.set_cons_succ, List.set_cons_zero, List.getD_cons_succ, List.getD_cons_zero]
      refine anyC_pure 4 18 (by decide) (by kernel_rfl) rfl rfl (by kernel_rfl) (by kernel_rfl) (fun _ _ _ _ h => h) (yi_move _ _ rfl rfl rfl) ?_
      simp only [Act.put, act_eval_tmp, act_eval_const, List.setIfInBounds_toArray, List.set_cons_succ, List.set_cons_zero, List.getD_cons_succ, List.getD_cons_zero]
      refine anyC_pure 5 19 (by decide) (by kernel_rfl) rfl rfl (by kernel_rfl) (by kernel_rfl) (fun _ _ _ _ h => h) (yi_nilCheck _ _ rfl rfl rfl) ?_
      simp only [Act.put, act_eval_tmp, act_eval_const, List.setIfInBounds_toArray, List.set_cons_succ, List.set_cons_zero, List.getD_cons_succ, List.getD_cons_zero]
      refine anyC_pure 6 20 (by decide) (by kernel_rfl) rfl rfl (by kernel_rfl) (by kernel_rfl) (fun _ _ _ _ h => h) (yi_field 62 2 _ _ _ 2 rfl rfl rfl (by kernel_rfl)) ?_
      simp only [Act.put, act_eval_tmp, act_eval_const, List.setIfInBounds_toArray, List.set_cons_succ, List.set_cons_zero, List.getD_cons_succ, List.getD_cons_zero]
      refine anyC_pure 8 22 (by decide) (by kernel_rfl) rfl rfl (by kernel_rfl) (by kernel_rfl) (fun _ _ _ _ h => h) (yi_move _ _ rfl rfl rfl) ?_
      simp only [Act.put, act_eval_tmp, act_eval_const, List.setIfInBounds_toArray, List.set_cons_succ, List.set_cons_zero, List.getD_cons_succ, List.getD_cons_zero]
      refine anyC_pure 9 23 (by decide) (by kernel_rfl) rfl rfl (by kernel_rfl) (by kernel_rfl) (fun _ _ _ _ h => h) (yi (v := .int .i64 ((id : Int) * 8)) rfl (fun w _ => by go_simp)) ?_
      simp only [Act.put, act_eval_tmp, act_eval_const, List.setIfInBounds_toArray, List.set_cons_succ, List.set_cons_zero, List.getD_cons_succ, List.getD_cons_zero]
      refine anyC_pure 11 25 (by decide) (by kernel_rfl) rfl rfl (by kernel_rfl) (by kernel_rfl) (fun _ _ _ _ h => h) (yi_move _ _ rfl rfl rfl) ?_
      simp only [Act.put, act_eval_tmp, act_eval_const, List.setIfInBounds_toArray, List.set_cons_succ, List.set_cons_zero, List.getD_cons_succ, List.getD_cons_zero]
      refine anyC_takeP 3 17 (by kernel_rfl) (by kernel_rfl) rfl rfl (by kernel_rfl) (by kernel_rfl) (fun _ _ _ _ h => h) hS0 (yi_load 22 _ ⟨x, 0, none⟩ (.pointer (some ⟨db, 0, none⟩)) rfl rfl rfl (by kernel_rfl) (fun w hw => hw.1)) ?_
      simp only [Act.put, act_eval_tmp, act_eval_const, List.setIfInBounds_toArray, List.set_cons_succ, List.set_cons_zero, List.getD_cons_succ, List.getD_cons_zero]
      refine anyC_takeP 7 21 (by kernel_rfl) (by kernel_rfl) rfl rfl (by kernel_rfl) (by kernel_rfl) (fun _ _ _ _ h => h) hS0 (yi_load 3 _ ⟨x, 2, none⟩ (int' log) rfl rfl rfl (by kernel_rfl) (fun w hw => hw.2)) ?_
      simp only [Act.put, act_eval_tmp, act_eval_const, List.setIfInBounds_toArray, List.set_cons_succ, List.set_cons_zero, List.getD_cons_succ, List.getD_cons_zero]
      refine anyC_takeP 10 24 (by kernel_rfl) (by kernel_rfl) rfl rfl (by kernel_rfl) (by kernel_rfl) (fun _ _ _ _ h => h) hS0 (yi (v := .int .i64 ((log : Int) + (id : Int) * 8)) rfl (fun w _ => by go_simp)) ?_
      simp only [Act.put, act_eval_tmp, act_eval_const, List.setIfInBounds_toArray, List.set_cons_succ, List.set_cons_zero, List.getD_cons_succ, List.getD_cons_zero]
      refine anyC_takeP 12 26 (by kernel_rfl) (by kernel_rfl) rfl rfl (by kernel_rfl) (by kernel_rfl) (fun _ _ _ _ h => h) hS0 (yi (v := .int .i64 ((log : Int) + (id : Int) * 8 + (j : Int))) rfl (fun w _ => by go_simp)) ?_
      simp only [Act.put, act_eval_tmp, act_eval_const, List.setIfInBounds_toArray, List.set_cons_succ, List.set_cons_zero, List.getD_cons_succ, List.getD_cons_zero]
      refine anyC_one 13 (some 27) _ 95 (by kernel_rfl) rfl rfl rfl rfl rfl ?_
      refine wp_callFn 75 #[.pointer (some ⟨db, 0, none⟩), .int .i64 ((log : Int) + (id : Int) * 8 + (j : Int))] _ (by kernel_rfl) hrd' ?_
      rintro _ w1 ⟨rfl, hb1⟩
      have HB1 := Lib.hid hb1
      clear hb1
      refine ⟨_, rfl, fun h => absurd h (by decide), ?_⟩
      simp only [Act.put, act_eval_tmp, act_eval_const, List.setIfInBounds_toArray, List.set_cons_succ, List.set_cons_zero, List.getD_cons_succ, List.getD_cons_zero]
      refine anyC_pure 14 13 (by decide) (by kernel_rfl) rfl rfl (by kernel_rfl) (by kernel_rfl) (fun _ _ _ _ h => h) (yi_move _ _ rfl rfl rfl) ?_
      simp only [Act.put, act_eval_tmp, act_eval_const, List.setIfInBounds_toArray, List.set_cons_succ, List.set_cons_zero, List.getD_cons_succ, List.getD_cons_zero]
      refine anyC_pure 15 28 (by decide) (by kernel_rfl) rfl rfl (by kernel_rfl) (by kernel_rfl) (fun _ _ _ _ h => h) (yi (v := tx l2) rfl (fun w _ => by go_simp)) ?_
      simp only [Act.put, act_eval_tmp, act_eval_const, List.setIfInBounds_toArray, List.set_cons_succ, List.set_cons_zero, List.getD_cons_succ, List.getD_cons_zero]
      refine anyC_pure 16 29 (by decide) (by kernel_rfl) rfl rfl (by kernel_rfl) (by kernel_rfl) (fun _ _ _ _ h => h) (yi (v := .int .i64 0) rfl (fun w _ => by go_simp)) ?_
      simp only [Act.put, act_eval_tmp, act_eval_const, List.setIfInBounds_toArray, List.set_cons_succ, List.set_cons_zero, List.getD_cons_succ, List.getD_cons_zero]
      refine anyC_pure 17 8 (by decide) (by kernel_rfl) rfl rfl (by kernel_rfl) (by kernel_rfl) (fun _ _ _ _ h => h) (yi_assign _ _ rfl rfl rfl) ?_
      simp only [Act.put, act_eval_tmp, act_eval_const, List.setIfInBounds_toArray, List.set_cons_succ, List.set_cons_zero, List.getD_cons_succ, List.getD_cons_zero]
      refine anyC_pure 18 9 (by decide) (by kernel_rfl) rfl rfl (by kernel_rfl) (by kernel_rfl) (fun _ _ _ _ h => h) (yi_assign _ _ rfl rfl rfl) ?_
      simp only [Act.put, act_eval_tmp, act_eval_const, List.setIfInBounds_toArray, List.set_cons_succ, List.set_cons_zero, List.getD_cons_succ, List.getD_cons_zero]
      refine anyC_done (by kernel_rfl) ?_
      clear hS0 h0 h2
      go_wp2
      go_roundw
      case rel => exact ⟨j + 1, by omega, congrArg (Value.int .i64) (by omega), congrArg Value.string HAP.out, (HBJ.out.drew).trans (HB1.out.mono HBJ.out.size)⟩
      case measure => simp [intOf]; omega
    · obtain rfl : j = 8 := by omega
      have HBJ := Lib.hid hbj
      clear hbj
      go_wp2
      go_ret2
      exact ⟨rfl, HBJ.out⟩
end Go.Proofs.YthbbammibdhohaaGreatDoor

namespace Go.Proofs.YthbbammibdhohaaGreatDoor
open Go.RowKit Aq Go.Rgn

abbrev Pg := Nat × Bs
def pgB (x : Pg) : Bs := num x.1 4 ++ x.2
def recB (ps : List Pg) : Bs := num ps.length 4 ++ ps.flatMap pgB
def redoActs (log : Nat) (ps : List Pg) : List DAct := ps.flatMap fun x => pageActs log x.1 x.2
structure PgsOk (n : Nat) (ps : List Pg) : Prop where
  few : ps.length ≤ 127
  ids : ∀ x ∈ ps, x.1 < n ∧ x.2.length = 512
theorem pgs_len {n : Nat} {ps : List Pg} (h : ∀ x ∈ ps, x.1 < n ∧ x.2.length = 512) : (ps.flatMap pgB).length = 516 * ps.length := by
  induction ps with
  | nil => rfl
  | cons x ps ih =>
    rw [List.flatMap_cons, List.length_append, ih (fun y hy => h y (List.mem_cons_of_mem _ hy)), pgB, List.length_append, num_len, (h x (List.mem_cons_self ..)).2, List.length_cons]; omega
theorem pgs_drop {n : Nat} : ∀ {ps : List Pg}, (∀ x ∈ ps, x.1 < n ∧ x.2.length = 512) → ∀ i, i ≤ ps.length → (ps.flatMap pgB).drop (516 * i) = (ps.drop i).flatMap pgB := by
  intro ps
  induction ps with
  | nil => intro _ i hi; simp
  | cons x ps ih =>
    intro h i hi
    cases i with
    | zero => rfl
    | succ i =>
      have hx : (pgB x).length = 516 := by rw [pgB, List.length_append, num_len, (h x (List.mem_cons_self ..)).2]
      rw [List.flatMap_cons, show 516 * (i + 1) = 516 + 516 * i from by omega, ← List.drop_drop, List.drop_left' hx]
      exact ih (fun y hy => h y (List.mem_cons_of_mem _ hy)) i (by simpa using hi)
theorem rec_at {n : Nat} {ps : List Pg} (h : PgsOk n ps) (j : Nat) (hj : j < ps.length) : (recB ps).drop (4 + j * 516) = num (ps[j]).1 4 ++ ((ps[j]).2 ++ (ps.drop (j + 1)).flatMap pgB) := by
  have hl : (num ps.length 4).length = 4 := num_len _ _
  rw [recB, ← List.drop_drop, List.drop_left' hl, Nat.mul_comm, pgs_drop h.ids j (by omega), List.drop_eq_getElem_cons hj, List.flatMap_cons, pgB, List.append_assoc]
theorem redo_take (log : Nat) (ps : List Pg) (j : Nat) (hj : j < ps.length) : redoActs log (ps.take (j + 1)) = redoActs log (ps.take j) ++ pageActs log (ps[j]).1 (ps[j]).2 := by
  unfold redoActs; rw [List.take_succ_eq_append_getElem hj, List.flatMap_append, List.flatMap_cons, List.flatMap_nil, List.append_nil]
theorem redo_stop {D D1 : Disk} {v : Int} {log j : Nat} {ps : List Pg} (hj : j < ps.length) (h : D.run (redoActs log (ps.take (j + 1))) = (D1, v)) (hx : v ≠ 0) : D.run (redoActs log ps) = (D1, v) := by
  have e : redoActs log ps = redoActs log (ps.take (j + 1)) ++ redoActs log (ps.drop (j + 1)) := by
    unfold redoActs; rw [← List.flatMap_append, List.take_append_drop]
  rw [e, Disk.run_append, h, if_neg hx]
theorem redoActs_len (log : Nat) (ps : List Pg) : (redoActs log ps).length = 8 * ps.length := by
  induction ps with
  | nil => rfl
  | cons x ps ih => simp only [redoActs, List.flatMap_cons, List.length_append] at ih ⊢; rw [ih]; simp [pageActs]; omega
def ValT (w : World) (n : Nat) (e : Ending) (w' : World) : Prop := e = .returned (.int .i64 (n : Int)) ∧ Below w.heap.size w w'
def RedoInv (B : Nat) (w : World) (x db p log : Nat) (m : Meta) (op : Value) (lost : Bool) (D : Disk) (ps : List Pg) (v : Value) (wr : World) : Prop :=
  ∃ j : Nat, j ≤ ps.length ∧ v = .int .i64 (j : Int) ∧ (D.run (redoActs log (ps.take j))).2 = 0 ∧ DiskAt B wr db (D.run (redoActs log (ps.take j))).1 ∧ DbIs B wr x db p log m op lost ∧ Upd B diskT w wr
set_option maxHeartbeats 2000000 in
set_option maxRecDepth 100000 in
theorem db_redo {B : Nat} {w : World} {x db p log : Nat} {m : Meta} {op : Value} {lost : Bool} {D : Disk} (h : DbIs B w x db p log m op lost) (hd : DiskAt B w db D) (ps : List Pg) (n : Nat) (hn : n ≤ 2147483648) (hps : PgsOk n ps) (s : ByteArray) (hs : s.data.toList = recB ps)
    (hlog : log < 2147483648) (hp : D.pend.length < 2147483648) :
    Calls Tryz.prog 44 #[.pointer (some ⟨x, 0, none⟩), .string s] w (DiskPost B w db (D.run (redoActs log ps))) := by
  have hsz : s.size = 4 + 516 * ps.length := by
    rw [show s.size = s.data.toList.length from rfl, hs, recB, List.length_append, num_len, pgs_len hps.ids]
  have hfew := hps.few
  have hval : Calls Tryz.prog 60 #[.string s] w (ValT w ps.length) := by
    have h3 := pagedb_value w s (by omega)
    have hl : (num ps.length 4).length = 4 := num_len _ _
    rw [hs, recB, List.take_left' hl, val_num 4 _ (by omega)] at h3
    exact h3.mono fun e w' h => ⟨h.1, by obtain ⟨k, hk⟩ := h.2; rw [hk]; exact ⟨rfl, rfl, rfl, Nat.le_refl _, fun _ _ => rfl⟩⟩
  obtain ⟨R, hR⟩ : ∃ R, R = D.run (redoActs log ps) := ⟨_, rfl⟩
  rw [← hR]
  have HR := Lib.hid hR; have H := Lib.hid h; have HD := Lib.hid hd; have HPS := Lib.hid hps; have HS := Lib.hid hs; have HSZ := Lib.hid hsz
  clear hR h hd hps hs hsz
  go_enter Tryz.func44, Tryz.ntmps44
  go_wp2_with (first
    | (go_at_call 60; go_must (refine hval.mono ?_; rintro e w1 ⟨rfl, hb1⟩; have HB1 := Lib.hid hb1; clear hb1)))
  go_loopw [12] (fun v wr => RedoInv B w x db p log m op lost D ps v wr) (fun v _ => ps.length - (intOf v).toNat)
  case atStart => exact ⟨0, Nat.zero_le _, rfl, rfl, HD.out.keep (Below.sees HB1.out), H.out.keep (Below.sees HB1.out), .of_below HB1.out⟩
  case round =>
    obtain ⟨j, hj, rfl, hj0, hdj, hlj, huj⟩ := hrel
    by_cases hjl : j < ps.length
    · obtain ⟨y, hy⟩ : ∃ y, y = ps[j] := ⟨_, rfl⟩
      have hyo := HPS.out.ids y (by rw [hy]; exact List.getElem_mem _)
      have hat := rec_at HPS.out j hjl
      rw [← hy, ← HS.out] at hat
      have hsz := HSZ.out
      have hl4 : (num y.1 4).length = 4 := num_len _ _
      obtain ⟨a, ha⟩ : ∃ a, a = 4 + j * 516 := ⟨_, rfl⟩
      rw [← ha] at hat
      have hasz : a + 516 ≤ s.size := by omega
      have e1 : (s.extract a s.size).data.toList = num y.1 4 ++ (y.2 ++ (ps.drop (j + 1)).flatMap pgB) := by
        rw [Lib.extract_data, List.take_of_length_le (by rw [List.length_drop]; exact Nat.le_refl _), hat]
      have e2 : (s.extract (a + 4) (a + 4 + 512)).data.toList = y.2 := by
        rw [Lib.extract_data, ← List.drop_drop, hat, List.drop_left' hl4, List.take_left' (by rw [hyo.2]; omega)]
      have hval2 : ∀ w1, Calls Tryz.prog 60 #[.string (s.extract a s.size)] w1 (ValT w1 y.1) := fun w1 => by
        have h3 := pagedb_value w1 (s.extract a s.size) (by rw [ByteArray.size_extract]; omega)
        rw [e1, List.take_left' hl4, val_num 4 _ (by omega)] at h3
        exact h3.mono fun e w' h => ⟨h.1, by obtain ⟨k, hk⟩ := h.2; rw [hk]; exact ⟨rfl, rfl, rfl, Nat.le_refl _, fun _ _ => rfl⟩⟩
      obtain ⟨r, hr⟩ : ∃ r, r = (D.run (redoActs log (ps.take j))).1.run (pageActs log y.1 y.2) := ⟨_, rfl⟩
      have hpd : (D.run (redoActs log (ps.take j))).1.pend.length + 8 < 4294967296 := by
        have h1 := run_pend (redoActs log (ps.take j)) D
        have h2 := redoActs_len log (ps.take j)
        rw [List.length_take] at h2
        omega
      have hlay : ∀ w1, Below wr.heap.size wr w1 → Calls Tryz.prog 82 #[.pointer (some ⟨x, 0, none⟩), .int .i64 (y.1 : Int), .string (s.extract (a + 4) (a + 4 + 512))] w1 (DiskPost B w1 db r) := fun w1 hb => by
        have h3 := db_lay (hlj.keep (Below.sees hb)) (hdj.keep (Below.sees hb)) y.1 (s.extract (a + 4) (a + 4 + 512)) (by rw [ByteArray.size_extract]; omega) (by omega) hlog hpd
        rw [e2, ← hr] at h3
        exact h3
      have hstep : D.run (redoActs log (ps.take (j + 1))) = r := by
        rw [redo_take log ps j hjl, Disk.run_append, if_pos hj0, hr, hy]
      obtain ⟨D1, v⟩ := r
      have HST := Lib.hid hstep
      have HLJ := Lib.hid hlj; have HUJ := Lib.hid huj; have HA := Lib.hid ha
      have HLAY := Lib.hid hlay
      clear hdj hlj huj hj0 hat e1 e2 hr hpd hlay hstep hsz
      have g1 : (j : Int) < (ps.length : Int) := by omega
      have g2 : (ps.length : Int) ≤ 127 := by omega
      have hw0 : (4 : Int) + (j : Int) * 516 = (a : Int) := by have := HA.out; omega
      clear ha
      go_upto_region 6 with fail
      have hb4 : IntKind.i64.wrap ((a : Int) + 4) = (a : Int) + 4 := wraps_i64 _ (by omega) (by omega)
      have hb5 : IntKind.i64.wrap ((a : Int) + 4 + 512) = (a : Int) + 4 + 512 := wraps_i64 _ (by omega) (by omega)
      have c1 : (a : Int) ≤ (s.size : Int) := by omega
      have c2 : (a : Int) + 4 ≤ (a : Int) + 4 + 512 := by omega
      have c3 : (a : Int) + 4 + 512 ≤ (s.size : Int) := by omega
      have d1 : (0 : Int) ≤ (a : Int) + 4 := by omega
      have d2 : (0 : Int) ≤ (a : Int) + 4 + 512 := by omega
      have t1 : ((a : Int) + 4).toNat = a + 4 := by omega
      have t2 : ((a : Int) + 4 + 512).toNat = a + 4 + 512 := by omega
      refine wp_region_C (fun _ => True) (fun i => i == 4) (by kernel_rfl) ?_
      change anyC _ _ _ _ _ 14 _ _ wr.drew
      have hT : True := trivial
      refine anyC_pure 0 18 (by decide) (by kernel_rfl) rfl rfl (by kernel_rfl) (by kernel_rfl) (fun _ _ _ _ h => h) (yi_move _ _ rfl rfl rfl) ?_
      simp only [Act.put, act_eval_tmp, act_eval_const, List.setIfInBounds_toArray, List.set_cons_succ, List.set_cons_zero, List.getD_cons_succ, List.getD_cons_zero]
      refine anyC_pure 1 19 (by decide) (by kernel_rfl) rfl rfl (by kernel_rfl) (by kernel_rfl) (fun _ _ _ _ h => h) (yi_move _ _ rfl rfl rfl) ?_
      simp only [Act.put, act_eval_tmp, act_eval_const, List.setIfInBounds_toArray, List.set_cons_succ, List.set_cons_zero, List.getD_cons_succ, List.getD_cons_zero]
      refine anyC_pure 2 20 (by decide) (by kernel_rfl) rfl rfl (by kernel_rfl) (by kernel_rfl) (fun _ _ _ _ h => h) (yi_move _ _ rfl rfl rfl) ?_
      simp only [Act.put, act_eval_tmp, act_eval_const, List.setIfInBounds_toArray, List.set_cons_succ, List.set_cons_zero, List.getD_cons_succ, List.getD_cons_zero]
      refine anyC_pure 3 21 (by decide) (by kernel_rfl) rfl rfl (by kernel_rfl) (by kernel_rfl) (fun _ _ _ _ h => h) (yi (v := .string (s.extract a s.size)) rfl (fun w _ => by go_simp)) ?_
      simp only [Act.put, act_eval_tmp, act_eval_const, List.setIfInBounds_toArray, List.set_cons_succ, List.set_cons_zero, List.getD_cons_succ, List.getD_cons_zero]
      refine anyC_pure 5 23 (by decide) (by kernel_rfl) rfl rfl (by kernel_rfl) (by kernel_rfl) (fun _ _ _ _ h => h) (yi_move _ _ rfl rfl rfl) ?_
      simp only [Act.put, act_eval_tmp, act_eval_const, List.setIfInBounds_toArray, List.set_cons_succ, List.set_cons_zero, List.getD_cons_succ, List.getD_cons_zero]
      refine anyC_pure 6 24 (by decide) (by kernel_rfl) rfl rfl (by kernel_rfl) (by kernel_rfl) (fun _ _ _ _ h => h) (yi_move _ _ rfl rfl rfl) ?_
      simp only [Act.put, act_eval_tmp, act_eval_const, List.setIfInBounds_toArray, List.set_cons_succ, List.set_cons_zero, List.getD_cons_succ, List.getD_cons_zero]
      refine anyC_pure 7 25 (by decide) (by kernel_rfl) rfl rfl (by kernel_rfl) (by kernel_rfl) (fun _ _ _ _ h => h) (yi (v := .int .i64 ((a : Int) + 4)) rfl (fun w _ => by go_simp)) ?_
      simp only [Act.put, act_eval_tmp, act_eval_const, List.setIfInBounds_toArray, List.set_cons_succ, List.set_cons_zero, List.getD_cons_succ, List.getD_cons_zero]
      refine anyC_pure 8 26 (by decide) (by kernel_rfl) rfl rfl (by kernel_rfl) (by kernel_rfl) (fun _ _ _ _ h => h) (yi_move _ _ rfl rfl rfl) ?_
      simp only [Act.put, act_eval_tmp, act_eval_const, List.setIfInBounds_toArray, List.set_cons_succ, List.set_cons_zero, List.getD_cons_succ, List.getD_cons_zero]
      refine anyC_pure 9 27 (by decide) (by kernel_rfl) rfl rfl (by kernel_rfl) (by kernel_rfl) (fun _ _ _ _ h => h) (yi (v := .int .i64 ((a : Int) + 4)) rfl (fun w _ => by go_simp)) ?_
      simp only [Act.put, act_eval_tmp, act_eval_const, List.setIfInBounds_toArray, List.set_cons_succ, List.set_cons_zero, List.getD_cons_succ, List.getD_cons_zero]
      refine anyC_pure 10 28 (by decide) (by kernel_rfl) rfl rfl (by kernel_rfl) (by kernel_rfl) (fun _ _ _ _ h => h) (yi (v := .int .i64 ((a : Int) + 4 + 512)) rfl (fun w _ => by go_simp)) ?_
      simp only [Act.put, act_eval_tmp, act_eval_const, List.setIfInBounds_toArray, List.set_cons_succ, List.set_cons_zero, List.getD_cons_succ, List.getD_cons_zero]
      refine anyC_pure 11 29 (by decide) (by kernel_rfl) rfl rfl (by kernel_rfl) (by kernel_rfl) (fun _ _ _ _ h => h) (yi (v := .string (s.extract (a + 4) (a + 4 + 512))) rfl (fun w _ => by go_simp)) ?_
      simp only [Act.put, act_eval_tmp, act_eval_const, List.setIfInBounds_toArray, List.set_cons_succ, List.set_cons_zero, List.getD_cons_succ, List.getD_cons_zero]
      refine anyC_one 4 (some 22) _ 3 (by kernel_rfl) rfl rfl rfl rfl rfl ?_
      refine wp_callFn 60 #[.string (s.extract a s.size)] _ (by kernel_rfl) (hval2 _) ?_
      rintro _ w1 ⟨rfl, hb1⟩
      refine ⟨_, rfl, fun _ => trivial, ?_⟩
      simp only [Act.put, act_eval_tmp, act_eval_const, List.setIfInBounds_toArray, List.set_cons_succ, List.set_cons_zero, List.getD_cons_succ, List.getD_cons_zero]
      refine anyC_one 12 (some 30) _ 23 (by kernel_rfl) rfl rfl rfl rfl rfl ?_
      refine wp_callFn 82 #[.pointer (some ⟨x, 0, none⟩), .int .i64 (y.1 : Int), .string (s.extract (a + 4) (a + 4 + 512))] _ (by kernel_rfl) (HLAY.out _ (((Below.refl _ wr).drew).trans hb1)) ?_
      rintro _ w2 ⟨rfl, hd2, hu2⟩
      refine ⟨_, rfl, fun h => absurd h (by decide), ?_⟩
      simp only [Act.put, act_eval_tmp, act_eval_const, List.setIfInBounds_toArray, List.set_cons_succ, List.set_cons_zero, List.getD_cons_succ, List.getD_cons_zero]
      refine anyC_pure 13 8 (by decide) (by kernel_rfl) rfl rfl (by kernel_rfl) (by kernel_rfl) (fun _ _ _ _ h => h) (yi_assign _ _ rfl rfl rfl) ?_
      simp only [Act.put, act_eval_tmp, act_eval_const, List.setIfInBounds_toArray, List.set_cons_succ, List.set_cons_zero, List.getD_cons_succ, List.getD_cons_zero]
      refine anyC_done (by kernel_rfl) ?_
      have hu02 : Upd B diskT w w2 := (HUJ.out.trans (Upd.of_below (((Below.refl _ wr).drew).trans hb1))).trans hu2
      have hl2 := (HLJ.out.keep (Below.sees (((Below.refl _ wr).drew).trans hb1))).keep (hu2.sees diskT_db)
      have HD2 := Lib.hid hd2; have HU2 := Lib.hid hu02; have HL2 := Lib.hid hl2
      clear hd2 hu2 hb1 hu02 hl2 HLAY hval2
      by_cases hx : v = 0
      · subst hx
        go_wp2
        go_roundw
        case rel =>
          refine ⟨j + 1, hjl, congrArg (Value.int .i64) (by omega), by rw [HST.out], by rw [HST.out]; exact HD2.out, HL2.out, HU2.out⟩
        case measure => simp [intOf]; omega
      · have hb : (v != 0) = true := by simpa using hx
        have hR := HR.out
        rw [redo_stop hjl HST.out hx] at hR
        have HR2 := Lib.hid hR
        clear hR
        go_wp2
        go_ret
        exact ⟨by rw [HR2.out]; rfl, by rw [HR2.out]; exact HD2.out, HU2.out⟩
    · obtain rfl : j = ps.length := by omega
      rw [List.take_length] at hj0 hdj
      have HJ0 := Lib.hid hj0; have HDJ := Lib.hid hdj; have HUJ := Lib.hid huj
      clear hj0 hdj huj hlj
      go_wp2
      go_ret
      exact ⟨by rw [HR.out, HJ0.out]; rfl, by rw [HR.out]; exact HDJ.out, HUJ.out⟩
end Go.Proofs.YthbbammibdhohaaGreatDoor

namespace Go.Proofs.YthbbammibdhohaaGreatDoor
open Go.RowKit Aq Go.Rgn

def rootsB (m : Meta) : List Nat := [m.r0, m.r1, m.r2, m.r3]
def headM (m : Meta) : Bs := num m.high 4 ++ num m.free 4 ++ num m.count 4
def rootTo (m : Meta) (k : Nat) : Bs := ((rootsB m).take k).flatMap fun r => num r 4
def metaB (m : Meta) : Bs := headM m ++ rootTo m 4
theorem headM_len (m : Meta) : (headM m).length = 12 := by simp only [headM, List.length_append, num_len]
theorem rootTo_len (m : Meta) : ∀ k, k ≤ 4 → (rootTo m k).length = 4 * k
  | 0, _ => rfl
  | 1, _ => by simp [rootTo, rootsB, num_len]
  | 2, _ => by simp [rootTo, rootsB, num_len]
  | 3, _ => by simp [rootTo, rootsB, num_len]
  | 4, _ => by simp [rootTo, rootsB, num_len]
theorem metaB_len (m : Meta) : (metaB m).length = 28 := by rw [metaB, List.length_append, headM_len, rootTo_len m 4 (by omega)]
def MetaInv (w : World) (m : Meta) (u v : Value) (wr : World) : Prop := ∃ k : Nat, k ≤ 4 ∧ v = .int .i64 (k : Int) ∧ u = tx (headM m ++ rootTo m k) ∧ Below w.heap.size w wr
theorem rootTo_succ (m : Meta) (k r : Nat) (hr : (rootsB m)[k]? = some r) : rootTo m (k + 1) = rootTo m k ++ num r 4 := by
  unfold rootTo; rw [List.take_add_one, hr]; simp
theorem below_new {w w' : World} {o : Obj} (h : Below (w.alloc o).heap.size (w.alloc o) w') : w'.heap[w.heap.size]? = some o ∧ Below w.heap.size w w' :=
  ⟨(h.block _ (by simp)).trans (heap_alloc_new w o), ((Below.refl _ w).alloc (Nat.le_refl _) o).trans (h.mono (by simp))⟩
set_option maxHeartbeats 2000000 in
set_option maxRecDepth 100000 in
theorem meta_body (w : World) (m : Meta) (hm : m.Ok) : Calls Tryz.prog 90 #[.agg #[int' m.r0, int' m.r1, int' m.r2, int' m.r3, int' m.high, int' m.free, int' m.count]] w (NumPost w (metaB m)) := by
  have n1 := fun w1 => pagedb_number w1 m.high (by have := hm.high; omega)
  have n2 := fun w1 => pagedb_number w1 m.free (by have := hm.free; omega)
  have n3 := fun w1 => pagedb_number w1 m.count (by have := hm.count; omega)
  have hrs : ∀ (k r : Nat), (rootsB m)[k]? = some r → r < 4294967296 := by
    intro k r h
    have := hm.r0; have := hm.r1; have := hm.r2; have := hm.r3
    match k, h with
    | 0, h => injection h with h; subst h; omega
    | 1, h => injection h with h; subst h; omega
    | 2, h => injection h with h; subst h; omega
    | 3, h => injection h with h; subst h; omega
    | k + 4, h => simp [rootsB] at h
  have HRS := Lib.hid hrs
  have g1 : (num m.high 4).length = 4 := num_len _ _
  have g2 : (num m.free 4).length = 4 := num_len _ _
  have g3 : (num m.count 4).length = 4 := num_len _ _
  obtain ⟨l1, hl1⟩ : ∃ l, l = num m.high 4 := ⟨_, rfl⟩
  obtain ⟨l2, hl2⟩ : ∃ l, l = num m.free 4 := ⟨_, rfl⟩
  obtain ⟨l3, hl3⟩ : ∃ l, l = num m.count 4 := ⟨_, rfl⟩
  have hh : headM m = l1 ++ l2 ++ l3 := by rw [headM, hl1, hl2, hl3]
  rw [← hl1] at g1 n1; rw [← hl2] at g2 n2; rw [← hl3] at g3 n3
  have k1 : ¬ (9223372036854775807 < l1.length + l2.length) := by omega
  have k2 : ¬ (9223372036854775807 < l1.length + l2.length + l3.length) := by omega
  have a1 : (⟨l1.toArray⟩ ++ ⟨l2.toArray⟩ : ByteArray) = ⟨(l1 ++ l2).toArray⟩ := by rw [ByteArray.ext_iff, ← Array.toList_inj, data_app]
  have a2 : (⟨(l1 ++ l2).toArray⟩ ++ ⟨l3.toArray⟩ : ByteArray) = ⟨(l1 ++ l2 ++ l3).toArray⟩ := by rw [ByteArray.ext_iff, ← Array.toList_inj, data_app]
  have HH := Lib.hid hh
  have i0 : ∀ w, (Instr.index 58 (.agg #[int' m.r0, int' m.r1, int' m.r2, int' m.r3]) (.int .i64 0)).run Tryz.prog w = .ok (int' m.r0) w := fun _ => by kernel_rfl
  have i1 : ∀ w, (Instr.index 58 (.agg #[int' m.r0, int' m.r1, int' m.r2, int' m.r3]) (.int .i64 1)).run Tryz.prog w = .ok (int' m.r1) w := fun _ => by kernel_rfl
  have i2 : ∀ w, (Instr.index 58 (.agg #[int' m.r0, int' m.r1, int' m.r2, int' m.r3]) (.int .i64 2)).run Tryz.prog w = .ok (int' m.r2) w := fun _ => by kernel_rfl
  have i3 : ∀ w, (Instr.index 58 (.agg #[int' m.r0, int' m.r1, int' m.r2, int' m.r3]) (.int .i64 3)).run Tryz.prog w = .ok (int' m.r3) w := fun _ => by kernel_rfl
  clear hrs hm g1 g2 g3 hl1 hl2 hl3 hh
  go_enter Tryz.func90, Tryz.ntmps90
  go_wp2
  have hS0 : Below (w.alloc (.cells #[int' m.r0, int' m.r1, int' m.r2, int' m.r3, int' m.high, int' m.free, int' m.count] 60)).heap.size (w.alloc (.cells #[int' m.r0, int' m.r1, int' m.r2, int' m.r3, int' m.high, int' m.free, int' m.count] 60)) (w.alloc (.cells #[int' m.r0, int' m.r1, int' m.r2, int' m.r3, int' m.high, int' m.free, int' m.count] 60)).drew := (Below.refl _ _).drew
  refine wp_region_C (Below (w.alloc (.cells #[int' m.r0, int' m.r1, int' m.r2, int' m.r3, int' m.high, int' m.free, int' m.count] 60)).heap.size (w.alloc (.cells #[int' m.r0, int' m.r1, int' m.r2, int' m.r3, int' m.high, int' m.free, int' m.count] 60))) (fun i => i == 1 || i == 4 || i == 8 || i == 2 || i == 5 || i == 6 || i == 9) (by kernel_rfl) ?_
  change anyC _ _ _ _ _ 12 _ _ (World.drew _)
  refine anyC_pure 0 6 (by decide) (by kernel_rfl) rfl rfl (by kernel_rfl) (by kernel_rfl) (fun _ _ _ _ h => h) (yi_field 60 1 _ _ _ 4 rfl rfl rfl (by kernel_rfl)) ?_
  simp only [Act.put, act_eval_tmp, act_eval_const, List.setIfInBounds_toArray, List.set_cons_succ, List.set_cons_zero, List.getD_cons_succ, List.getD_cons_zero]
  refine anyC_pure 3 9 (by decide) (by kernel_rfl) rfl rfl (by kernel_rfl) (by kernel_rfl) (fun _ _ _ _ h => h) (yi_field 60 2 _ _ _ 5 rfl rfl rfl (by kernel_rfl)) ?_
  simp only [Act.put, act_eval_tmp, act_eval_const, List.setIfInBounds_toArray, List.set_cons_succ, List.set_cons_zero, List.getD_cons_succ, List.getD_cons_zero]
  refine anyC_pure 7 13 (by decide) (by kernel_rfl) rfl rfl (by kernel_rfl) (by kernel_rfl) (fun _ _ _ _ h => h) (yi_field 60 3 _ _ _ 6 rfl rfl rfl (by kernel_rfl)) ?_
  simp only [Act.put, act_eval_tmp, act_eval_const, List.setIfInBounds_toArray, List.set_cons_succ, List.set_cons_zero, List.getD_cons_succ, List.getD_cons_zero]
  refine anyC_takeP 1 7 (by kernel_rfl) (by kernel_rfl) rfl rfl (by kernel_rfl) (by kernel_rfl) (fun _ _ _ _ h => h) hS0 (yi_load 3 _ ⟨w.heap.size, 4, none⟩ (int' m.high) rfl rfl rfl (by kernel_rfl) (fun wx hx => cellAt (below_new hx).1 4 _ rfl)) ?_
  simp only [Act.put, act_eval_tmp, act_eval_const, List.setIfInBounds_toArray, List.set_cons_succ, List.set_cons_zero, List.getD_cons_succ, List.getD_cons_zero]
  refine anyC_takeP 4 10 (by kernel_rfl) (by kernel_rfl) rfl rfl (by kernel_rfl) (by kernel_rfl) (fun _ _ _ _ h => h) hS0 (yi_load 3 _ ⟨w.heap.size, 5, none⟩ (int' m.free) rfl rfl rfl (by kernel_rfl) (fun wx hx => cellAt (below_new hx).1 5 _ rfl)) ?_
  simp only [Act.put, act_eval_tmp, act_eval_const, List.setIfInBounds_toArray, List.set_cons_succ, List.set_cons_zero, List.getD_cons_succ, List.getD_cons_zero]
  refine anyC_takeP 8 14 (by kernel_rfl) (by kernel_rfl) rfl rfl (by kernel_rfl) (by kernel_rfl) (fun _ _ _ _ h => h) hS0 (yi_load 3 _ ⟨w.heap.size, 6, none⟩ (int' m.count) rfl rfl rfl (by kernel_rfl) (fun wx hx => cellAt (below_new hx).1 6 _ rfl)) ?_
  simp only [Act.put, act_eval_tmp, act_eval_const, List.setIfInBounds_toArray, List.set_cons_succ, List.set_cons_zero, List.getD_cons_succ, List.getD_cons_zero]
  refine anyC_one 2 (some 8) _ 9 (by kernel_rfl) rfl rfl rfl rfl rfl ?_
  refine wp_callFn 63 #[int' m.high] _ (by kernel_rfl) (n1 _) ?_
  rintro _ w1 ⟨rfl, hb1⟩
  have hS1 := hS0.trans (hb1.mono hS0.size)
  clear hS0 hb1
  refine ⟨_, rfl, fun _ => hS1, ?_⟩
  simp only [Act.put, act_eval_tmp, act_eval_const, List.setIfInBounds_toArray, List.set_cons_succ, List.set_cons_zero, List.getD_cons_succ, List.getD_cons_zero]
  refine anyC_one 5 (some 11) _ 9 (by kernel_rfl) rfl rfl rfl rfl rfl ?_
  refine wp_callFn 63 #[int' m.free] _ (by kernel_rfl) (n2 _) ?_
  rintro _ w2 ⟨rfl, hb2⟩
  have hS2 := hS1.trans (hb2.mono hS1.size)
  clear hS1 hb2
  refine ⟨_, rfl, fun _ => hS2, ?_⟩
  simp only [Act.put, act_eval_tmp, act_eval_const, List.setIfInBounds_toArray, List.set_cons_succ, List.set_cons_zero, List.getD_cons_succ, List.getD_cons_zero]
  refine anyC_takeP 6 12 (by kernel_rfl) (by kernel_rfl) rfl rfl (by kernel_rfl) (by kernel_rfl) (fun _ _ _ _ h => h) hS2 (yi (v := tx (l1 ++ l2)) rfl (fun w _ => by go_simp)) ?_
  simp only [Act.put, act_eval_tmp, act_eval_const, List.setIfInBounds_toArray, List.set_cons_succ, List.set_cons_zero, List.getD_cons_succ, List.getD_cons_zero]
  refine anyC_one 9 (some 15) _ 9 (by kernel_rfl) rfl rfl rfl rfl rfl ?_
  refine wp_callFn 63 #[int' m.count] _ (by kernel_rfl) (n3 _) ?_
  rintro _ w3 ⟨rfl, hb3⟩
  have hS3 := hS2.trans (hb3.mono hS2.size)
  clear hS2 hb3
  refine ⟨_, rfl, fun _ => hS3, ?_⟩
  simp only [Act.put, act_eval_tmp, act_eval_const, List.setIfInBounds_toArray, List.set_cons_succ, List.set_cons_zero, List.getD_cons_succ, List.getD_cons_zero]
  refine anyC_pure 10 16 (by decide) (by kernel_rfl) rfl rfl (by kernel_rfl) (by kernel_rfl) (fun _ _ _ _ h => h) (yi (v := tx (l1 ++ l2 ++ l3)) rfl (fun w _ => by go_simp)) ?_
  simp only [Act.put, act_eval_tmp, act_eval_const, List.setIfInBounds_toArray, List.set_cons_succ, List.set_cons_zero, List.getD_cons_succ, List.getD_cons_zero]
  refine anyC_pure 11 3 (by decide) (by kernel_rfl) rfl rfl (by kernel_rfl) (by kernel_rfl) (fun _ _ _ _ h => h) (yi_assign _ _ rfl rfl rfl) ?_
  simp only [Act.put, act_eval_tmp, act_eval_const, List.setIfInBounds_toArray, List.set_cons_succ, List.set_cons_zero, List.getD_cons_succ, List.getD_cons_zero]
  refine anyC_done (by kernel_rfl) ?_
  obtain ⟨hc, hb⟩ := below_new hS3
  have HB := Lib.hid hb
  have hld : ∀ j v, [int' m.r0, int' m.r1, int' m.r2, int' m.r3][j]? = some v → w3.cell? ⟨w.heap.size, 0 + j, none⟩ = some v := by
    intro j v hv
    refine cellAt hc (0 + j) v ?_
    match j, hv with
    | 0, hv => exact hv
    | 1, hv => exact hv
    | 2, hv => exact hv
    | 3, hv => exact hv
    | j + 4, hv => simp at hv
  have HLD := Lib.hid hld
  clear hS3 hb hld n1 n2 n3 k1 k2 a1 a2 hc
  go_wp2_with (first
    | (with_reducible refine wpList_load_mid rfl 58 (.tmp 17) rfl w.heap.size 0 rfl [int' m.r0, int' m.r1, int' m.r2, int' m.r3] (by kernel_rfl) HLD.out ?_))
  go_loopw [3, 19] (fun u v wr => MetaInv w m u v wr) (fun _ v _ => 4 - (intOf v).toNat)
  case atStart => exact ⟨0, by omega, rfl, by rw [HH.out, rootTo, List.take_zero]; simp, HB.out⟩
  case round =>
    obtain ⟨k, hk, rfl, rfl, hbk⟩ := hrel
    have hkk : k = 0 ∨ k = 1 ∨ k = 2 ∨ k = 3 ∨ k = 4 := by omega
    have hln : (headM m ++ rootTo m k).length ≤ 28 := by rw [List.length_append, headM_len, rootTo_len m k hk]; omega
    have stp : ∀ (r : Nat), (rootsB m)[k]? = some r → ∃ l : Bs, l.length = 4 ∧ Calls Tryz.prog 63 #[int' r] wr (NumPost wr l) ∧ headM m ++ rootTo m (k + 1) = (headM m ++ rootTo m k) ++ l := fun r hr =>
      ⟨num r 4, num_len _ _, pagedb_number wr r (HRS.out k r hr), by rw [rootTo_succ m k r hr, List.append_assoc]⟩
    obtain ⟨s, hs⟩ : ∃ s, s = headM m ++ rootTo m k := ⟨_, rfl⟩
    have hdone : k = 4 → s = metaB m := fun e => by subst e; exact hs
    rw [← hs] at hln stp ⊢
    have HD := Lib.hid hdone; have HBK := Lib.hid hbk
    clear hs hdone hbk HRS
    have fin : ∀ (r : Nat), (rootsB m)[k]? = some r → True := fun _ _ => trivial
    rcases hkk with rfl | rfl | rfl | rfl | rfl
    case inr.inr.inr.inr =>
      have HE : Hid (s = metaB m) := HD.out rfl
      clear stp fin HD
      go_wp2
      go_ret
      exact ⟨congrArg (fun l => Ending.returned (tx l)) HE.out, HBK.out⟩
    all_goals
      clear fin HD
      obtain ⟨l, hll, hn, hst⟩ := stp _ rfl
      have kk : ¬ (9223372036854775807 < s.length + l.length) := by omega
      have aa : (⟨s.toArray⟩ ++ ⟨l.toArray⟩ : ByteArray) = ⟨(s ++ l).toArray⟩ := by rw [ByteArray.ext_iff, ← Array.toList_inj, data_app]
      have HST := Lib.hid hst
      clear stp hst hll hln
      go_wp2_with (first
        | (go_at_call 63; go_must (refine hn.mono ?_; rintro e w4 ⟨rfl, hb4⟩; have HB4 := Lib.hid hb4; clear hb4)))
      go_roundw
      case rel => exact ⟨_, Nat.le_of_ble_eq_true rfl, rfl, by rw [HST.out], HBK.out.trans (HB4.out.mono HBK.out.size)⟩
      case measure => simp [intOf]
end Go.Proofs.YthbbammibdhohaaGreatDoor

namespace Go.Proofs.YthbbammibdhohaaGreatDoor
open Go.RowKit Aq Go.Rgn

theorem setRow_same {w : World} {g : Nat} {cs : Array Value} {t : TypeId} {fr : Nat × Nat} (h : w.heap[g]? = some (.cells cs t fr)) : w.setRow g cs = w := by
  have e : ∀ i : Nat, (w.setRow g cs).heap[i]? = w.heap[i]? := by
    intro i
    by_cases hi : i = g
    · subst hi; rw [setRow_heap w i cs cs t fr h, h]
    · rw [setRow_other w g i cs hi]
  have e2 : (w.setRow g cs).heap = w.heap := Array.ext_getElem? e
  have e3 : w.setRow g cs = { w with heap := (w.setRow g cs).heap } := rfl
  rw [e3, e2]
section
variable {P : Program}
theorem run_load_agg {w : World} {g : Nat} {ty : TypeId} {cs : List Value} {t : TypeId} {fr : Nat × Nat} (hg : w.heap[g]? = some (.cells cs.toArray t fr)) (ha : aggSize P ty = some cs.length) : (loadVar ty ⟨g, 0, none⟩).run P w = .ok (.agg cs.toArray) w := by
  obtain ⟨d, hu, hd, hi⟩ := aggSize_spec ha
  exact run_loadVar_mid w g 0 ty cs d (fun j v hv => cellAt hg (0 + j) v (by rw [Nat.zero_add]; simpa using hv)) hu hd hi
theorem results_cell2 {fn : Func} {tmps : Array Value} {w : World} (x ty u : Nat) (hr : fn.results = #[.cell x ty, .tmp u]) (g : Nat) (hx : tmps.getD x undef = .pointer (some ⟨g, 0, none⟩)) (cs : List Value) (t : TypeId) (fr : Nat × Nat) (hg : w.heap[g]? = some (.cells cs.toArray t fr)) (ha : aggSize P ty = some cs.length) :
    (results fn tmps).run P w = .ok (.tuple #[.agg cs.toArray, tmps.getD u undef]) w := by
  have h := run_load_agg (P := P) hg ha
  rw [Array.getD_eq_getD_getElem?] at hx
  unfold results
  rw [hr]
  simp [Array.mapM_eq_mapM_toList, Sem.run_bind, Sem.run_pure, hx, asAddr, h, Sem.run_map]
theorem results_cell1 {fn : Func} {tmps : Array Value} {w : World} (x ty : Nat) (hr : fn.results = #[.cell x ty]) (g : Nat) (hx : tmps.getD x undef = .pointer (some ⟨g, 0, none⟩)) (cs : List Value) (t : TypeId) (fr : Nat × Nat) (hg : w.heap[g]? = some (.cells cs.toArray t fr)) (ha : aggSize P ty = some cs.length) :
    (results fn tmps).run P w = .ok (.agg cs.toArray) w := by
  have h := run_load_agg (P := P) hg ha
  rw [Array.getD_eq_getD_getElem?] at hx
  unfold results
  rw [hr]
  simp [Array.mapM_eq_mapM_toList, Sem.run_bind, Sem.run_pure, hx, asAddr, h, Sem.run_map]
theorem wpList_store_same {ops : Array Oper} {rest : List Oper} {o : Oper} {a : Act} {w : World} {Q : Exit → Act → World → Prop} (hgd : o.guard = none) (ty : TypeId) (x y : Operand) (ho : o.op = .store ty x y)
    (g : Nat) (hx : a.eval x = .pointer (some ⟨g, 0, none⟩)) (cs : List Value) (hy : a.eval y = .agg cs.toArray) (t : TypeId)
    (hi : (P.info? ty).map (·.size) = some cs.length) (hg : w.heap[g]? = some (.cells cs.toArray t (0, 0))) (h1 : ∀ v ∈ cs, v.oneCell' = true)
    (h : wpList P ops Q rest (a.put o.dst undef) w) : wpList P ops Q (o :: rest) a w := by
  refine wpList_store_mid hgd ty x y ho g 0 hx cs hy t cs.toArray hi hg (by simp) h1 ?_
  have e : splice cs.toArray.toList 0 cs = cs := by simp [splice]
  rw [e, setRow_same hg]
  exact h
end
end Go.Proofs.YthbbammibdhohaaGreatDoor
