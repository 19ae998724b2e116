/- The law PagedbOpens, walked. Conditions as stated. -/
import Derived.Test.YthbbammibdhohaaGreatDoorZA1
set_option linter.unusedSimpArgs false
set_option linter.unusedVariables false
namespace Go.Proofs.YthbbammibdhohaaGreatDoor
open Go.RowKit Aq Go.Rgn Go.Maps

theorem tmod_100 (s : Int) : -99 ≤ s.tmod 100 ∧ s.tmod 100 ≤ 99 := by
  have h1 := Int.tmod_lt_of_pos s (show (0 : Int) < 100 by decide)
  have h2 := Int.lt_tmod_of_pos s (show (0 : Int) < 100 by decide)
  omega
def OffPost (B : Nat) (w : World) (db : Nat) (D : Disk) (e : Ending) (w' : World) : Prop := e = .returned (.int .i64 0) ∧ DiskAt B w' db { D with down := true } ∧ Upd B diskT w w'
theorem off_ok {B : Nat} {w : World} {db : Nat} {D : Disk} (h : DiskAt B w db D) (hd : D.down = false) : Calls Tryz.prog 10 #[.pointer (some ⟨db, 0, none⟩)] w (OffPost B w db D) := by
  refine (disk_Off h).mono fun e w' h1 => ?_
  have e1 : D.off = ({ D with down := true }, 0) := by unfold Disk.off; rw [hd]; rfl
  rw [e1] at h1
  exact h1
/-- what the law's first opening answers -/
def opensC (off : Bool) (log N : Int) : Int := if off then 10 else if log < 2 ∨ N < log then 2 else if (N - log) / 8 < 4 then 2 else 0
def OpensPost (w : World) (c : Int) (e : Ending) (w' : World) : Prop := (∃ v, e = .returned (.tuple #[.pointer v, .int .i64 c]) ∧ ((c = 0 ∧ ∃ x, v = some ⟨x, 0, none⟩) ∨ (c ≠ 0 ∧ v = none))) ∧ Below w.heap.size w w'
theorem opens_call {w0 w : World} {db : Nat} (N : Nat) (hN : N ≤ 100) (hN1 : 1 ≤ N) (hb : Below w0.heap.size w0 w) (hH : HalfAt w0) (hB : 0 < w0.heap.size) (hd : DiskAt w0.heap.size w db (Disk.new N)) (log : Int) :
    Calls Tryz.prog 11 #[.pointer (some ⟨db, 0, none⟩), .int .i64 log] w (fun e w' => (∃ v, e = .returned (.tuple #[.pointer v, .int .i64 (opensC false log N)]) ∧ ((opensC false log N = 0 ∧ ∃ x, v = some ⟨x, 0, none⟩) ∨ (opensC false log N ≠ 0 ∧ v = none))) ∧ Below w0.heap.size w w') := by
  have hl : (Disk.new N).kept.length = N := by simp [Disk.new]
  have hH1 := hH.below hb hB
  by_cases h1 : log < 2 ∨ (N : Int) < log
  · have e : opensC false log N = 2 := by unfold opensC; simp only [Bool.false_eq_true, if_false]; rw [if_pos h1]
    rw [e]
    exact (db_Open_arg hd rfl log (by rw [hl]; exact h1)).mono fun e w' h => ⟨⟨none, h.1, .inr ⟨by decide, rfl⟩⟩, h.2.mono hb.size⟩
  · obtain ⟨n, rfl⟩ : ∃ n : Nat, log = (n : Int) := ⟨log.toNat, by omega⟩
    by_cases h2 : (N - n) / 8 < 4
    · have e : opensC false (n : Int) N = 2 := by unfold opensC; simp only [Bool.false_eq_true, if_false]; rw [if_neg h1, if_pos (by omega)]
      rw [e]
      have hz : LogOn (Disk.new N) n 0 [] := .inl ⟨by simp [Disk.look, Disk.new, lastAt, List.getD_eq_getElem?_getD, show 0 < N by omega], rfl, rfl⟩
      exact (db_Open_small hd rfl hb.size n (by omega) (by rw [hl]; omega) 0 [] hz hH1 hB (by rw [hl]; exact h2)).mono fun e w' h => ⟨⟨none, h.1, .inr ⟨by decide, rfl⟩⟩, h.2.mono hb.size⟩
    · have e : opensC false (n : Int) N = 0 := by unfold opensC; simp only [Bool.false_eq_true, if_false]; rw [if_neg h1, if_neg (by omega)]
      rw [e]
      refine (st_Open_new (fun _ => (0, [])) hd (by omega) hb.size (by omega) (by omega) hH1 hB).mono fun e w' h => ?_
      obtain ⟨x, p, D', he, _, _, _, _, hu⟩ := openOk h rfl
      exact ⟨⟨_, he, .inl ⟨rfl, x, rfl⟩⟩, hu.below hb.size⟩
def OpensR (w0 : World) (w : World) (c : Int) (e : Ending) (w' : World) : Prop := e = .returned (.tuple #[.pointer none, .int .i64 c]) ∧ Below w0.heap.size w w'
def OpensX (w0 : World) (w : World) (e : Ending) (w' : World) : Prop := ∃ x, e = .returned (.tuple #[.pointer (some ⟨x, 0, none⟩), .int .i64 0]) ∧ Below w0.heap.size w w'
theorem opens_no {w0 w : World} {db : Nat} (N : Nat) (hN : N ≤ 100) (hN1 : 1 ≤ N) (hb : Below w0.heap.size w0 w) (hH : HalfAt w0) (hB : 0 < w0.heap.size) (hd : DiskAt w0.heap.size w db (Disk.new N)) (log : Int) (hc : opensC false log N = 2) :
    Calls Tryz.prog 11 #[.pointer (some ⟨db, 0, none⟩), .int .i64 log] w (OpensR w0 w 2) := by
  refine (opens_call N hN hN1 hb hH hB hd log).mono fun e w' h => ?_
  obtain ⟨⟨v, he, h1 | ⟨_, h1⟩⟩, h2⟩ := h
  · rw [hc] at h1; exact absurd h1.1 (by decide)
  · rw [hc, h1] at he; exact ⟨he, h2⟩
theorem opens_yes {w0 w : World} {db : Nat} (N : Nat) (hN : N ≤ 100) (hN1 : 1 ≤ N) (hb : Below w0.heap.size w0 w) (hH : HalfAt w0) (hB : 0 < w0.heap.size) (hd : DiskAt w0.heap.size w db (Disk.new N)) (log : Int) (hc : opensC false log N = 0) :
    Calls Tryz.prog 11 #[.pointer (some ⟨db, 0, none⟩), .int .i64 log] w (OpensX w0 w) := by
  refine (opens_call N hN hN1 hb hH hB hd log).mono fun e w' h => ?_
  obtain ⟨⟨v, he, ⟨_, x, h1⟩ | ⟨h1, _⟩⟩, h2⟩ := h
  · rw [hc, h1] at he; exact ⟨x, he, h2⟩
  · exact absurd hc h1
set_option maxHeartbeats 8000000 in
set_option maxRecDepth 100000 in
theorem law_opens (w : World) (hH : HalfAt w) (hB : 0 < w.heap.size) (s log : Int) (off : Bool) (hs : -9223372036854775808 ≤ s ∧ s ≤ 9223372036854775807) (hl : -9223372036854775808 ≤ log ∧ log ≤ 9223372036854775807) :
    Calls Tryz.prog 3 #[.int .i64 s, .int .i64 log, .bool off] w (BoolPost w true) := by
  have hm := tmod_100 s
  obtain ⟨N, hN⟩ : ∃ N : Nat, 1 + s.tmod 100 % 100 = (N : Int) := ⟨(1 + s.tmod 100 % 100).toNat, by omega⟩
  have hN1 : 1 ≤ N := by omega
  have hN2 : N ≤ 100 := by omega
  have hnew := new_ok w N hN1 (by omega)
  obtain ⟨hs1, hs2⟩ := hs; obtain ⟨hl1, hl2⟩ := hl; obtain ⟨hm1, hm2⟩ := hm
  have hnil := fun w1 => db_Open_nil w1 log
  have hwk : ∀ w1, Below w.heap.size w w1 → Calls Tryz.prog 12 #[] w1 (BoolPost w1 true) := fun w1 hb => works_ok w1 (hH.below hb hB) (Nat.lt_of_lt_of_le hB hb.size)
  have HWK := Lib.hid hwk
  clear hwk
  have i1 : (1 : Int) ≤ (N : Int) := by omega
  have i2 : (N : Int) ≤ 100 := by omega
  cases off
  case true =>
    have hop : ∀ w1 w2 db, Below w.heap.size w w1 → DiskAt w.heap.size w1 db (Disk.new N) → DiskAt w.heap.size w2 db { Disk.new N with down := true } → Calls Tryz.prog 11 #[.pointer (some ⟨db, 0, none⟩), .int .i64 log] w2 (RefPost w2 10) := fun w1 w2 db _ _ hd => db_Open_down hd rfl log
    have HOP := Lib.hid hop
    clear hop hH
    go_enter Tryz.func3, Tryz.ntmps3
    go_wp2_with (first
      | (go_at_call 9; go_must (refine hnew.mono ?_; rintro e w1 ⟨db, rfl, hd1, hb1⟩; have HD1 := Lib.hid hd1; have HB1 := Lib.hid hb1; clear hd1 hb1))
      | (go_at_call 10; go_must (refine (off_ok HD1.out rfl).mono ?_; rintro e w2 ⟨rfl, hd2, hu2⟩; have HO2 := Lib.hid (HOP.out w1 w2 db HB1.out HD1.out hd2); have HB2 : Hid (Below w.heap.size w w2) := HB1.out.trans (hu2.below HB1.out.size); clear hd2 hu2))
      | (go_at_call 11; have _tk := HO2; go_must (refine HO2.out.mono ?_; rintro e w3 ⟨rfl, hb3⟩; have HB3 : Hid (Below w.heap.size w w3) := HB2.out.trans (hb3.mono HB2.out.size); clear hb3 HO2))
      | (go_at_call 11; go_must (refine (hnil _).mono ?_; rintro e w4 ⟨rfl, hb4⟩; have HB4 : Hid (Below w.heap.size w w4) := HB3.out.trans (hb4.mono HB3.out.size); clear hb4))
      | (go_at_call 12; go_must (refine (HWK.out _ HB4.out).mono ?_; rintro e w5 ⟨rfl, hb5⟩; have HB5 : Hid (Below w.heap.size w w5) := HB4.out.trans (hb5.mono HB4.out.size); clear hb5)))
    go_ret
    exact ⟨rfl, HB5.out⟩
  case false =>
    have hcases : log < 2 ∨ (¬ log < 2 ∧ (N : Int) < log) ∨ (¬ log < 2 ∧ ¬ (N : Int) < log ∧ ((N : Int) - log) / 8 < 4) ∨ (¬ log < 2 ∧ ¬ (N : Int) < log ∧ ¬ ((N : Int) - log) / 8 < 4) := by omega
    rcases hcases with c1 | ⟨c1, c2⟩ | ⟨c1, c2, c3⟩ | ⟨c1, c2, c3⟩
    case inr.inr.inr =>
      have hc : opensC false log N = 0 := by unfold opensC; simp only [Bool.false_eq_true, if_false]; rw [if_neg (by omega), if_neg c3]
      have c4 : log ≤ (N : Int) := by omega
      have c5 : (0 : Int) ≤ (N : Int) - log := by omega
      have hop : ∀ w1 db, Below w.heap.size w w1 → DiskAt w.heap.size w1 db (Disk.new N) → Calls Tryz.prog 11 #[.pointer (some ⟨db, 0, none⟩), .int .i64 log] w1 (OpensX w w1) := fun w1 db hb hd => opens_yes N hN2 hN1 hb hH hB hd log hc
      have HOP := Lib.hid hop
      clear hop hH hc
      go_enter Tryz.func3, Tryz.ntmps3
      go_wp2_with (first
        | (go_at_call 9; go_must (refine hnew.mono ?_; rintro e w1 ⟨db, rfl, hd1, hb1⟩; have HO2 := Lib.hid (HOP.out w1 db hb1 hd1); have HB1 := Lib.hid hb1; clear hd1 hb1))
        | (go_at_call 11; have _tk := HO2; go_must (refine HO2.out.mono ?_; rintro e w3 ⟨x, rfl, hb3⟩; have HB3 : Hid (Below w.heap.size w w3) := HB1.out.trans hb3; clear hb3 HO2))
        | (go_at_call 11; go_must (refine (hnil _).mono ?_; rintro e w4 ⟨rfl, hb4⟩; have HB4 : Hid (Below w.heap.size w w4) := HB3.out.trans (hb4.mono HB3.out.size); clear hb4))
        | (go_at_call 12; go_must (refine (HWK.out _ HB4.out).mono ?_; rintro e w5 ⟨rfl, hb5⟩; have HB5 : Hid (Below w.heap.size w w5) := HB4.out.trans (hb5.mono HB4.out.size); clear hb5)))
      go_ret
      exact ⟨rfl, HB5.out⟩
    all_goals
      have hc : opensC false log N = 2 := by
        unfold opensC; simp only [Bool.false_eq_true, if_false]
        by_cases c6 : log < 2 ∨ (N : Int) < log
        · rw [if_pos c6]
        · rw [if_neg c6, if_pos (by omega)]
      have hop : ∀ w1 db, Below w.heap.size w w1 → DiskAt w.heap.size w1 db (Disk.new N) → Calls Tryz.prog 11 #[.pointer (some ⟨db, 0, none⟩), .int .i64 log] w1 (OpensR w w1 2) := fun w1 db hb hd => opens_no N hN2 hN1 hb hH hB hd log hc
      have HOP := Lib.hid hop
      clear hop hH hc
      try (have c4 : log ≤ (N : Int) := by omega)
      try (have c5 : (0 : Int) ≤ (N : Int) - log := by omega)
      go_enter Tryz.func3, Tryz.ntmps3
      go_wp2_with (first
        | (go_at_call 9; go_must (refine hnew.mono ?_; rintro e w1 ⟨db, rfl, hd1, hb1⟩; have HO2 := Lib.hid (HOP.out w1 db hb1 hd1); have HB1 := Lib.hid hb1; clear hd1 hb1))
        | (go_at_call 11; have _tk := HO2; go_must (refine HO2.out.mono ?_; rintro e w3 ⟨rfl, hb3⟩; have HB3 : Hid (Below w.heap.size w w3) := HB1.out.trans hb3; clear hb3 HO2))
        | (go_at_call 11; go_must (refine (hnil _).mono ?_; rintro e w4 ⟨rfl, hb4⟩; have HB4 : Hid (Below w.heap.size w w4) := HB3.out.trans (hb4.mono HB3.out.size); clear hb4))
        | (go_at_call 12; go_must (refine (HWK.out _ HB4.out).mono ?_; rintro e w5 ⟨rfl, hb5⟩; have HB5 : Hid (Below w.heap.size w w5) := HB4.out.trans (hb5.mono HB4.out.size); clear hb5)))
      go_ret
      exact ⟨rfl, HB5.out⟩
end Go.Proofs.YthbbammibdhohaaGreatDoor
