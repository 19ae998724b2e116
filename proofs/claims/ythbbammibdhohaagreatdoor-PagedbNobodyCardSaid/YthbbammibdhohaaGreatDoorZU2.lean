/- wal.Open where it refuses: no disk, no power, bad arguments. No condition. wal.Open on a fresh log comes to the model's; the words for a log that lies on a disk. Conditions as stated. wal.Open on a log that has a head comes to the model's. Conditions as stated. page.Blank: is a page of noughts alone. Condition: 512 bytes. page.Open on a sealed page comes to its kind and body. Conditions as stated. -/
import Derived.Deep.CutRange
import Derived.Lib.EndianBits
import Derived.Test.YthbbammibdhohaaGreatDoorZL6
set_option linter.unusedSimpArgs false
set_option linter.unusedVariables false
namespace Go.Proofs.YthbbammibdhohaaGreatDoor
open Go.RowKit Aq Go.Rgn

set_option maxHeartbeats 1000000 in
set_option maxRecDepth 100000 in
theorem disk_none_nil {w : World} : Calls Tryz.prog 64 #[.pointer none] w fun e w' => e = .returned (.bool true) ∧ w = w' := by
  go_enter Tryz.func64, Tryz.ntmps64
  go_wp2
  go_ret
  exact ⟨rfl, rfl⟩
set_option maxHeartbeats 1000000 in
set_option maxRecDepth 100000 in
theorem disk_Size_nil {w : World} : Calls Tryz.prog 62 #[.pointer none] w fun e w' => e = .returned (.int .i64 0) ∧ w = w' := by
  go_enter Tryz.func62, Tryz.ntmps62
  go_wp2_with (go_at_call 64; refine (disk_none_nil).mono ?_; rintro e w' ⟨rfl, rfl⟩)
  go_ret
  exact ⟨rfl, rfl⟩
def RefPost (w : World) (x : Int) (e : Ending) (w' : World) : Prop := e = .returned (.tuple #[.pointer none, .int .i64 x]) ∧ Below w.heap.size w w'
set_option maxHeartbeats 1000000 in
set_option maxRecDepth 100000 in
theorem wal_Open_nil (w : World) (b n : Int) : Calls Tryz.prog 41 #[.pointer none, .int .i64 b, .int .i64 n] w (RefPost w 1) := by
  go_enter Tryz.func41, Tryz.ntmps41
  go_wp2_with (go_at_call 62; refine (disk_Size_nil).mono ?_; rintro e w' ⟨rfl, rfl⟩)
  go_ret2
  exact ⟨rfl, Below.refl _ _⟩
set_option maxHeartbeats 1000000 in
set_option maxRecDepth 100000 in
theorem wal_Open_down {B : Nat} {w : World} {db : Nat} {D : Disk} (hd : DiskAt B w db D) (hdn : D.down = true) (b n : Int) : Calls Tryz.prog 41 #[.pointer (some ⟨db, 0, none⟩), .int .i64 b, .int .i64 n] w (RefPost w 10) := by
  have hs := disk_Size hd; have hdw := disk_Down hd
  rw [hdn] at hdw
  obtain ⟨kb, pv, dn, h⟩ := hd
  have h0 := ne0 h.ok.pos
  clear h hdn
  go_enter Tryz.func41, Tryz.ntmps41
  go_wp2_with (first
    | (go_at_call 62; refine hs.mono ?_; rintro e w' ⟨rfl, rfl⟩)
    | (go_at_call 33; refine hdw.mono ?_; rintro e w' ⟨rfl, rfl⟩))
  go_ret2
  exact ⟨rfl, Below.refl _ _⟩
set_option maxHeartbeats 1000000 in
set_option maxRecDepth 100000 in
theorem wal_Open_arg {B : Nat} {w : World} {db : Nat} {D : Disk} (hd : DiskAt B w db D) (hdn : D.down = false) (n : Int) (hn : n < 2 ∨ (D.kept.length : Int) < n) : Calls Tryz.prog 41 #[.pointer (some ⟨db, 0, none⟩), .int .i64 0, .int .i64 n] w (RefPost w 2) := by
  have hs := disk_Size hd; have hdw := disk_Down hd
  rw [hdn] at hdw
  obtain ⟨kb, pv, dn, h⟩ := hd
  have h0 := ne0 h.ok.pos
  have hm := h.ok.most
  have hp := h.ok.pos
  clear h hdn
  by_cases h2 : n < 2
  · clear hn
    go_enter Tryz.func41, Tryz.ntmps41
    go_wp2_with (first
      | (go_at_call 62; refine hs.mono ?_; rintro e w' ⟨rfl, rfl⟩)
      | (go_at_call 33; refine hdw.mono ?_; rintro e w' ⟨rfl, rfl⟩))
    go_ret2
    exact ⟨rfl, Below.refl _ _⟩
  · have h3 : (D.kept.length : Int) < n := hn.resolve_left h2
    have h4 : ¬ ((D.kept.length : Int) < 0) := by omega
    clear hn
    go_enter Tryz.func41, Tryz.ntmps41
    go_wp2_with (first
      | (go_at_call 62; refine hs.mono ?_; rintro e w' ⟨rfl, rfl⟩)
      | (go_at_call 33; refine hdw.mono ?_; rintro e w' ⟨rfl, rfl⟩))
    go_ret2
    exact ⟨rfl, Below.refl _ _⟩
end Go.Proofs.YthbbammibdhohaaGreatDoor

namespace Go.Proofs.YthbbammibdhohaaGreatDoor
open Go.RowKit Aq Go.Rgn

def framesB (recs : List Bs) : Bs := recs.flatMap frameB
def secs (D : Disk) (k : Nat) : Bs := (List.range k).flatMap fun i => D.look (1 + i)
/-- a log of these records lies in the sectors 0 .. n-1 of D -/
def LogOn (D : Disk) (n epoch : Nat) (recs : List Bs) : Prop :=
  (D.look 0 = zeros 64 ∧ epoch = 0 ∧ recs = []) ∨
  (D.look 0 = headB epoch (framesB recs).length ∧ epoch ≤ 4611686018427387904 ∧ (∀ r ∈ recs, r.length ≤ 65536) ∧ (framesB recs).length ≤ 64 * (n - 1) ∧
    (secs D (((framesB recs).length + 63) / 64)).take (framesB recs).length = framesB recs)
def freshLog (n epoch : Nat) (recs : List Bs) : Log := ⟨n, epoch, framesB recs, recs, [], false⟩
def OpenPost (B : Nat) (w : World) (db : Nat) (L : Log) (e : Ending) (w' : World) : Prop :=
  ∃ p, e = .returned (.tuple #[.pointer (some ⟨p, 0, none⟩), .int .i64 0]) ∧ LogNow B w' p db L ∧ w.heap.size ≤ p ∧ Below w.heap.size w w'
theorem look_len {D : Disk} (h : D.Ok) (i : Nat) (hi : i < D.kept.length) : (D.look i).length = 64 := by
  unfold Disk.look
  have hl : ∀ p : List (Nat × Bs), (∀ x ∈ p, x.1 < D.kept.length ∧ x.2.length = 64) → ∀ s, lastAt i p = some s → s.length = 64 := by
    intro p
    induction p with
    | nil => intro _ s hs; cases hs
    | cons x p ih =>
      intro hx s hs
      simp only [lastAt] at hs
      split at hs
      · rename_i s' hs'
        injection hs with hs; subst hs
        exact ih (fun y hy => hx y (List.mem_cons_of_mem _ hy)) _ hs'
      · split at hs
        · injection hs with hs; subst hs; exact (hx x (List.mem_cons_self ..)).2
        · cases hs
  cases hc : lastAt i D.pend with
  | some s => exact hl _ h.ats s hc
  | none =>
    simp only [Option.getD_none, List.getD_eq_getElem?_getD, List.getElem?_eq_getElem hi, Option.getD_some]
    exact h.len _ (List.getElem_mem _)
theorem read_look {D : Disk} (hd : D.down = false) (i : Nat) (hi : i < D.kept.length) : D.read (i : Int) = (D.look i, 0) := by
  unfold Disk.read Disk.is
  rw [hd]
  simp only [Bool.false_eq_true, if_false]
  rw [if_pos (by simp; exact hi)]
  rfl
theorem repeat_zeros (w1 : World) (c : Nat) (hc : c ≤ 4096) : Calls Tryz.prog 76 #[.string ⟨#[0]⟩, .int .i64 (c : Int)] w1 (NumPost w1 (zeros c)) := by
  refine (Tryz.strings_Repeat ⟨#[0]⟩ c w1 (by omega) (by show 1 * c ≤ _; omega)).mono ?_
  rintro x w2 ⟨hx, hb⟩
  exact ⟨by rw [hx, show (⟨#[0]⟩ : ByteArray).data.toList = [0] from rfl, repeat0], hb⟩
set_option maxHeartbeats 1000000 in
set_option maxRecDepth 100000 in
theorem wal_Open_zero {B : Nat} {w : World} {db : Nat} {D : Disk} (hd : DiskAt B w db D) (hdn : D.down = false) (n : Nat) (h2 : 2 ≤ n) (hn : n ≤ D.kept.length) (hz : D.look 0 = zeros 64) :
    Calls Tryz.prog 41 #[.pointer (some ⟨db, 0, none⟩), .int .i64 0, .int .i64 (n : Int)] w (OpenPost B w db (freshLog n 0 [])) := by
  have hs := disk_Size hd; have hdw := disk_Down hd
  rw [hdn] at hdw
  have hok : D.Ok := by obtain ⟨kb, pv, dn, h⟩ := hd; exact h.ok
  have h0 := ne0 hok.pos
  have hm := hok.most
  have hBs : B ≤ w.heap.size := by obtain ⟨kb, pv, dn, h⟩ := hd; exact Nat.le_trans h.hb (Nat.le_of_lt (lt_of_some h.head))
  have hread : ∀ w1, Below w.heap.size w w1 → Calls Tryz.prog 75 #[.pointer (some ⟨db, 0, none⟩), .int .i64 0] w1 (ReadPost w1 (zeros 64, 0)) := fun w1 hb => by
    have h1 := disk_Read (hd.keep (Below.sees hb)) ((0 : Nat) : Int)
    rw [read_look hdn 0 hok.pos, hz] at h1
    exact h1
  have hrep := fun w1 => repeat_zeros w1 64 (by decide)
  obtain ⟨z, hzz⟩ : ∃ z, z = zeros 64 := ⟨_, rfl⟩
  rw [← hzz] at hread hrep
  have g1 : ¬ ((n : Int) < 2) := by omega
  have g2 : ¬ ((D.kept.length : Int) < 0) := by omega
  have g3 : ¬ ((D.kept.length : Int) < (n : Int)) := by omega
  have HD := Lib.hid hd
  clear hd hdn hz hzz hok
  have hb0 : Below w.heap.size w (w.alloc (.cells (logCells db n 0 (.slice none 0 0) (.slice none 0 0) (.slice none 0 0) false) 124)) := (Below.refl _ w).alloc (Nat.le_refl _) _
  go_enter Tryz.func41, Tryz.ntmps41
  go_wp2_with (first
    | (go_at_call 62; refine hs.mono ?_; rintro e w' ⟨rfl, rfl⟩)
    | (go_at_call 33; refine hdw.mono ?_; rintro e w' ⟨rfl, rfl⟩)
    | (go_at_call 75; go_must (refine (hread _ hb0).mono ?_; rintro e w1 ⟨rfl, hb1⟩; have HB1 := Lib.hid hb1; clear hb1))
    | (go_at_call 76; go_must (refine (hrep _).mono ?_; rintro e w2 ⟨rfl, hb2⟩; have HB2 := Lib.hid hb2; clear hb2)))
  go_ret2
  refine ⟨w.heap.size, rfl, ⟨_, _, ⟨hBs, ?_, ⟨none, 0, rfl, .inl rfl⟩, World.ownsRow_nil _ _ _ _, World.ownsRow_nil _ _ _ _, (fun g hg => by cases hg), ⟨h2, by show n ≤ 65536; omega, Nat.zero_le _, Nat.zero_le _, Nat.zero_le _, Nat.zero_le _, (fun r hr => by cases hr)⟩⟩, rfl, rfl, Nat.le_refl _⟩, Nat.le_refl _, ?_⟩
  · have hk1 : w.heap.size < (w.alloc (.cells (logCells db n 0 (.slice none 0 0) (.slice none 0 0) (.slice none 0 0) false) 124)).heap.size := by simp
    exact (HB2.out.block _ (Nat.lt_of_lt_of_le hk1 HB1.out.size)).trans ((HB1.out.block _ hk1).trans (heap_alloc_new w _))
  · exact hb0.trans ((HB1.out.mono hb0.size).trans (HB2.out.mono (Nat.le_trans hb0.size HB1.out.size)))
theorem secs_succ (D : Disk) (j : Nat) : secs D (j + 1) = secs D j ++ D.look (1 + j) := by simp [secs, List.range_succ]
theorem secs_len {D : Disk} (h : D.Ok) : ∀ j, 1 + j ≤ D.kept.length → (secs D j).length = 64 * j := by
  intro j
  induction j with
  | zero => intro _; rfl
  | succ j ih =>
    intro hj
    rw [secs_succ, List.length_append, ih (by omega), look_len h (1 + j) (by omega)]; omega
theorem LogIs.ne_row {B C : Nat} {w : World} {p db : Nat} {bv rv wv v : Value} {L : Log} {e n : Nat} {xs : List Value} (h : LogIs B w p db bv rv wv L) (ho : w.ownsRow C e 1 v n xs) (he : e ≠ tLog) : some p ≠ v.ownBlock := by
  rcases ho.2 with ⟨rfl, _⟩ | ⟨g, cap, cur, rfl, _, hg, _⟩
  · simp [Value.ownBlock]
  · simp only [Value.ownBlock, ne_eq, Option.some.injEq]; intro e'; subst e'; have := h.head; rw [this] at hg; injection hg with hg; injection hg with _ ht; exact he ht.symm
/-- while the log is opened: no record yet, its bytes' row grows -/
theorem LogIs.grownBytes {B C : Nat} {w w' : World} {p db : Nat} {bv v' : Value} {L : Log} {n n' : Nat} {xs : List Value} {all : Bs} (h : LogIs B w p db bv (.slice none 0 0) (.slice none 0 0) L) (hr : L.recs = []) (hw : L.wait = [])
    (ho : w.ownsRow C 5 1 bv n xs) (hg : w.grownBy w' bv.ownBlock) (ho' : w'.ownsRow C 5 1 v' n' (all.map byt)) (hB : B ≤ C) (hp : C ≤ p) (hok : ({ L with bytes := all } : Log).Ok) :
    w'.cell? ⟨p, 4, none⟩ = some bv ∧ w'.frozen? ⟨p, 4, none⟩ = false ∧ LogIs B (w'.setCell ⟨p, 4, none⟩ v') p db v' (.slice none 0 0) (.slice none 0 0) { L with bytes := all } ∧
      (w'.setCell ⟨p, 4, none⟩ v').ownsRow C 5 1 v' n' (all.map byt) ∧ Below C w (w'.setCell ⟨p, 4, none⟩ v') := by
  have hh : w'.heap[p]? = some (.cells (logCells db L.n L.epoch bv (.slice none 0 0) (.slice none 0 0) L.lost) tLog (0, 0)) := (hg.block p (lt_of_some h.head) (h.ne_row ho (by decide))).trans h.head
  have hr2 : ({ L with bytes := all } : Log).recs = [] := hr
  have hw2 : ({ L with bytes := all } : Log).wait = [] := hw
  refine ⟨cellAt hh 4 _ rfl, freeAt hh 4, ⟨h.hp, ?_, ?_, ?_, ?_, (fun g hg => by cases hg), hok⟩, ownsRow_setCell_tag ho' (p := ⟨p, 4, none⟩) hh (by decide) v', ?_⟩
  · rw [heap_setCell_same w' p 4 _ _ v' hh]; rfl
  · exact (rowIs_low (RowIs.of_owns ho') hB).setCell_tag (p := ⟨p, 4, none⟩) hh (by decide) _
  · rw [hr2]; exact World.ownsRow_nil _ _ _ _
  · rw [hw2]; exact World.ownsRow_nil _ _ _ _
  · have hpl : p < w.heap.size := lt_of_some h.head
    have h1 : Below C w w' := (Below.refl C w).grown hg (by omega) (fun k hk => (owns_block ho hk).1)
    exact h1.setCell (p := ⟨p, 4, none⟩) hp _
theorem LogIs.grownRecs {B C : Nat} {w w' : World} {p db : Nat} {bv rv v' : Value} {L : Log} {n' : Nat} {all : List Bs} (h : LogIs B w p db bv rv (.slice none 0 0) L) (hw : L.wait = [])
    (ho : w.ownsRow C 9 1 rv L.recs.length (txs L.recs)) (hg : w.grownBy w' rv.ownBlock) (ho' : w'.ownsRow C 9 1 v' n' (txs all)) (hn : n' = all.length) (hB : B ≤ C) (hp : C ≤ p) (hok : ({ L with recs := all } : Log).Ok) :
    w'.cell? ⟨p, 5, none⟩ = some rv ∧ w'.frozen? ⟨p, 5, none⟩ = false ∧ LogIs B (w'.setCell ⟨p, 5, none⟩ v') p db bv v' (.slice none 0 0) { L with recs := all } ∧
      (w'.setCell ⟨p, 5, none⟩ v').ownsRow C 9 1 v' n' (txs all) ∧ Below C w (w'.setCell ⟨p, 5, none⟩ v') := by
  obtain ⟨hu, hh⟩ := h.grownRec hg
  have hw2 : ({ L with recs := all } : Log).wait = [] := hw
  have hrow : RowIs B w' 5 bv (L.bytes.map byt) := h.bytes.sees (T := fun t => t == 5) (hu.sees fun t ht => by rw [beq_iff_eq] at ht; subst ht; rfl) rfl
  refine ⟨cellAt hh 5 _ rfl, freeAt hh 5, ⟨h.hp, ?_, ?_, ?_, ?_, (fun g _ hv => by cases hv), hok⟩, ownsRow_setCell_tag ho' (p := ⟨p, 5, none⟩) hh (by decide) v', ?_⟩
  · rw [heap_setCell_same w' p 5 _ _ v' hh]; rfl
  · exact hrow.setCell_tag (p := ⟨p, 5, none⟩) hh (by decide) _
  · show World.ownsRow _ B _ 1 v' all.length (txs all)
    rw [← hn]; exact ownsRow_low (ownsRow_setCell_tag ho' (p := ⟨p, 5, none⟩) hh (by decide) v') hB
  · rw [hw2]; exact World.ownsRow_nil _ _ _ _
  · have hpl : p < w.heap.size := lt_of_some h.head
    have h1 : Below C w w' := (Below.refl C w).grown hg (by omega) (fun k hk => (owns_block ho hk).1)
    exact h1.setCell (p := ⟨p, 5, none⟩) hp _
theorem RowIs.cut {B : Nat} {w : World} {e n c : Nat} {a : Option Addr} {xs : List Value} (h : w.ownsRow B e 1 (.slice a n c) n xs) (m c' : Nat) (hm : m ≤ n) : RowIs B w e (.slice a m c') (xs.take m) := by
  have hl : xs.length = n := by have := h.1; omega
  obtain ⟨a', c2, hv, h2⟩ := RowIs.of_owns h
  injection hv with h3 _ _
  subst h3
  refine ⟨a, c', by rw [List.length_take, hl, Nat.min_eq_left hm], ?_⟩
  rcases h2 with h2 | ⟨g, cur, ha, hB, hg, hc⟩
  · exact .inl (by rw [h2]; simp)
  · refine .inr ⟨g, cur, ha, hB, hg, fun t u hu => hc t u ?_⟩
    rw [List.getElem?_take] at hu
    split at hu
    · exact hu
    · cases hu
theorem wpList_row_text {P : Program} {ops : Array Oper} {rest : List Oper} {o : Oper} {a : Act} {w : World} {Q : Exit → Act → World → Prop} (hgd : o.guard = none) (src dst : TypeId) (x : Operand) (ho : o.op = .convert src dst x)
    (e : TypeId) (hs : P.underlying src = some (.slice e)) (he : P.underlying e = some (.int .u8)) (hd : P.underlying dst = some .string)
    (B t : Nat) (ad : Option Addr) (len cap : Nat) (hx : a.eval x = .slice ad len cap) (l : Bs) (hl : l.length = len) (hc : RowIs B w t (.slice ad len cap) (l.map byt))
    (h : wpList P ops Q rest (a.put o.dst (tx l)) w) : wpList P ops Q (o :: rest) a w := by
  cases ad with
  | none =>
    obtain ⟨h1, rfl⟩ := hc.nil_of
    have hln : l = [] := List.map_eq_nil_iff.1 h1
    subst hln
    refine wpList_plain hgd fun K hK => ?_
    have hrun : (convert src dst (.slice none 0 cap)).run P w = .ok (tx []) w := by
      rw [run_convert_bytes_string w src dst e _ _ _ hs he hd]; rfl
    unfold Oper.wp
    simp [execOp, ho, hx, hrun, Result.andThen]
    exact hK _ _ h
  | some p =>
    have hcell : ∀ j b, l[j]? = some b → ∃ g, p = ⟨g, 0, none⟩ ∧ w.cell? ⟨g, j, none⟩ = some (byt b) := fun j b hb => by
      obtain ⟨g, hg, hc'⟩ := hc.cell (t := j) (u := byt b) (by rw [List.getElem?_map, hb]; rfl)
      injection hg with hg
      exact ⟨g, hg, hc'⟩
    obtain ⟨g, off⟩ : ∃ q : Addr, q = p := ⟨p, rfl⟩
    refine wpList_plain hgd fun K hK => ?_
    have hrun : (convert src dst (.slice (some p) len cap)).run P w = .ok (tx l) w := by
      rw [run_convert_bytes_string w src dst e _ _ _ hs he hd]
      have h : (loadCells p len).run P w = .ok ((l.map fun b => (b.toNat : Int)).map (Value.int .u8)).toArray w := by
        have := run_loadCells_list (P := P) w p (l.map byt) (fun j v hv => by
          simp only [List.getElem?_map, Option.map_eq_some_iff] at hv
          obtain ⟨b, hb, rfl⟩ := hv
          obtain ⟨g', hg', hc'⟩ := hcell j b hb
          rw [hg', Addr.add_here, Nat.zero_add]; exact hc')
        simp only [List.length_map, hl] at this
        rw [this]
        simp [byt, Function.comp_def]
      rw [run_bytesToString w _ len cap _ h, toBytes_fold]
      simp [tx]
    unfold Oper.wp
    simp [execOp, ho, hx, hrun, Result.andThen]
    exact hK _ _ h
end Go.Proofs.YthbbammibdhohaaGreatDoor

namespace Go.Proofs.YthbbammibdhohaaGreatDoor
open Go.RowKit Aq Go.Rgn

theorem head_len (e n : Nat) : (headB e n).length = 64 := by simp [headB, preB, sumB, num_len, zeros]
theorem head_slice1 (e n : Nat) : ((headB e n).drop 4).take 8 = num e 8 := by
  have h1 : (num e 8).length = 8 := num_len _ _
  simp only [headB, preB, List.append_assoc]
  rw [show ([65, 81, 87, 76] : Bs) = [65, 81, 87, 76] from rfl, List.drop_left' (by rfl), List.take_append_of_le_length (by omega), List.take_of_length_le (by omega)]
theorem head_slice2 (e n : Nat) : ((headB e n).drop 12).take 4 = num n 4 := by
  have h1 : (num e 8).length = 8 := num_len _ _
  have h2 : (num n 4).length = 4 := num_len _ _
  simp only [headB, preB, List.append_assoc]
  rw [← List.append_assoc [65, 81, 87, 76], List.drop_left' (by rw [List.length_append, h1]; rfl), List.take_append_of_le_length (by omega), List.take_of_length_le (by omega)]
theorem head_ne (e n : Nat) : headB e n ≠ zeros 64 := by
  intro h
  have := congrArg List.head? h
  simp [headB, preB, zeros] at this
def OpenInv1 (B : Nat) (w : World) (db n epoch m : Nat) (D : Disk) (v : Value) (wr : World) : Prop :=
  ∃ (j : Nat) (bv : Value), j ≤ (m + 63) / 64 ∧ v = .int .i64 ((1 + j : Nat) : Int) ∧ LogIs B wr w.heap.size db bv (.slice none 0 0) (.slice none 0 0) ⟨n, epoch, secs D j, [], [], false⟩ ∧
    wr.ownsRow w.heap.size 5 1 bv (64 * j) ((secs D j).map byt) ∧ Below w.heap.size w wr
theorem framesB_few (recs : List Bs) : recs.length ≤ (framesB recs).length := by
  induction recs with
  | nil => exact Nat.le_refl _
  | cons r recs ih =>
    show recs.length + 1 ≤ (frameB r ++ framesB recs).length
    rw [List.length_append, frame_len]; omega
def OpenInv2 (B : Nat) (w : World) (db n epoch : Nat) (recs : List Bs) (u : Value) (wr : World) : Prop :=
  ∃ (i : Nat) (s : ByteArray) (bv rv : Value), i ≤ recs.length ∧ u = .string s ∧ s.data.toList = framesB (recs.drop i) ∧ LogIs B wr w.heap.size db bv rv (.slice none 0 0) ⟨n, epoch, framesB recs, recs.take i, [], false⟩ ∧
    wr.ownsRow w.heap.size 9 1 rv i (txs (recs.take i)) ∧ Below w.heap.size w wr
set_option maxHeartbeats 2000000 in
set_option maxRecDepth 100000 in
theorem wal_Open_head {B : Nat} {w : World} {db : Nat} {D : Disk} (hd : DiskAt B w db D) (hdn : D.down = false) (n : Nat) (h2 : 2 ≤ n) (hn : n ≤ D.kept.length) (epoch : Nat) (recs : List Bs)
    (hz : D.look 0 = headB epoch (framesB recs).length) (hep : epoch ≤ 4611686018427387904) (hrl : ∀ r ∈ recs, r.length ≤ 65536) (hfit : (framesB recs).length ≤ 64 * (n - 1))
    (hsec : (secs D (((framesB recs).length + 63) / 64)).take (framesB recs).length = framesB recs) (hH : HalfAt w) (hB : 0 < B) :
    Calls Tryz.prog 41 #[.pointer (some ⟨db, 0, none⟩), .int .i64 0, .int .i64 (n : Int)] w (OpenPost B w db (freshLog n epoch recs)) := by
  have hs := disk_Size hd; have hdw := disk_Down hd
  rw [hdn] at hdw
  have hok : D.Ok := by obtain ⟨kb, pv, dn, h⟩ := hd; exact h.ok
  have h0 := ne0 hok.pos
  have hm := hok.most
  have hBs : B ≤ w.heap.size := by obtain ⟨kb, pv, dn, h⟩ := hd; exact Nat.le_trans h.hb (Nat.le_of_lt (lt_of_some h.head))
  obtain ⟨m, hmm⟩ : ∃ m, m = (framesB recs).length := ⟨_, rfl⟩
  rw [← hmm] at hz hfit hsec
  have hread : ∀ w1, Below w.heap.size w w1 → Calls Tryz.prog 75 #[.pointer (some ⟨db, 0, none⟩), .int .i64 0] w1 (ReadPost w1 (headB epoch m, 0)) := fun w1 hb => by
    have h1 := disk_Read (hd.keep (Below.sees hb)) ((0 : Nat) : Int)
    rw [read_look hdn 0 hok.pos, hz] at h1
    exact h1
  have hrep := fun w1 => repeat_zeros w1 64 (by decide)
  obtain ⟨z, hzz⟩ : ∃ z, z = zeros 64 := ⟨_, rfl⟩
  obtain ⟨hl, hhl⟩ : ∃ hl, hl = headB epoch m := ⟨_, rfl⟩
  have hne : (hl == z) = false := by rw [hhl, hzz]; exact beq_eq_false_iff_ne.2 (head_ne _ _)
  have hhead : ∀ w1, Below w.heap.size w w1 → Calls Tryz.prog 78 #[.int .i64 (epoch : Int), .int .i64 (m : Int)] w1 (NumPost w1 hl) := fun w1 hb => by
    rw [hhl]; exact wal_head w1 (hH.below hb (by omega)) (Below.lt hb (by omega)) epoch m (by omega) (by omega)
  have hlen : (⟨hl.toArray⟩ : ByteArray).size = 64 := by rw [hhl]; exact head_len _ _
  have hv1 : ∀ w1, Calls Tryz.prog 77 #[.string ((⟨hl.toArray⟩ : ByteArray).extract 4 12)] w1 fun e w' => e = .returned (.int .u64 (epoch : Int)) ∧ w' = w1 := fun w1 => by
    have h1 := wal_value w1 ((⟨hl.toArray⟩ : ByteArray).extract 4 12) (by rw [ByteArray.size_extract]; omega)
    have h3 : ((⟨hl.toArray⟩ : ByteArray).extract 4 12).data.toList = num epoch 8 := by rw [Lib.extract_data]; show (hl.drop 4).take 8 = _; rw [hhl, head_slice1]
    rw [h3, val_num 8 epoch (by omega)] at h1
    exact h1.mono fun e w' h => ⟨h.1, h.2.symm⟩
  have hv2 : ∀ w1, Calls Tryz.prog 77 #[.string ((⟨hl.toArray⟩ : ByteArray).extract 12 16)] w1 fun e w' => e = .returned (.int .u64 (m : Int)) ∧ w' = w1 := fun w1 => by
    have h1 := wal_value w1 ((⟨hl.toArray⟩ : ByteArray).extract 12 16) (by rw [ByteArray.size_extract]; omega)
    have h3 : ((⟨hl.toArray⟩ : ByteArray).extract 12 16).data.toList = num m 4 := by rw [Lib.extract_data]; show (hl.drop 12).take 4 = _; rw [hhl, head_slice2]
    rw [h3, val_num 4 m (by omega)] at h1
    exact h1.mono fun e w' h => ⟨h.1, h.2.symm⟩
  rw [← hhl] at hread
  rw [← hzz] at hrep
  have g1 : ¬ ((n : Int) < 2) := by omega
  have g2 : ¬ ((D.kept.length : Int) < 0) := by omega
  have g3 : ¬ ((D.kept.length : Int) < (n : Int)) := by omega
  have g4 : (4 : Int) ≤ ((⟨hl.toArray⟩ : ByteArray).size : Int) := by rw [hlen]; decide
  have g5 : (12 : Int) ≤ ((⟨hl.toArray⟩ : ByteArray).size : Int) := by rw [hlen]; decide
  have g6 : (16 : Int) ≤ ((⟨hl.toArray⟩ : ByteArray).size : Int) := by rw [hlen]; decide
  have g4' : (4 : Int) ≤ (hl.length : Int) := g4
  have g5' : (12 : Int) ≤ (hl.length : Int) := g5
  have g6' : (16 : Int) ≤ (hl.length : Int) := g6
  have g7 : (epoch : Int) ≤ 4611686018427387904 := by omega
  have g8 : (m : Int) ≤ 64 * ((n : Int) - 1) := by omega
  have g9 : (n : Int) ≤ 65536 := by omega
  have HD := Lib.hid hd; have HOK := Lib.hid hok; have HDN := Lib.hid hdn; have HM := Lib.hid hmm; have HS := Lib.hid hsec; have HH := Lib.hid hH; have HRL := Lib.hid hrl
  clear hd hdn hz hzz hok hmm hsec hH hhl hlen hrl
  have hb0 : Below w.heap.size w (w.alloc (.cells (logCells db n 0 (.slice none 0 0) (.slice none 0 0) (.slice none 0 0) false) 124)) := (Below.refl _ w).alloc (Nat.le_refl _) _
  have hmk : ∀ w1 : World, w1.heap[w.heap.size]? = some (.cells (logCells db n 0 (.slice none 0 0) (.slice none 0 0) (.slice none 0 0) false) 124 (0, 0)) → LogIs B w1 w.heap.size db (.slice none 0 0) (.slice none 0 0) (.slice none 0 0) ⟨n, 0, [], [], [], false⟩ := fun w1 h1 =>
    ⟨hBs, h1, ⟨none, 0, rfl, .inl rfl⟩, World.ownsRow_nil _ _ _ _, World.ownsRow_nil _ _ _ _, (fun g hg => by cases hg), ⟨h2, by show n ≤ 65536; omega, Nat.zero_le _, Nat.zero_le _, Nat.zero_le _, Nat.zero_le _, (fun r hr => by cases hr)⟩⟩
  go_enter Tryz.func41, Tryz.ntmps41
  go_wp2_with (first
    | (go_at_call 62; refine hs.mono ?_; rintro e w' ⟨rfl, rfl⟩)
    | (go_at_call 33; refine hdw.mono ?_; rintro e w' ⟨rfl, rfl⟩)
    | (go_at_call 75; go_must (refine (hread _ hb0).mono ?_; rintro e w1 ⟨rfl, hb1⟩; have HB1 := Lib.hid hb1; clear hb1))
    | (go_at_call 76; go_must (refine (hrep _).mono ?_; rintro e w2 ⟨rfl, hb2⟩; have HB2 := Lib.hid hb2; clear hb2)))
  go_quiet (first
    | (go_at_call 77; with_reducible exact Calls.quiet_of_same (hv1 _))
    | (go_at_call 77; with_reducible exact Calls.quiet_of_same (hv2 _)))
  have hw3 : ∀ nq, Below w.heap.size w (w2.drewN nq) := fun nq => hb0.trans ((HB1.out.mono hb0.size).trans ((HB2.out.mono (Nat.le_trans hb0.size HB1.out.size)).trans ⟨rfl, rfl, rfl, Nat.le_refl _, fun _ _ => rfl⟩))
  have hl3 : ∀ nq w3, Below (w2.drewN nq).heap.size (w2.drewN nq) w3 → LogIs B w3 w.heap.size db (.slice none 0 0) (.slice none 0 0) (.slice none 0 0) ⟨n, 0, [], [], [], false⟩ := fun nq w3 h3 => by
    refine hmk w3 ?_
    have hk1 : w.heap.size < (w.alloc (.cells (logCells db n 0 (.slice none 0 0) (.slice none 0 0) (.slice none 0 0) false) 124)).heap.size := by simp
    have hk2 := Nat.lt_of_lt_of_le hk1 HB1.out.size
    exact (h3.block _ (Nat.lt_of_lt_of_le hk2 HB2.out.size)).trans ((HB2.out.block _ hk2).trans ((HB1.out.block _ hk1).trans (heap_alloc_new w _)))
  go_wp2_with (first
    | (go_at_call 78; go_must (refine (hhead _ (hw3 _)).mono ?_; rintro e w3 ⟨rfl, hb3⟩; have hlg := hl3 _ w3 hb3; have h33 := hlg.c3; have f33 := hlg.fr 3; have HLG := Lib.hid hlg; have HB3 := Lib.hid ((hw3 _).trans (hb3.mono (hw3 _).size)); clear hb3 hlg)))
  have hlg := HLG.out.field 3 (.int .i64 (epoch : Int)) (.slice none 0 0) (.slice none 0 0) (.slice none 0 0) ⟨n, epoch, [], [], [], false⟩ rfl HLG.out.bytes HLG.out.recs HLG.out.wait HLG.out.apart ⟨h2, by show n ≤ 65536; omega, hep, Nat.zero_le _, Nat.zero_le _, Nat.zero_le _, (fun r hr => by cases hr)⟩
  have hb4 : Below w.heap.size w (w3.setCell ⟨w.heap.size, 3, none⟩ (.int .i64 (epoch : Int))) := HB3.out.setCell (p := ⟨w.heap.size, 3, none⟩) (Nat.le_refl _) _
  obtain ⟨w4, hw4⟩ : ∃ w4, w4 = w3.setCell ⟨w.heap.size, 3, none⟩ (.int .i64 (epoch : Int)) := ⟨_, rfl⟩
  rw [← hw4] at hlg hb4 ⊢
  have HLG4 := Lib.hid hlg; have HB4 := Lib.hid hb4
  clear hlg hb4 hw4 h33 f33 hl3 hmk hw3 hhead hv1 hv2 hrep hread hs hdw hne
  obtain ⟨i0, hin, hz0, hz1, hz2⟩ := info_parts Tryz.info_u8b
  have HIN := Lib.hid hin; have HZ0 := Lib.hid hz0; have HZ1 := Lib.hid hz1; have HZ2 := Lib.hid hz2
  clear hin hz0 hz1 hz2
  go_loopw [13] (fun v wr => OpenInv1 B w db n epoch m D v wr) (fun v _ => (m + 63) / 64 + 1 - (intOf v).toNat)
  case atStart => exact ⟨0, _, Nat.zero_le _, rfl, HLG4.out, World.ownsRow_nil _ _ _ _, HB4.out⟩
  case round =>
    obtain ⟨j, bv, hj, rfl, hlj, hoj, hbj⟩ := hrel
    have h4 := hlj.c4
    obtain ⟨ba, bc, rfl⟩ := owns_shape hoj
    have HLJ := Lib.hid hlj; have HOJ := Lib.hid hoj; have HBJ := Lib.hid hbj
    clear hlj hoj hbj
    by_cases hjk : 64 * j < m
    · have g20 : (64 : Int) * (j : Int) < (m : Int) := by omega
      have hrd := disk_Read (HD.out.keep (Below.sees HBJ.out)) ((1 + j : Nat) : Int)
      rw [read_look HDN.out (1 + j) (by omega)] at hrd
      have hll := look_len HOK.out (1 + j) (by omega)
      have HRD := Lib.hid hrd; have HLL := Lib.hid hll
      clear hrd hll
      have hq : 64 * j + (⟨(D.look (1 + j)).toArray⟩ : ByteArray).size ≤ 8388608 := by show 64 * j + (D.look (1 + j)).length ≤ _; rw [HLL.out]; omega
      have HQ1 : Hid (64 * j + (⟨(D.look (1 + j)).toArray⟩ : ByteArray).size ≤ maxLen) := Nat.le_trans hq (by decide)
      have HQ2 : Hid (64 * j + (⟨(D.look (1 + j)).toArray⟩ : ByteArray).size ≤ 140737488355328) := Nat.le_trans hq (by decide)
      have hok6 : ({ (⟨n, epoch, secs D j, [], [], false⟩ : Log) with bytes := secs D (j + 1) } : Log).Ok := by
        refine ⟨h2, by show n ≤ 65536; omega, hep, ?_, Nat.zero_le _, Nat.zero_le _, (fun r hr => by cases hr)⟩
        show (secs D (j + 1)).length ≤ 64 * (n - 1)
        rw [secs_len HOK.out (j + 1) (by omega)]; omega
      have HOK6 := Lib.hid hok6
      have HB0 : Hid (∀ w5, Below wr.heap.size wr w5 → w.heap.size ≤ w5.heap.size) := fun w5 h => Nat.le_trans HBJ.out.size h.size
      clear hq hok6
      go_wp2_with (first
        | (go_at_call 75; go_must (refine (HRD.out).mono ?_; rintro e w5 ⟨rfl, hb5⟩; have hl5 := HLJ.out.keep (Below.sees hb5); have h54 := hl5.c4; have HL5 := Lib.hid hl5; have HO5 := Lib.hid (owns_below HOJ.out hb5); have HB5 := Lib.hid hb5; clear hb5 hl5))
        | (at_builtin; go_must (refine Lib.wpList_append_own_string _ rfl (.tmp 115) (.tmp 116) 122 9 rfl w.heap.size 5 i0 Tryz.underlying122 Tryz.underlying9 HIN.out HZ0.out HZ1.out HZ2.out _ _ _ rfl HO5.out ⟨(D.look (1 + j)).toArray⟩ rfl HQ1.out HQ2.out (HB0.out _ HB5.out) ?_); intro v' w6 hown6 hgrow6 _; obtain ⟨va, vc, rfl⟩ := owns_shape hown6;
            rw [strCells_eq, ← List.map_append, show secs D j ++ (⟨(D.look (1 + j)).toArray⟩ : ByteArray).data.toList = secs D (j + 1) from (secs_succ D j).symm] at hown6;
            obtain ⟨h64, f64, hl6, ho6, hb6⟩ := HL5.out.grownBytes rfl rfl HO5.out hgrow6 hown6 hBs (Nat.le_refl _) HOK6.out; have HL6 := Lib.hid hl6; have HO6 := Lib.hid ho6; have HB6 := Lib.hid hb6; clear hown6 hgrow6 hl6 ho6 hb6))
      go_roundw
      case rel =>
        refine ⟨j + 1, _, by omega, congrArg (Value.int .i64) (by omega), HL6.out, ?_, HBJ.out.trans ((HB5.out.mono HBJ.out.size).trans HB6.out)⟩
        rw [show 64 * (j + 1) = 64 * j + (⟨(D.look (1 + j)).toArray⟩ : ByteArray).size from by show _ = 64 * j + (D.look (1 + j)).length; rw [HLL.out]; omega]
        exact HO6.out
      case measure => simp [intOf]; omega
    · have hjk2 : m ≤ 64 * j := by omega
      have g20 : ¬ ((64 : Int) * (j : Int) < (m : Int)) := by omega
      have hcap := owns_cap HOJ.out
      have g21 : (m : Int) ≤ (bc : Int) := by omega
      have hrow := RowIs.cut HOJ.out m m hjk2
      have hsm : (secs D j).take m = framesB recs := by
        have h1 := HS.out
        have h3 : j = (m + 63) / 64 := by omega
        rw [h3]; exact h1
      rw [← List.map_take, hsm] at hrow
      have hok7 : (⟨n, epoch, framesB recs, [], [], false⟩ : Log).Ok := ⟨h2, by show n ≤ 65536; omega, hep, by show (framesB recs).length ≤ _; rw [← HM.out]; exact hfit, Nat.zero_le _, Nat.zero_le _, (fun r hr => by cases hr)⟩
      have f4 := HLJ.out.fr 4
      have hl7 := HLJ.out.field 4 (.slice ba m m) (.slice ba m m) (.slice none 0 0) (.slice none 0 0) ⟨n, epoch, framesB recs, [], [], false⟩ rfl (rowIs_low hrow hBs) (World.ownsRow_nil _ _ _ _) (World.ownsRow_nil _ _ _ _) (fun g hg => by cases hg) hok7
      have hb7 := HBJ.out.setCell (p := ⟨w.heap.size, 4, none⟩) (Nat.le_refl _) (.slice ba m m)
      have h74 := hl7.c4
      have HL7 := Lib.hid hl7; have HB7 := Lib.hid hb7
      clear hl7 hb7 hrow hsm hok7 hcap
      obtain ⟨i1, hin1, hy0, hy1, hy2⟩ := info_parts Tryz.info_str
      have HIN1 := Lib.hid hin1; have HY0 := Lib.hid hy0; have HY1 := Lib.hid hy1; have HY2 := Lib.hid hy2
      have hml : (framesB recs).length = m := HM.out.symm
      have HML := Lib.hid hml
      have h32 : m ≤ 4194304 := by omega
      clear hin1 hy0 hy1 hy2 hml
      go_wp2_with (first
        | (with_reducible refine wpList_row_text rfl 122 9 (.tmp 133) rfl 5 Tryz.underlying122 Tryz.underlying5 Tryz.underlying9 B 5 ba m m rfl (framesB recs) HML.out HL7.out.bytes ?_))
      go_loopw [16] (fun u wr => OpenInv2 B w db n epoch recs u wr) (fun u _ => match u with | .string sj => sj.size | _ => 0)
      case atStart => exact ⟨0, _, _, _, Nat.zero_le _, rfl, rfl, HL7.out, World.ownsRow_nil _ _ _ _, HB7.out⟩
      case round =>
        obtain ⟨i, sj, bv, rv, hi, rfl, hsj, hlr, hor, hbr⟩ := hrel
        have h5 := hlr.c5
        obtain ⟨ra, rc, rfl⟩ := owns_shape hor
        have hHr : HalfAt wr := HH.out.below hbr (by omega)
        have hBr : 0 < wr.heap.size := Below.lt hbr (by omega)
        have hszj : sj.size = (framesB (recs.drop i)).length := by rw [← hsj]; rfl
        by_cases hir : i < recs.length
        · obtain ⟨r, hr⟩ : ∃ r, r = recs[i] := ⟨_, rfl⟩
          have hdr : recs.drop i = r :: recs.drop (i + 1) := by rw [hr]; exact List.drop_eq_getElem_cons hir
          have hfr : framesB (recs.drop i) = frameB r ++ framesB (recs.drop (i + 1)) := by rw [hdr]; rfl
          rw [hfr] at hsj hszj
          rw [List.length_append, frame_len] at hszj
          have hrr : r.length ≤ 65536 := HRL.out r (by rw [hr]; exact List.getElem_mem _)
          have hjm : sj.size ≤ 4194304 := by
            have e : framesB recs = framesB (recs.take i) ++ framesB (recs.drop i) := by rw [framesB, framesB, framesB, ← List.flatMap_append, List.take_append_drop]
            have h1 := congrArg List.length e
            rw [List.length_append] at h1
            have h3 := HML.out
            rw [hfr, List.length_append, frame_len] at h1
            omega
          have hun := wal_unframe wr hHr hBr sj r (framesB (recs.drop (i + 1))) hsj hrr (by omega)
          obtain ⟨k, hk⟩ : ∃ k, k = 8 + r.length := ⟨_, rfl⟩
          rw [← hk] at hun hszj
          have hk8 : 8 ≤ k := by omega
          have hsz0 : sj.size ≠ 0 := by omega
          have hne1 : sj.toList.isEmpty = false := by rw [Lib.toList_data]; cases h : sj.data.toList with
            | nil => exact absurd (show sj.size = 0 from by rw [show sj.size = sj.data.toList.length from rfl, h]; rfl) hsz0
            | cons _ _ => rfl
          have g30 : (k : Int) ≤ (sj.size : Int) := by omega
          have HUN := Lib.hid hun; have HSJ := Lib.hid hsj; have HLR := Lib.hid hlr; have HOR := Lib.hid hor; have HBR := Lib.hid hbr; have HDR := Lib.hid hdr; have HK := Lib.hid hk; have HSZ := Lib.hid hszj; have HR := Lib.hid hr
          clear hun hsj hlr hor hbr hdr hfr hk hszj hHr hBr hr
          have hnews : ∀ (w5 : World) (t : Nat) (u : Value), [tx r][t]? = some u → (w5.alloc (.cells #[tx r] 9)).cell? ((⟨w5.heap.size, 0, none⟩ : Addr).add t) = some u := by
            intro w5 t u hu
            match t, hu with
            | 0, hu =>
              simp only [List.getElem?_cons_zero, Option.some.injEq] at hu
              subst hu
              rw [Addr.add_here]; exact cellAt (heap_alloc_new w5 _) 0 _ rfl
          have HNEWS := Lib.hid hnews
          have HONE : Hid (∀ u ∈ [tx r], u.oneCell' = true) := by intro u hu; rw [List.mem_singleton.1 hu]; rfl
          have hi8 : i < 4194304 := by have h1 := framesB_few recs; have h3 := HML.out; omega
          have HM1 : Hid (i + 1 ≤ maxLen) := by show _ ≤ _; unfold maxLen; omega
          have HM2 : Hid ((i + 1) * 16 ≤ 140737488355328) := by show _ ≤ _; omega
          have HM3 : Hid (∀ w5, Below wr.heap.size wr w5 → ∀ o, w.heap.size ≤ (w5.alloc o).heap.size) := fun w5 h o => by have h1 := HBR.out.size; have h2 := h.size; simp; omega
          have hok8 : ({ (⟨n, epoch, framesB recs, recs.take i, [], false⟩ : Log) with recs := recs.take (i + 1) } : Log).Ok := by
            have ho := HLR.out.ok
            exact ⟨ho.n2, ho.nmax, ho.epoch, ho.fits, by show (recs.take (i + 1)).length ≤ _; rw [List.length_take]; omega, ho.waits, ho.long⟩
          have HOK8 := Lib.hid hok8
          have htk : txs (recs.take i) ++ [tx r] = txs (recs.take (i + 1)) := by rw [List.take_succ_eq_append_getElem hir, ← HR.out]; simp [txs]
          have HTK := Lib.hid htk
          have htl : i + 1 = (recs.take (i + 1)).length := by rw [List.length_take]; omega
          have HTL := Lib.hid htl
          clear hnews hok8 htk htl
          go_wp2_with (first
            | (go_at_call 79; go_must (refine (HUN.out).mono ?_; rintro e w5 ⟨rfl, hb5⟩; have hl5 := HLR.out.keep (Below.sees hb5); have h55 := hl5.c5; have HL5 := Lib.hid hl5; have HO5 := Lib.hid (owns_below HOR.out hb5); have HB5 := Lib.hid hb5; clear hb5 hl5))
            | (at_builtin; go_must (refine wpList_append_own _ rfl (.tmp 149) (.tmp 151) 91 rfl w.heap.size 9 i1 _ 1 16 Tryz.underlying91 HIN1.out HY0.out HY1.out HY2.out rfl (by decide) _ _ _ rfl (HO5.out.alloc _) ⟨w5.heap.size, 0, none⟩ 1 1 [tx r] rfl rfl (HNEWS.out w5) HONE.out HM1.out HM2.out (HM3.out _ HB5.out _) ?_); intro v' w6 hown6 hgrow6 _; obtain ⟨va, vc, rfl⟩ := owns_shape hown6; rw [HTK.out] at hown6;
                obtain ⟨h65, f65, hl6, ho6, hb6⟩ := (HL5.out.keep (Below.sees ((Below.refl _ w5).alloc (Nat.le_refl _) _))).grownRecs rfl (by show World.ownsRow _ _ _ 1 _ (recs.take i).length _; rw [List.length_take, Nat.min_eq_left hi]; exact HO5.out.alloc _) hgrow6 hown6 HTL.out hBs (Nat.le_refl _) HOK8.out; have HL6 := Lib.hid hl6; have HO6 := Lib.hid ho6; have HB6 := Lib.hid hb6; clear hown6 hgrow6 hl6 ho6 hb6))
          go_roundw
          case rel =>
            refine ⟨i + 1, _, _, _, hir, rfl, ?_, HL6.out, HO6.out, HBR.out.trans ((HB5.out.mono HBR.out.size).trans (((Below.refl _ w5).alloc (Nat.le_trans HBR.out.size HB5.out.size) _).trans HB6.out))⟩
            rw [Lib.extract_data, HSJ.out, List.drop_left' (by rw [frame_len]; exact HK.out.symm), List.take_of_length_le (by have := HSZ.out; omega)]
          case measure =>
            show (sj.extract k sj.size).size < sj.size
            rw [ByteArray.size_extract]; omega
        · have hil : i = recs.length := by omega
          have hne1 : sj.toList.isEmpty = true := by rw [Lib.toList_data, hsj, hil, List.drop_length]; rfl
          rw [hil, List.take_length] at hlr
          have HLR := Lib.hid hlr; have HBR := Lib.hid hbr
          clear hlr hor hbr hHr hBr hszj hsj
          go_wp2
          go_ret2
          exact ⟨_, rfl, ⟨_, _, HLR.out, rfl, rfl, framesB_few recs⟩, Nat.le_refl _, HBR.out⟩
end Go.Proofs.YthbbammibdhohaaGreatDoor

namespace Go.Proofs.YthbbammibdhohaaGreatDoor
open Go.RowKit Aq Go.Rgn

theorem trimLeftB_zeros (n : Nat) : Lib.trimLeftB (zeros n) 0 = [] := by
  unfold Lib.trimLeftB
  induction n with
  | zero => rfl
  | succ n ih => simp [zeros, List.replicate_succ]
theorem trimB_zeros (n : Nat) : Lib.trimB (zeros n) 0 = [] := by
  have h : Lib.trimRightB (zeros n) 0 = [] ∨ ∃ k, Lib.trimRightB (zeros n) 0 = zeros k := by
    unfold Lib.trimRightB
    right
    refine ⟨0, ?_⟩
    have e : (zeros n).reverse = zeros n := by simp [zeros]
    rw [e]
    have := trimLeftB_zeros n
    unfold Lib.trimLeftB at this
    rw [this]; rfl
  unfold Lib.trimB
  rcases h with h | ⟨k, h⟩
  · rw [h]; rfl
  · rw [h]; exact trimLeftB_zeros k
theorem all_of_drop (p : UInt8 → Bool) : ∀ l : Bs, l.dropWhile p = [] → ∀ x ∈ l, p x = true := by
  intro l
  induction l with
  | nil => intro _ x hx; cases hx
  | cons a l ih =>
    intro h x hx
    rw [List.dropWhile_cons] at h
    split at h
    · rename_i ha
      rcases List.mem_cons.1 hx with rfl | hx
      · exact ha
      · exact ih h x hx
    · cases h
theorem trimB_some (l : Bs) (h : ∃ b ∈ l, b ≠ 0) : Lib.trimB l 0 ≠ [] := by
  obtain ⟨b, hb, hne⟩ := h
  intro he
  unfold Lib.trimB Lib.trimLeftB at he
  have h1 : ∀ x ∈ Lib.trimRightB l 0, x = 0 := by
    intro x hx
    have := all_of_drop _ _ he x hx
    simpa using this
  have h2 : b ∈ Lib.trimRightB l 0 := by
    unfold Lib.trimRightB at h1 ⊢
    rw [List.mem_reverse]
    have hr : b ∈ l.reverse := by simpa using hb
    have hsplit := List.takeWhile_append_dropWhile (p := (· == (0 : UInt8))) (l := l.reverse)
    rw [← hsplit] at hr
    rcases List.mem_append.1 hr with hr | hr
    · exact absurd (by simpa using List.all_eq_true.1 (List.all_takeWhile (p := (· == (0 : UInt8))) (l := l.reverse)) b hr) hne
    · exact hr
  exact hne (h1 b h2)
def BlankPost (w : World) (x : Bool) (e : Ending) (w' : World) : Prop := e = .returned (.bool x) ∧ Below w.heap.size w w'
def BlankT (w : World) (l : Bs) (e : Ending) (w' : World) : Prop := e = .returned (tx l) ∧ Below w.heap.size w w'
set_option maxHeartbeats 1000000 in
theorem page_Blank (w : World) (s : ByteArray) (hs : s.size = 512) (x : Bool) (hx : (x = true ∧ s.data.toList = zeros 512) ∨ (x = false ∧ ∃ b ∈ s.data.toList, b ≠ 0)) :
    Calls Tryz.prog 47 #[.string s] w (BlankPost w x) := by
  have ht := Tryz.strings_Trim_one s 0 (by decide) w (by omega)
  have hs2 : ((s.size : Int) == 512) = true := by rw [hs]; rfl
  obtain ⟨l, hl⟩ : ∃ l, l = Lib.trimB s.data.toList 0 := ⟨_, rfl⟩
  rw [← hl] at ht
  have hx2 : (x = true ∧ l = []) ∨ (x = false ∧ l.isEmpty = false) := by
    rcases hx with ⟨h1, h2⟩ | ⟨h1, h2⟩
    · exact .inl ⟨h1, by rw [hl, h2]; exact trimB_zeros 512⟩
    · refine .inr ⟨h1, ?_⟩
      have := trimB_some _ h2
      rw [← hl] at this
      cases l with
      | nil => exact absurd rfl this
      | cons _ _ => rfl
  have HX2 := Lib.hid hx2
  clear hx hl hx2
  have ht2 : Calls Tryz.prog 85 #[.string s, .string ⟨#[0]⟩] w (BlankT w l) := ht.mono fun e w' h => ⟨h.1, by
    rcases h.2 with h | h
    · rw [h]; exact Below.refl _ _
    · rw [h]; exact (Below.refl _ w).drew⟩
  rcases HX2.out with ⟨rfl, rfl⟩ | ⟨rfl, hlne⟩
  · go_enter Tryz.func47, Tryz.ntmps47
    go_wp2_with (first
      | (go_at_call 85; go_must (refine ht2.mono ?_; rintro e w1 ⟨rfl, hb1⟩; have HB1 := Lib.hid hb1; clear hb1)))
    go_ret
    exact ⟨rfl, HB1.out⟩
  · go_enter Tryz.func47, Tryz.ntmps47
    go_wp2_with (first
      | (go_at_call 85; go_must (refine ht2.mono ?_; rintro e w1 ⟨rfl, hb1⟩; have HB1 := Lib.hid hb1; clear hb1)))
    go_ret
    exact ⟨rfl, HB1.out⟩
end Go.Proofs.YthbbammibdhohaaGreatDoor

namespace Go.Proofs.YthbbammibdhohaaGreatDoor
open Go.RowKit Aq Go.Rgn

theorem wp_text_bytes {P : Program} {o : Oper} {a : Act} {w : World} {K : Act → World → Prop} {Q : Exit → Act → World → Prop} (src dst : TypeId) (x : Operand) (ho : o.op = .convert src dst x)
    (e : TypeId) (hs : P.underlying src = some .string) (hd : P.underlying dst = some (.slice e)) (he : P.underlying e = some (.int .u8)) (s : ByteArray) (hx : a.eval x = .string s)
    (h : ∀ c w', (∀ t b, s.data.toList[t]? = some b → w'.cell? ⟨w.heap.size, 0 + t, none⟩ = some (byt b)) → Below w.heap.size w w' → w.heap.size < w'.heap.size → K (a.put o.dst (.slice (some ⟨w.heap.size, 0, none⟩) s.size c)) w') : o.wp P a w K Q := by
  have hrun := run_bytes_of_string (P := P) w src dst e s hs hd he
  unfold Oper.wp
  simp [execOp, ho, hx, hrun, Result.andThen]
  refine h _ _ (fun t b hb => ?_) (((Below.refl _ w).drew).alloc (Nat.le_refl _) _) (by simp)
  rw [Nat.zero_add]
  exact cellAt (fr := _) (heap_alloc_new w.drew _) t _ (bytesRow_get s _ t b hb)
theorem seal_get (id kind : Nat) (body : Bs) : (sealPage id kind body)[4]? = some (UInt8.ofNat kind) ∧ (sealPage id kind body)[5]? = some 0 ∧ (sealPage id kind body)[6]? = some (UInt8.ofNat body.length) ∧ (sealPage id kind body)[7]? = some (UInt8.ofNat (body.length / 256)) := by
  have h : sealPage id kind body = num id 4 ++ ([UInt8.ofNat kind, 0, UInt8.ofNat body.length, UInt8.ofNat (body.length / 256)] ++ (body ++ (zeros (500 - body.length) ++ num (crc (pageBody id kind body)).toNat 4))) := by simp [sealPage, pageBody]
  have hl : (num id 4).length = 4 := num_len _ _
  rw [h]
  refine ⟨?_, ?_, ?_, ?_⟩ <;> rw [List.getElem?_append_right (by omega), hl] <;> rfl
def IdT (w : World) (id : Nat) (e : Ending) (w' : World) : Prop := e = .returned (.int .u32 (id : Int)) ∧ Below w.heap.size w w'
def POpenPost (w : World) (kind : Nat) (body : Bs) (e : Ending) (w' : World) : Prop := e = .returned (.tuple #[.int .i64 (kind : Int), tx body, .int .i64 0]) ∧ Below w.heap.size w w'
set_option maxHeartbeats 2000000 in
set_option maxRecDepth 100000 in
theorem page_Open (w : World) (hH : HalfAt w) (hB : 0 < w.heap.size) (id kind : Nat) (body : Bs) (s : ByteArray) (hs : s.data.toList = sealPage id kind body) (hid : id < 2147483648) (hk1 : 1 ≤ kind) (hk2 : kind ≤ 255) (hb : body.length ≤ 500) :
    Calls Tryz.prog 48 #[.int .i64 (id : Int), .string s] w (POpenPost w kind body) := by
  have hsz : s.size = 512 := by rw [show s.size = s.data.toList.length from rfl, hs]; exact sealPage_len _ _ _ hb
  obtain ⟨q4, q5, q6, q7⟩ := seal_get id kind body
  rw [← hs] at q4 q5 q6 q7
  have hpb : (pageBody id kind body).length = 508 := pageBody_len _ _ _ hb
  have e1 : (s.extract 0 508).data.toList = pageBody id kind body := by rw [Lib.extract_data, hs, List.drop_zero, sealPage]; exact List.take_left' hpb
  have e2 : (s.extract 508 s.size).data.toList.take 4 = num (crc (pageBody id kind body)).toNat 4 := by
    rw [Lib.extract_data, hs, sealPage, List.drop_left' hpb]
    rw [List.take_take, List.take_of_length_le (by rw [num_len]; omega)]
  have hcr := crc_range (pageBody id kind body)
  obtain ⟨m, hm⟩ : ∃ m : Nat, crc (pageBody id kind body) = (m : Int) := ⟨_, (Int.toNat_of_nonneg hcr.1).symm⟩
  have hm4 : m < 4294967296 := by omega
  have hsum : ∀ (w1 : World) (g c : Nat), HalfAt w1 → (∀ t b, (s.extract 0 508).data.toList[t]? = some b → w1.cell? ⟨g, 0 + t, none⟩ = some (byt b)) →
      Calls Tryz.prog 86 #[.slice (some ⟨g, 0, none⟩) (s.extract 0 508).size c] w1 fun e w' => e = .returned (.int .u32 (m : Int)) ∧ w1 = w' := fun w1 g c h1 h2 => by
    have h3 := crc_Sum w1 h1 (some ⟨g, 0, none⟩) (s.extract 0 508).size c (s.extract 0 508).data.toList rfl (by rw [ByteArray.size_extract]; omega) (fun t b hb => ⟨_, _, rfl, h2 t b hb⟩)
    rw [e1, hm] at h3
    exact h3
  have hget : ∀ w1, Calls Tryz.prog 87 #[.string (s.extract 508 s.size)] w1 fun e w' => e = .returned (.int .u32 (m : Int)) ∧ ∃ n, w' = w1.drewN n := fun w1 => by
    have h3 := page_get w1 (s.extract 508 s.size) (by rw [ByteArray.size_extract]; omega)
    rw [e2, hm, val_num 4 _ (by omega)] at h3
    exact h3
  have g1 : (s.size : Int) = 512 := by omega
  have HSZ := Lib.hid hsz; have HS := Lib.hid hs; have HM := Lib.hid hm
  have hsb : ((s.size : Int) != 512) = false := by rw [hsz]; rfl
  have g2 : (508 : Int) ≤ (s.size : Int) := by omega
  clear hsz hs hm hcr e1 e2 hpb g1
  go_enter Tryz.func48, Tryz.ntmps48
  go_upto_region 3 with fail
  go_cut [12] from 13 to 20 (fun c wx => c = .bool false ∧ Below w.heap.size w wx)
  case first =>
    refine wp_region_C (fun _ => True) (fun i => i == 2 || i == 3 || i == 6) (by kernel_rfl) ?_
    change anyC _ _ _ _ _ 9 _ _ w.drew
    have hT : True := trivial
    refine anyC_pure 0 13 (by decide) (by kernel_rfl) rfl rfl (by kernel_rfl) (by kernel_rfl) (fun _ _ _ _ h => h) (yi_move _ _ rfl rfl rfl) ?_
    simp only [Act.put, act_eval_tmp, act_eval_const, List.setIfInBounds_toArray, List.set_cons_succ, List.set_cons_zero, List.getD_cons_succ, List.getD_cons_zero]
    refine anyC_pure 1 14 (by decide) (by kernel_rfl) rfl rfl (by kernel_rfl) (by kernel_rfl) (fun _ _ _ _ h => h) (yi (v := .string (s.extract 0 508)) rfl (fun w _ => by go_simp)) ?_
    simp only [Act.put, act_eval_tmp, act_eval_const, List.setIfInBounds_toArray, List.set_cons_succ, List.set_cons_zero, List.getD_cons_succ, List.getD_cons_zero]
    refine anyC_pure 4 17 (by decide) (by kernel_rfl) rfl rfl (by kernel_rfl) (by kernel_rfl) (fun _ _ _ _ h => h) (yi_move _ _ rfl rfl rfl) ?_
    simp only [Act.put, act_eval_tmp, act_eval_const, List.setIfInBounds_toArray, List.set_cons_succ, List.set_cons_zero, List.getD_cons_succ, List.getD_cons_zero]
    refine anyC_pure 5 18 (by decide) (by kernel_rfl) rfl rfl (by kernel_rfl) (by kernel_rfl) (fun _ _ _ _ h => h) (yi (v := .string (s.extract 508 s.size)) rfl (fun w _ => by go_simp)) ?_
    simp only [Act.put, act_eval_tmp, act_eval_const, List.setIfInBounds_toArray, List.set_cons_succ, List.set_cons_zero, List.getD_cons_succ, List.getD_cons_zero]
    refine anyC_one 2 (some 15) _ 122 (by kernel_rfl) rfl rfl rfl rfl rfl ?_
    refine wp_text_bytes 9 122 _ rfl 5 Tryz.underlying9 Tryz.underlying122 Tryz.underlying5 (s.extract 0 508) rfl ?_
    intro cc wA hcA hbA hgA
    refine ⟨fun _ => trivial, ?_⟩
    simp only [Act.put, act_eval_tmp, act_eval_const, List.setIfInBounds_toArray, List.set_cons_succ, List.set_cons_zero, List.getD_cons_succ, List.getD_cons_zero]
    refine anyC_one 3 (some 16) _ 134 (by kernel_rfl) rfl rfl rfl rfl rfl ?_
    refine wp_callFn 86 #[.slice (some ⟨w.heap.size, 0, none⟩) (s.extract 0 508).size cc] _ (by kernel_rfl) (hsum _ _ cc (HalfAt.below (w := w) hH (((Below.refl _ w).drew).trans hbA) hB) hcA) ?_
    rintro _ wS ⟨rfl, rfl⟩
    refine ⟨_, rfl, fun _ => trivial, ?_⟩
    simp only [Act.put, act_eval_tmp, act_eval_const, List.setIfInBounds_toArray, List.set_cons_succ, List.set_cons_zero, List.getD_cons_succ, List.getD_cons_zero]
    refine anyC_one 6 (some 19) _ 134 (by kernel_rfl) rfl rfl rfl rfl rfl ?_
    refine wp_callFn 87 #[.string (s.extract 508 s.size)] _ (by kernel_rfl) (hget _) ?_
    rintro _ wG ⟨rfl, nG, rfl⟩
    refine ⟨_, rfl, fun _ => trivial, ?_⟩
    simp only [Act.put, act_eval_tmp, act_eval_const, List.setIfInBounds_toArray, List.set_cons_succ, List.set_cons_zero, List.getD_cons_succ, List.getD_cons_zero]
    refine anyC_pure 7 20 (by decide) (by kernel_rfl) rfl rfl (by kernel_rfl) (by kernel_rfl) (fun _ _ _ _ h => h) (yi (v := .bool false) rfl (fun w _ => by go_simp)) ?_
    simp only [Act.put, act_eval_tmp, act_eval_const, List.setIfInBounds_toArray, List.set_cons_succ, List.set_cons_zero, List.getD_cons_succ, List.getD_cons_zero]
    refine anyC_pure 8 12 (by decide) (by kernel_rfl) rfl rfl (by kernel_rfl) (by kernel_rfl) (fun _ _ _ _ h => h) (yi_assign _ _ rfl rfl rfl) ?_
    simp only [Act.put, act_eval_tmp, act_eval_const, List.setIfInBounds_toArray, List.set_cons_succ, List.set_cons_zero, List.getD_cons_succ, List.getD_cons_zero]
    refine anyC_done (by kernel_rfl) ?_
    go_wp2
    go_meet
    exact ⟨rfl, (((Below.refl _ w).drew).trans hbA).trans ⟨rfl, rfl, rfl, Nat.le_refl _, fun _ _ => rfl⟩⟩
  case rest =>
    obtain ⟨rfl, hbc⟩ := hcut
    have HBC := Lib.hid hbc
    clear hbc hsum hget
    have hs4 : 4 < s.size := by rw [HSZ.out]; decide
    have b6 : s[6]'(by rw [HSZ.out]; decide) = UInt8.ofNat body.length := by
      have := q6; rw [List.getElem?_eq_getElem (by show 6 < s.size; rw [HSZ.out]; decide)] at this; injection this
    have b7 : s[7]'(by rw [HSZ.out]; decide) = UInt8.ofNat (body.length / 256) := by
      have := q7; rw [List.getElem?_eq_getElem (by show 7 < s.size; rw [HSZ.out]; decide)] at this; injection this
    have g6 : (6 : Int) < (s.size : Int) := by rw [HSZ.out]; decide
    have g7 : (7 : Int) < (s.size : Int) := by rw [HSZ.out]; decide
    have k6 : 6 < s.size := by rw [HSZ.out]; decide
    have k7 : 7 < s.size := by rw [HSZ.out]; decide
    go_upto_region 5 with fail
    go_cut [7] from 21 to 28 (fun c wx => c = .int .i64 (body.length : Int) ∧ Below wc.heap.size wc wx)
    case first =>
      go_quiet (fail)
      go_wp2
      go_meet
      refine ⟨congrArg (Value.int .i64) ?_, ⟨rfl, rfl, rfl, Nat.le_refl _, fun _ _ => rfl⟩⟩
      rw [bits_join_low .i64 62 (by decide) (fun n h0 h1 => wraps_i64 n (by omega) h1) 8 _ _ (by omega) (by omega) (by omega) (by omega) (by omega) (by omega)]
      omega
    case rest =>
      obtain ⟨rfl, hbc2⟩ := hcut
      have HB2 := Lib.hid (HBC.out.trans (hbc2.mono HBC.out.size))
      clear hbc2
      have hps : ∀ wd, Calls Tryz.prog 88 #[.int .i64 (id : Int)] wd fun e w' => e = .returned (.bool true) ∧ wd = w' := fun wd => by
        have h3 := page_is wd (id : Int)
        rw [show decide (0 ≤ (id : Int) ∧ (id : Int) < 2147483648) = true from by simp; omega] at h3
        exact h3
      have hgt : ∀ wd, Calls Tryz.prog 87 #[.string s] wd (IdT wd id) := fun wd => by
        have h3 := page_get wd s (by rw [HSZ.out]; decide)
        have h4 : s.data.toList.take 4 = num id 4 := by
          rw [HS.out, sealPage, pageBody]
          have : (num id 4).length = 4 := num_len _ _
          simp only [List.append_assoc]
          rw [List.take_left' this]
        rw [h4, val_num 4 _ (by omega)] at h3
        exact h3.mono fun e w' h => ⟨h.1, by obtain ⟨n, hn⟩ := h.2; rw [hn]; exact ⟨rfl, rfl, rfl, Nat.le_refl _, fun _ _ => rfl⟩⟩
      have htr : ∀ wd, Calls Tryz.prog 85 #[.string (s.extract (8 + body.length) 508), .string ⟨#[0]⟩] wd (BlankT wd []) := fun wd => by
        have h3 := Tryz.strings_Trim_one (s.extract (8 + body.length) 508) 0 (by decide) wd (by rw [ByteArray.size_extract]; have := HSZ.out; omega)
        have h4 : (s.extract (8 + body.length) 508).data.toList = zeros (500 - body.length) := by
          rw [Lib.extract_data, HS.out, sealPage, pageBody]
          have h5 : (num id 4).length = 4 := num_len _ _
          rw [List.append_assoc, List.append_assoc, ← List.append_assoc _ body]
          rw [List.drop_left' (by simp only [List.length_append, h5, List.length_cons, List.length_nil])]
          rw [List.take_left' (by simp [zeros]; omega)]
        rw [h4, trimB_zeros] at h3
        exact h3.mono fun e w' h => ⟨h.1, by
          rcases h.2 with h | h
          · rw [h]; exact Below.refl _ _
          · rw [h]; exact (Below.refl _ _).drew⟩
      have b4 : s[4]'(by rw [HSZ.out]; decide) = UInt8.ofNat kind := by
        have := q4; rw [List.getElem?_eq_getElem (by show 4 < s.size; rw [HSZ.out]; decide)] at this; injection this
      have b5 : s[5]'(by rw [HSZ.out]; decide) = 0 := by
        have := q5; rw [List.getElem?_eq_getElem (by show 5 < s.size; rw [HSZ.out]; decide)] at this; injection this
      have g4 : (4 : Int) < (s.size : Int) := by rw [HSZ.out]; decide
      have g5 : (5 : Int) < (s.size : Int) := by rw [HSZ.out]; decide
      have k5 : 5 < s.size := by rw [HSZ.out]; decide
      have g8 : (body.length : Int) ≤ 500 := by omega
      have g9 : (8 : Int) + (body.length : Int) ≤ 508 := by omega
      have hkk : ((kind : Int) % 256 == 0) = false := beq_eq_false_iff_ne.2 (by omega)
      go_wp2_with (first
        | (go_at_call 88; go_must (refine (hps _).mono ?_; rintro e w' ⟨rfl, rfl⟩))
        | (go_at_call 87; go_must (refine (hgt _).mono ?_; rintro e w1 ⟨rfl, hb1⟩; have HB3 := Lib.hid hb1; clear hb1))
        | (go_at_call 85; go_must (refine (htr _).mono ?_; rintro e w2 ⟨rfl, hb1⟩; have HB4 := Lib.hid hb1; clear hb1)))
      have hbd : (s.extract 8 (8 + body.length)).data.toList = body := by
        rw [Lib.extract_data, HS.out, sealPage, pageBody]
        have h5 : (num id 4).length = 4 := num_len _ _
        rw [List.append_assoc, List.append_assoc, List.drop_left' (by simp only [List.length_append, h5, List.length_cons, List.length_nil]), List.take_left' (by omega)]
      have HBD := Lib.hid hbd
      have g10 : (8 : Int) + (body.length : Int) ≤ (s.size : Int) := by rw [HSZ.out]; omega
      have g11 : (8 : Int) ≤ 8 + (body.length : Int) := by omega
      clear hbd
      go_quiet (fail)
      go_wp2
      go_ret3
      have hk3 : ((kind : Int) % 256) = (kind : Int) := by omega
      have hbv : Value.string (s.extract 8 (8 + body.length)) = tx body := by rw [str_tx, HBD.out]
      have h23 := HB2.out.trans (HB3.out.mono HB2.out.size)
      refine ⟨?_, (h23.trans (HB4.out.mono h23.size)).trans ⟨rfl, rfl, rfl, Nat.le_refl _, fun _ _ => rfl⟩⟩
      show Ending.returned (.tuple #[.int .i64 ((kind : Int) % 256), .string (s.extract 8 (8 + body.length)), .int .i64 0]) = _
      rw [hk3, hbv]
end Go.Proofs.YthbbammibdhohaaGreatDoor
