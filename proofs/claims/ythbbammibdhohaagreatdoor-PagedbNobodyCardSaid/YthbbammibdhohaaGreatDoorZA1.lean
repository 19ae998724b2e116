/- A database at rest and a transaction that is open: what they are, and their calls. Conditions as stated. A database is opened: on a new disk, on its own, behind a loss of power. Conditions as stated. The chapter's example holds. Conditions as stated. -/
import Derived.Test.YthbbammibdhohaaGreatDoorZT3
import Derived.Test.YthbbammibdhohaaGreatDoorZK2
set_option linter.unusedSimpArgs false
set_option linter.unusedVariables false
namespace Go.Proofs.YthbbammibdhohaaGreatDoor
open Go.RowKit Aq Go.Rgn Go.Maps

/-- the pages' bytes of a database -/
structure Holds (W : Nat → Bs) (m : Meta) (V : Nat → Lf) : Prop where
  zero : (W 0 = zeros 512 ∧ m = meta0) ∨ W 0 = sealPage 0 1 (metaB m)
  page : ∀ id, 1 ≤ id → id < m.high → W id = sealLf id (V id)
structure Core (D : Disk) (L : Log) (log cnt k : Nat) (m : Meta) (V : Nat → Lf) : Prop where
  ex : ∃ ep pss W, Rest D log ep cnt pss W ∧ Holds W m V ∧ L = freshLog log ep (pss.map recB) ∧ ep ≤ k
  pend : D.pend.length ≤ 70000 * k
  kb : k ≤ 10000
  cntE : cnt = (D.kept.length - log) / 8
/-- a database at rest -/
def DbSt (B : Nat) (w : World) (x db p : Nat) (D : Disk) (log cnt k : Nat) (m : Meta) (V : Nat → Lf) (fs : List Nat) : Prop :=
  ∃ L, DbNow B w x db p log m L D ∧ Core D L log cnt k m V ∧ Good cnt m V fs
structure TxRel (m tm : Meta) (mk : Bool) (l : List (Nat × Lf)) : Prop where
  rises : Rises l
  ids : ∀ y ∈ l, 1 ≤ y.1 ∧ y.1 < tm.high
  same : mk = false → tm = m
  grow : m.high ≤ tm.high ∧ ∀ id, m.high ≤ id → id < tm.high → (getL id l).isSome
/-- a transaction that is open -/
structure TxSt (B C : Nat) (w : World) (t mb x db p : Nat) (D : Disk) (log cnt k : Nat) (m : Meta) (V : Nat → Lf) (fs0 : List Nat) (tm : Meta) (mk sp : Bool) (l : List (Nat × Lf)) (fs : List Nat) : Prop where
  now : TxNow B C w t mb x db p log m tm mk sp l D
  lg : ∃ L, LogNow B w p db L ∧ Core D L log cnt k m V
  half : HalfAt w
  good0 : Good cnt m V fs0
  rel : TxRel m tm mk l
  good : Good cnt tm (seeL V l) fs
theorem Core.room {D : Disk} {L : Log} {log cnt k : Nat} {m : Meta} {V : Nat → Lf} (h : Core D L log cnt k m V) : 2 ≤ log ∧ log + cnt * 8 ≤ D.kept.length ∧ 4 ≤ cnt ∧ D.down = false ∧ D.Ok := by
  obtain ⟨ep, pss, W, h1, _⟩ := h.ex
  exact ⟨h1.log2, h1.room, h1.cnt4, h1.dn, h1.ok⟩
theorem TxRel.len {m tm : Meta} {mk : Bool} {l : List (Nat × Lf)} (h : TxRel m tm mk l) : l.length ≤ tm.high := by
  have h1 := nodup_len tm.high (l.map (·.1)) ?_ fun i hi => by
    obtain ⟨y, hy, rfl⟩ := List.mem_map.1 hi
    have := h.ids y hy; omega
  · rw [List.length_map] at h1; exact h1
  · unfold List.Nodup
    rw [List.pairwise_map]
    exact h.rises.imp fun {a b} hab => by omega
section
variable {B C : Nat} {w : World} {t mb x db p : Nat} {D : Disk} {log cnt k : Nat} {m : Meta} {V : Nat → Lf} {fs0 : List Nat} {tm : Meta} {mk sp : Bool} {l : List (Nat × Lf)} {fs : List Nat}
theorem TxSt.hBw (h : TxSt B C w t mb x db p D log cnt k m V fs0 tm mk sp l fs) : B ≤ w.heap.size := Nat.le_trans h.now.dbi.hx (Nat.le_of_lt (lt_of_some h.now.dbi.head))
theorem TxSt.hCw (h : TxSt B C w t mb x db p D log cnt k m V fs0 tm mk sp l fs) : C ≤ w.heap.size := Nat.le_trans h.now.tx.ht (Nat.le_of_lt (lt_of_some h.now.tx.head))
theorem TxSt.hiT (h : TxSt B C w t mb x db p D log cnt k m V fs0 tm mk sp l fs) : tm.high < 2147483648 ∧ l.length ≤ 65536 := by
  have h1 := h.good.mok.high; have h2 := h.rel.len; have h3 := h.good.hc; have h4 := h.good.cmax
  exact ⟨h1, by omega⟩
theorem TxSt.on (h : TxSt B C w t mb x db p D log cnt k m V fs0 tm mk sp l fs) : TxOn D log V tm l := by
  obtain ⟨L, _, hc⟩ := h.lg
  obtain ⟨ep, pss, W, h1, h2, _⟩ := hc.ex
  have hr := h1.room
  have hcc := h.good.hc
  refine ⟨by omega, fun id h3 h4 h5 => ?_, fun id q hq => ?_⟩
  · have h6 : id < m.high := by
      rcases Nat.lt_or_ge id m.high with h6 | h6
      · exact h6
      · have := h.rel.grow.2 id h6 h4
        rw [h5] at this; cases this
    have h7 := h.good0.hc
    exact ⟨by rw [imgF_eq, h1.live id (by omega), h2.page id h3 h6]; rfl, h.good0.leaf id h3 h6⟩
  · have hm := h.rel.ids _ (getL_mem hq)
    have hl := h.good.leaf id hm.1 hm.2
    unfold seeL at hl
    rw [hq] at hl
    exact hl
theorem TxSt.leaves (h : TxSt B C w t mb x db p D log cnt k m V fs0 tm mk sp l fs) : LeavesOk l :=
  ⟨h.rel.rises, fun y hy => by have := h.rel.ids y hy; have := h.hiT; omega, fun y hy => h.on.leaf y.1 y.2 (getL_of_mem h.rel.rises hy)⟩
theorem TxSt.below {w' : World} (h : TxSt B C w t mb x db p D log cnt k m V fs0 tm mk sp l fs) (hb : Below w.heap.size w w') (hB : 0 < B) : TxSt B C w' t mb x db p D log cnt k m V fs0 tm mk sp l fs := by
  obtain ⟨L, h1, h2⟩ := h.lg
  exact ⟨h.now.below hb, ⟨L, h1.keep (Below.sees hb), h2⟩, h.half.below hb (Nat.lt_of_lt_of_le hB h.hBw), h.good0, h.rel, h.good⟩
theorem seeL_put (V : Nat → Lf) (l : List (Nat × Lf)) (i : Nat) (q : Lf) : seeL V (putL i q l) = upd (seeL V l) i q := by
  funext j
  unfold seeL upd
  rw [getL_putL]
  by_cases h : i = j
  · subst h; simp
  · have : ¬ (j = i) := fun e => h e.symm
    simp [h, this]
theorem thereS_of (h : Good cnt tm (seeL V l) fs) (id : Int) : thereS V tm l id = (if thereA tm fs id = 0 then seeL V l id.toNat else (0, []), thereA tm fs id) := by
  by_cases h1 : id < 1 ∨ (tm.high : Int) ≤ id
  · have e1 : getS V tm l id = ((0, []), 2) := by unfold getS; rw [if_pos h1]
    have e2 : thereA tm fs id = 2 := by unfold thereA; rw [if_pos h1]
    unfold thereS
    rw [e1, e2]; rfl
  · have e1 : getS V tm l id = (seeL V l id.toNat, 0) := by unfold getS; rw [if_neg h1]
    by_cases h2 : id.toNat ∈ fs
    · obtain ⟨n, hn⟩ := linked_mem h.link h2
      have e2 : thereA tm fs id = 8 := by unfold thereA; rw [if_neg h1, if_pos h2]
      unfold thereS
      rw [e1, e2, hn]; rfl
    · have e2 : thereA tm fs id = 0 := by unfold thereA; rw [if_neg h1, if_neg h2]
      have h3 := h.page id.toNat (by omega) (by omega) h2
      unfold thereS
      rw [e1, e2, if_neg (fun h4 => by have h5 : (seeL V l id.toNat).1 = 255 := h4.2; omega), if_pos rfl]
/-- the transaction's own parts turn -/
theorem TxSt.turned {w' : World} {tm' : Meta} {mk' sp' : Bool} {l' : List (Nat × Lf)} {fs' : List Nat} (h : TxSt B C w t mb x db p D log cnt k m V fs0 tm mk sp l fs) (hn : TxNow B C w' t mb x db p log m tm' mk' sp' l' D) (hu : Upd C txT w w')
    (hC : 0 < C) (hr : TxRel m tm' mk' l') (hg : Good cnt tm' (seeL V l') fs') : TxSt B C w' t mb x db p D log cnt k m V fs0 tm' mk' sp' l' fs' := by
  obtain ⟨L, h1, h2⟩ := h.lg
  exact ⟨hn, ⟨L, h1.keep (hu.sees txT_log), h2⟩, h.half.upd hu hC h.hCw, h.good0, hr, hg⟩
theorem TxRel.put {q : Lf} {i : Nat} (h : TxRel m tm mk l) (h1 : 1 ≤ i) (h2 : i < tm.high) : TxRel m tm mk (putL i q l) :=
  ⟨rises_putL h.rises, fun y hy => by
    rcases mem_putL.1 hy with rfl | ⟨hy, _⟩
    · exact ⟨h1, h2⟩
    · exact h.ids y hy, h.same, h.grow.1, fun id h3 h4 => by
    rw [getL_putL]
    by_cases hi : i = id
    · rw [if_pos hi]; rfl
    · rw [if_neg hi]; exact h.grow.2 id h3 h4⟩
theorem TxRel.metaD {tm' : Meta} (h : TxRel m tm mk l) (hh : tm'.high = tm.high) : TxRel m tm' true l :=
  ⟨h.rises, fun y hy => by rw [hh]; exact h.ids y hy, (fun e => by cases e), by rw [hh]; exact h.grow.1, fun id h3 h4 => h.grow.2 id h3 (by rw [← hh]; exact h4)⟩
theorem TxRel.more {q : Lf} {tm' : Meta} (h : TxRel m tm mk l) (hh : tm'.high = tm.high + 1) (h1 : 1 ≤ tm.high) : TxRel m tm' true (putL tm.high q l) :=
  ⟨rises_putL h.rises, fun y hy => by
    rcases mem_putL.1 hy with rfl | ⟨hy, _⟩
    · exact ⟨h1, by rw [hh]; exact Nat.lt_succ_self _⟩
    · have := h.ids y hy; omega, (fun e => by cases e), by have := h.grow.1; omega, fun id h3 h4 => by
    rw [getL_putL]
    by_cases hi : tm.high = id
    · rw [if_pos hi]; rfl
    · rw [if_neg hi]; exact h.grow.2 id h3 (by omega)⟩
-- the calls
def StBegin (B : Nat) (w : World) (x db p : Nat) (D : Disk) (log cnt k : Nat) (m : Meta) (V : Nat → Lf) (fs : List Nat) (e : Ending) (w' : World) : Prop :=
  ∃ t mb, e = .returned (.tuple #[.pointer (some ⟨t, 0, none⟩), .int .i64 0]) ∧ TxSt B w.heap.size w' t mb x db p D log cnt k m V fs m false false [] fs ∧ Upd B dbT w w'
theorem st_Begin (h : DbSt B w x db p D log cnt k m V fs) (hB : 0 < B) : Calls Tryz.prog 15 #[.pointer (some ⟨x, 0, none⟩)] w (StBegin B w x db p D log cnt k m V fs) := by
  obtain ⟨L, h1, h2, h3⟩ := h
  have hBs : B ≤ w.heap.size := Nat.le_trans h1.dbi.hx (Nat.le_of_lt (lt_of_some h1.dbi.head))
  refine (db_Begin h1.dbi h1.disk h2.room.2.2.2.1).mono fun e w' h4 => ?_
  obtain ⟨t, mb, he, hd, ht, hu⟩ := h4
  refine ⟨t, mb, he, ⟨⟨hd, h1.disk.keep (hu.sees diskT_notdb), h2.room.2.2.2.1, ht⟩, ⟨L, h1.lg.keep (hu.sees logT_db), h2⟩, h1.half.upd hu hB hBs, h3, ⟨List.Pairwise.nil, (fun y hy => by cases hy), fun _ => rfl, Nat.le_refl _, fun id h5 h6 => by omega⟩, h3⟩, hu⟩
theorem st_Read (h : TxSt B C w t mb x db p D log cnt k m V fs0 tm mk sp l fs) (hB : 0 < B) (id : Int) :
    Calls Tryz.prog 18 #[.pointer (some ⟨t, 0, none⟩), .int .i64 id] w (PgPost w (if thereA tm fs id = 0 then seeL V l id.toNat else (0, []), thereA tm fs id)) := by
  have h1 := tx_Read h.now V h.on h.hiT.1 id h.half (Nat.lt_of_lt_of_le hB h.hBw)
  rw [thereS_of h.good id] at h1
  exact h1
def writeA (tm : Meta) (fs : List Nat) (id k : Int) (n : Nat) : Int := if thereA tm fs id ≠ 0 then thereA tm fs id else writeE k n
theorem st_Write_no (h : TxSt B C w t mb x db p D log cnt k m V fs0 tm mk sp l fs) (hB : 0 < B) (id kd : Int) (s : ByteArray) (hs : s.size ≤ 9223372036854775807) (hc : writeA tm fs id kd s.size ≠ 0) :
    Calls Tryz.prog 22 #[.pointer (some ⟨t, 0, none⟩), .int .i64 id, .int .i64 kd, .string s] w (ErrPost w (writeA tm fs id kd s.size)) := by
  have h1 := tx_there h.now V h.on h.hiT.1 id h.half (Nat.lt_of_lt_of_le hB h.hBw)
  rw [thereS_of h.good id] at h1
  by_cases h2 : thereA tm fs id = 0
  · have e : writeA tm fs id kd s.size = writeE kd s.size := by unfold writeA; rw [if_neg (fun h => h h2)]
    rw [e] at hc ⊢
    exact txw_err h2 h1 kd s hs hc
  · have e : writeA tm fs id kd s.size = thereA tm fs id := by unfold writeA; rw [if_pos h2]
    rw [e]
    exact txw_no h2 h1 kd s
def StTx (B C : Nat) (w : World) (t mb x db p : Nat) (D : Disk) (log cnt k : Nat) (m : Meta) (V : Nat → Lf) (fs0 : List Nat) (tm : Meta) (mk sp : Bool) (l : List (Nat × Lf)) (fs : List Nat) (r : Value) (e : Ending) (w' : World) : Prop :=
  e = .returned r ∧ TxSt B C w' t mb x db p D log cnt k m V fs0 tm mk sp l fs ∧ Upd C txT w w'
theorem st_Write (h : TxSt B C w t mb x db p D log cnt k m V fs0 tm mk sp l fs) (hB : 0 < B) (hC : 0 < C) (id kd : Int) (s : ByteArray) (hc : writeA tm fs id kd s.size = 0) :
    Calls Tryz.prog 22 #[.pointer (some ⟨t, 0, none⟩), .int .i64 id, .int .i64 kd, .string s] w (StTx B C w t mb x db p D log cnt k m V fs0 tm mk sp (putL id.toNat (kd.toNat, s.data.toList) l) fs (.int .i64 0)) := by
  have hth : thereA tm fs id = 0 := by
    unfold writeA at hc
    by_cases h2 : thereA tm fs id = 0
    · exact h2
    · rw [if_pos h2] at hc; exact absurd hc h2
  have hw : writeE kd s.size = 0 := by unfold writeA at hc; rw [if_neg (fun h => h hth)] at hc; exact hc
  have ht := thereA_zero hth
  have hk : 1 ≤ kd ∧ kd < 255 ∧ s.size ≤ 500 := by
    unfold writeE at hw
    split at hw
    · cases hw
    · split at hw
      · cases hw
      · omega
  have hl := h.hiT.2
  refine (tx_Write h.now V h.on h.hiT.1 id h.half (Nat.lt_of_lt_of_le hB h.hBw) h.hCw (by omega) (by rw [thereS_of h.good id]; exact hth) kd s hw).mono fun e w' h3 => ?_
  obtain ⟨he, hn, hu⟩ := h3
  refine ⟨he, h.turned hn hu hC (h.rel.put ht.1 ht.2.1) ?_, hu⟩
  rw [seeL_put]
  exact h.good.wrote ht.2.2.1 ⟨by show 1 ≤ kd.toNat; omega, by show kd.toNat ≤ 254; omega, hk.2.2⟩
theorem st_Alloc_none (h : TxSt B C w t mb x db p D log cnt k m V fs0 tm mk sp l fs) (ha : allocA cnt tm fs = none) : Calls Tryz.prog 21 #[.pointer (some ⟨t, 0, none⟩)] w (FullPost w) := by
  obtain ⟨L, _, hc⟩ := h.lg
  cases fs with
  | cons i r => cases ha
  | nil =>
    have ha : (if tm.high = cnt then none else some (tm.high, { tm with high := tm.high + 1 }, [])) = none := ha
    by_cases hh : tm.high = cnt
    · refine tx_Alloc_full h.now (by have := hc.room; omega) h.good.head ?_
      rw [hh, hc.cntE]
    · rw [if_neg hh] at ha; cases ha
theorem st_Alloc (h : TxSt B C w t mb x db p D log cnt k m V fs0 tm mk sp l fs) (hB : 0 < B) (hC : 0 < C) {i : Nat} {tm2 : Meta} {fs2 : List Nat} (ha : allocA cnt tm fs = some (i, tm2, fs2)) :
    Calls Tryz.prog 21 #[.pointer (some ⟨t, 0, none⟩)] w (StTx B C w t mb x db p D log cnt k m V fs0 tm2 true sp (putL i (1, []) l) fs2 (.tuple #[int' i, .int .i64 0])) := by
  obtain ⟨hg, hi1, hi2, _⟩ := h.good.alloc ha
  obtain ⟨L, _, hc⟩ := h.lg
  have hll := h.hiT
  cases fs with
  | cons j r =>
    injection ha with ha
    injection ha with ha1 ha
    injection ha with ha2 ha3
    subst ha1 ha2 ha3
    have hhd : tm.free = j := h.good.head
    have hlk := h.good.link.1
    have hct := h.good.count
    rw [List.length_cons] at hct
    have hmk := h.good.mok.count
    have hr : r.headD 0 < 2147483648 := hg.mok.free
    have hA := tx_Alloc_free h.now V h.on hll.1 h.half (Nat.lt_of_lt_of_le hB h.hBw) (by rw [hhd]; exact hi1) (by rw [hhd]; exact hi2) (r.headD 0) hr (by rw [hhd]; exact hlk) (by omega) hmk (by omega)
    rw [hhd] at hA
    refine hA.mono fun e w' h3 => ?_
    obtain ⟨he, hn, hu⟩ := h3
    refine ⟨he, h.turned hn hu hC ?_ (by rw [seeL_put]; exact hg), hu⟩
    exact (h.rel.metaD (tm' := { tm with free := r.headD 0, count := tm.count - 1 }) rfl).put hi1 hi2
  | nil =>
    have ha2 : (if tm.high = cnt then none else some (tm.high, { tm with high := tm.high + 1 }, [])) = some (i, tm2, fs2) := ha
    by_cases hh : tm.high = cnt
    · rw [if_pos hh] at ha2; cases ha2
    · rw [if_neg hh] at ha2
      injection ha2 with ha3
      injection ha3 with ha4 ha3
      injection ha3 with ha5 ha6
      subst ha4 ha5 ha6
      have hcc := h.good.hc
      refine (tx_Alloc_new h.now (by have := hc.room; omega) h.good.head (by rw [← hc.cntE]; omega) (by omega) hll.1).mono fun e w' h3 => ?_
      obtain ⟨he, hn, hu⟩ := h3
      exact ⟨he, h.turned hn hu hC (h.rel.more rfl h.good.h1) (by rw [seeL_put]; exact hg), hu⟩
theorem st_Free_no (h : TxSt B C w t mb x db p D log cnt k m V fs0 tm mk sp l fs) (hB : 0 < B) (id : Int) (hc : thereA tm fs id ≠ 0) : Calls Tryz.prog 28 #[.pointer (some ⟨t, 0, none⟩), .int .i64 id] w (ErrPost w (thereA tm fs id)) := by
  have h1 := tx_there h.now V h.on h.hiT.1 id h.half (Nat.lt_of_lt_of_le hB h.hBw)
  rw [thereS_of h.good id] at h1
  exact txf_no (r := (if thereA tm fs id = 0 then seeL V l id.toNat else (0, []), thereA tm fs id)) hc h1
theorem st_Free (h : TxSt B C w t mb x db p D log cnt k m V fs0 tm mk sp l fs) (hB : 0 < B) (hC : 0 < C) (id : Int) (hc : thereA tm fs id = 0) :
    Calls Tryz.prog 28 #[.pointer (some ⟨t, 0, none⟩), .int .i64 id] w (StTx B C w t mb x db p D log cnt k m V fs0 { tm with free := id.toNat, count := tm.count + 1 } true sp (putL id.toNat (255, num tm.free 4) l) (id.toNat :: fs) (.int .i64 0)) := by
  have ht := thereA_zero hc
  have hl := h.hiT.2
  refine (tx_Free h.now V h.on h.hiT.1 id h.half (Nat.lt_of_lt_of_le hB h.hBw) (by omega) h.good.mok.free h.good.mok.count (by rw [thereS_of h.good id]; exact hc)).mono fun e w' h3 => ?_
  obtain ⟨he, hn, hu⟩ := h3
  refine ⟨he, h.turned hn hu hC ?_ ?_, hu⟩
  · exact (h.rel.metaD (tm' := { tm with free := id.toNat, count := tm.count + 1 }) rfl).put ht.1 ht.2.1
  · rw [seeL_put]
    exact h.good.freed ht.1 ht.2.1 ht.2.2.1
theorem st_SetRoot (h : TxSt B C w t mb x db p D log cnt k m V fs0 tm mk sp l fs) (hC : 0 < C) (i n : Int) (hi0 : 0 ≤ i) (hi1 : i < 4) (hn0 : 0 ≤ n) (hn1 : n < 2147483648) :
    Calls Tryz.prog 30 #[.pointer (some ⟨t, 0, none⟩), .int .i64 i, .int .i64 n] w (StTx B C w t mb x db p D log cnt k m V fs0 (tm.setRoot i n.toNat) true sp l fs (.int .i64 0)) := by
  refine (tx_SetRoot h.now i n hi0 hi1 hn0 hn1).mono fun e w' h3 => ?_
  obtain ⟨he, hn, hu⟩ := h3
  exact ⟨he, h.turned hn hu hC (h.rel.metaD (setRoot_eq tm i n.toNat).1) (h.good.root i (by omega)), hu⟩
def StDb (B : Nat) (w : World) (x db p : Nat) (D : Disk) (log cnt k : Nat) (m : Meta) (V : Nat → Lf) (fs : List Nat) (r : Value) (e : Ending) (w' : World) : Prop :=
  e = .returned r ∧ DbSt B w' x db p D log cnt k m V fs ∧ Upd B dbT w w'
theorem TxSt.rest {w' : World} (h : TxSt B C w t mb x db p D log cnt k m V fs0 tm mk sp l fs) (hd : DbIs B w' x db p log m (.pointer none) false) (hu : Upd B dbT w w') (hB : 0 < B) : DbSt B w' x db p D log cnt k m V fs0 := by
  obtain ⟨L, h1, h2⟩ := h.lg
  exact ⟨L, ⟨hd, h.now.disk.keep (hu.sees diskT_notdb), h1.keep (hu.sees logT_db), h.half.upd hu hB h.hBw⟩, h2, h.good0⟩
theorem st_Abort (h : TxSt B C w t mb x db p D log cnt k m V fs0 tm mk sp l fs) (hB : 0 < B) : Calls Tryz.prog 17 #[.pointer (some ⟨t, 0, none⟩)] w (StDb B w x db p D log cnt k m V fs0 (.tuple #[])) := by
  refine (tx_Abort h.now).mono fun e w' h3 => ?_
  obtain ⟨he, hd, _, hu⟩ := h3
  exact ⟨he, h.rest hd hu hB, hu⟩
theorem commit_holds {W : Nat → Bs} (hw : Holds W m V) (hr : TxRel m tm mk l) (hlv : LeavesOk l) : Holds (addPg (pagesOf tm mk l) W) tm (seeL V l) := by
  have hs : ∀ id, lastPg id (sealsOf l) = (getL id l).map (sealLf id) := by
    intro id
    have h1 : getL id (sealsOf l) = (getL id l).map (sealLf id) := getL_map sealLf id l
    rw [← h1]
    have hrs : Rises (sealsOf l) := rises_map sealLf hr.rises
    cases hl : lastPg id (sealsOf l) with
    | some b => rw [getL_of_mem hrs (lastPg_mem hl)]
    | none => exact (getL_none.2 (lastPg_none hl)).symm
  have h0 : lastPg 0 (sealsOf l) = none := by
    rw [hs 0]
    have : getL 0 l = none := getL_none.2 fun y hy => by have := hlv.ids y hy; omega
    rw [this]; rfl
  have hp : ∀ id, 1 ≤ id → lastPg id (pagesOf tm mk l) = (getL id l).map (sealLf id) := fun id hid => by
    cases mk
    · exact hs id
    · show (match lastPg id (sealsOf l) with | some b => some b | none => if 0 = id then some _ else none) = _
      rw [hs id]
      cases getL id l with
      | some q => rfl
      | none => exact if_neg (by omega)
  refine ⟨?_, fun id h1 h2 => ?_⟩
  · cases mk
    · have e : tm = m := hr.same rfl
      have e2 : addPg (pagesOf tm false l) W 0 = W 0 := by
        show (lastPg 0 (sealsOf l)).getD (W 0) = _
        rw [h0]; rfl
      rw [e2, e]; exact hw.zero
    · refine .inr ?_
      show (match lastPg 0 (sealsOf l) with | some b => some b | none => if 0 = 0 then some _ else none).getD (W 0) = _
      rw [h0]; rfl
  · show (lastPg id (pagesOf tm mk l)).getD (W id) = _
    rw [hp id h1]
    unfold seeL
    cases hg : getL id l with
    | some q => rfl
    | none =>
      have h3 : id < m.high := by
        rcases Nat.lt_or_ge id m.high with h3 | h3
        · exact h3
        · have := hr.grow.2 id h3 h2
          rw [hg] at this; cases this
      exact hw.page id h1 h3
theorem pages_pgs (h : Good cnt tm (seeL V l) fs) (hr : TxRel m tm mk l) (hlv : LeavesOk l) (hl : l.length ≤ 65536) (hz : (recB (pagesOf tm mk l)).length ≤ 65536) : PgsOk cnt (pagesOf tm mk l) := by
  obtain ⟨_, _, h3⟩ := pages_ok tm hlv hl (J := pagesOf tm mk l) rfl
  have hrl : (recB (pagesOf tm mk l)).length = 4 + 516 * (pagesOf tm mk l).length := by rw [recB, List.length_append, num_len, pgs_len (n := 2147483648) h3]
  have hcc := h.hc; have hh1 := h.h1
  refine ⟨by omega, fun y hy => ⟨?_, (h3 y hy).2⟩⟩
  have hs : ∀ y ∈ sealsOf l, y.1 < cnt := fun y hy => by
    obtain ⟨q, hq, rfl⟩ := List.mem_map.1 hy
    have := hr.ids q hq
    show q.1 < cnt
    omega
  cases mk
  · exact hs y hy
  · rcases List.mem_cons.1 hy with rfl | hy
    · show 0 < cnt; omega
    · exact hs y hy
theorem st_Commit_no (h : TxSt B C w t mb x db p D log cnt k m V fs0 tm mk sp l fs) (hB : 0 < B) (c : Int) (hc : commitNo log tm mk sp l = some c) :
    Calls Tryz.prog 20 #[.pointer (some ⟨t, 0, none⟩)] w (StDb B w x db p D log cnt k m V fs0 (.int .i64 c)) := by
  obtain ⟨L, _, hcc⟩ := h.lg
  have hr := hcc.room
  have hm := hr.2.2.2.2.most
  refine (tx_Commit_no h.now h.leaves h.hiT.2 h.good.mok (by omega) (by omega) h.half hB c hc).mono fun e w' h3 => ?_
  obtain ⟨he, hd, hu⟩ := h3
  exact ⟨he, h.rest hd hu hB, hu⟩
/-- a commit that writes: it is done, or the power went -/
def StCommit (B : Nat) (w : World) (x db p : Nat) (D : Disk) (log cnt k : Nat) (m : Meta) (V : Nat → Lf) (fs0 : List Nat) (tm : Meta) (U : Nat → Lf) (fs : List Nat) (e : Ending) (w' : World) : Prop :=
  Upd B comT w w' ∧
  ((∃ D', e = .returned (.int .i64 0) ∧ DbSt B w' x db p D' log cnt (k + 1) tm U fs ∧ D'.kept.length = D.kept.length ∧ (D.armed = false → D'.armed = false)) ∨
    (∃ D' W W2, e = .returned (.int .i64 10) ∧ D.armed = true ∧ DiskAt B w' db D' ∧ Lost D D' log (k + 1) cnt W W2 ∧ Holds W m V ∧ Holds W2 tm U))
theorem run_calm (l : List DAct) : ∀ D : Disk, D.down = false → D.armed = false → (D.run l).1.down = false ∧ (D.run l).1.armed = false ∧ (D.run l).2 ≠ 10 := by
  induction l with
  | nil => intro D h1 h2; exact ⟨h1, h2, by show (0 : Int) ≠ 10; decide⟩
  | cons a l ih =>
    intro D h1 h2
    have hd := does_armed h2
    have ha : (D.act a).1.down = false ∧ (D.act a).1.armed = false ∧ (D.act a).2 ≠ 10 := by
      cases a with
      | W i s =>
        show (D.write i s).1.down = false ∧ (D.write i s).1.armed = false ∧ (D.write i s).2 ≠ 10
        unfold Disk.write
        rw [if_neg (by rw [h1]; decide), hd]
        split
        · exact ⟨h1, h2, by show (2 : Int) ≠ 10; decide⟩
        split
        · exact ⟨h1, h2, by show (3 : Int) ≠ 10; decide⟩
        · rw [if_pos rfl]; exact ⟨h1, h2, by show (0 : Int) ≠ 10; decide⟩
      | F =>
        show D.flush.1.down = false ∧ D.flush.1.armed = false ∧ D.flush.2 ≠ 10
        unfold Disk.flush
        rw [if_neg (by rw [h1]; decide), hd, if_pos rfl]
        exact ⟨h1, h2, by show (0 : Int) ≠ 10; decide⟩
    simp only [Disk.run]
    split
    · exact ih _ ha.1 ha.2.1
    · exact ha
theorem commit_calm (D : Disk) (L : Log) (J : List Pg) (log : Nat) (h1 : D.down = false) (h2 : D.armed = false) : (commitRun log D L J).1.armed = false ∧ (commitRun log D L J).2 ≠ 10 := by
  have hw : ∀ (D1 : Disk) (L1 : Log), D1.down = false → D1.armed = false → (let r2 := D1.run (syncActs L1 (recB J)); if r2.2 ≠ 0 then r2 else r2.1.run (redoActs log J)).1.armed = false ∧ (let r2 := D1.run (syncActs L1 (recB J)); if r2.2 ≠ 0 then r2 else r2.1.run (redoActs log J)).2 ≠ 10 := fun D1 L1 h3 h4 => by
    have h5 := run_calm (syncActs L1 (recB J)) D1 h3 h4
    by_cases h6 : (D1.run (syncActs L1 (recB J))).2 ≠ 0
    · simp only [h6, if_true, ne_eq, not_false_eq_true]; exact h5.2
    · have h7 := run_calm (redoActs log J) _ h5.1 h5.2.1
      simp only [h6, if_false]; exact h7.2
  unfold commitRun
  cases hf : fitsB L (recB J).length
  · have h5 := run_calm (settleActs L) D h1 h2
    simp only [hf, Bool.false_eq_true, if_false]
    by_cases h6 : (D.run (settleActs L)).2 ≠ 0
    · simp only [h6, if_true, ne_eq, not_false_eq_true]; exact h5.2
    · simp only [h6, if_false]; exact hw _ _ h5.1 h5.2.1
  · simp only [hf, if_true, ne_eq, not_true_eq_false, if_false]
    exact hw D L h1 h2
theorem commit_pend (D : Disk) (L : Log) (J : List Pg) (log : Nat) (hL : L.Ok) (hz : (recB J).length + 8 ≤ 64 * (L.n - 1)) (hJ : J.length ≤ 127) : (commitRun log D L J).1.pend.length ≤ D.pend.length + 70000 := by
  have hw : ∀ (D1 : Disk) (L1 : Log), L1.n ≤ 65536 → L1.bytes.length + (8 + (recB J).length) ≤ 64 * (L1.n - 1) → (let r2 := D1.run (syncActs L1 (recB J)); if r2.2 ≠ 0 then r2 else r2.1.run (redoActs log J)).1.pend.length ≤ D1.pend.length + 69000 := fun D1 L1 h3 h4 => by
    have h5 := run_pend (syncActs L1 (recB J)) D1
    have h6 := syncActs_len L1 (recB J) h4 h3
    by_cases h7 : (D1.run (syncActs L1 (recB J))).2 ≠ 0
    · simp only [h7, if_true, ne_eq, not_false_eq_true]; omega
    · have h8 := run_pend (redoActs log J) (D1.run (syncActs L1 (recB J))).1
      rw [redoActs_len] at h8
      simp only [h7, if_false]; omega
  unfold commitRun
  cases hf : fitsB L (recB J).length
  · have h5 := run_pend (settleActs L) D
    have h9 : (settleActs L).length = 3 := rfl
    simp only [hf, Bool.false_eq_true, if_false]
    by_cases h6 : (D.run (settleActs L)).2 ≠ 0
    · simp only [h6, if_true, ne_eq, not_false_eq_true]; omega
    · simp only [h6, if_false]
      have h7 := hw (D.run (settleActs L)).1 (Log.reset L) hL.nmax (by show 0 + _ ≤ 64 * (L.n - 1); omega)
      exact Nat.le_trans h7 (by omega)
  · simp only [hf, if_true, ne_eq, not_true_eq_false, if_false]
    have h1 : (recB J).length + 8 ≤ 64 * (L.n - 1) - L.bytes.length := by simpa [fitsB] using hf
    have h7 := hw D L hL.nmax (by omega)
    exact Nat.le_trans h7 (by omega)
theorem commitNo_none (h : commitNo log tm mk sp l = none) : sp = false ∧ pagesOf tm mk l ≠ [] ∧ (recB (pagesOf tm mk l)).length ≤ 65536 ∧ (recB (pagesOf tm mk l)).length + 8 ≤ 64 * (log - 1) := by
  unfold commitNo at h
  cases sp
  · simp only [Bool.false_eq_true, if_false] at h
    by_cases h1 : pagesOf tm mk l = []
    · rw [if_pos h1] at h; cases h
    · rw [if_neg h1] at h
      split at h
      · cases h
      · exact ⟨rfl, h1, by omega, by omega⟩
  · simp at h
theorem st_Commit (h : TxSt B C w t mb x db p D log cnt k m V fs0 tm mk sp l fs) (hB : 0 < B) (hc : commitNo log tm mk sp l = none) (hk : k < 10000) :
    Calls Tryz.prog 20 #[.pointer (some ⟨t, 0, none⟩)] w (StCommit B w x db p D log cnt k m V fs0 tm (seeL V l) fs) := by
  obtain ⟨hsp, hJ0, hz1, hz2⟩ := commitNo_none hc
  subst hsp
  obtain ⟨L, hlg, hcc⟩ := h.lg
  have hr := hcc.room
  have hm := hr.2.2.2.2.most
  obtain ⟨ep, pss, W, h1, h2, h3, h4⟩ := hcc.ex
  have hkb := hcc.kb
  have hpd := hcc.pend
  have hpg := pages_pgs h.good h.rel h.leaves h.hiT.2 hz1
  have hLok : L.Ok := by obtain ⟨_, _, hli, _⟩ := hlg; exact hli.ok
  have hLn : L.n = log := by rw [h3]; rfl
  have hrest := commit_rest h1 (pagesOf tm mk l) hpg hz1 (by omega) hz2
  have hpend := commit_pend D L (pagesOf tm mk l) log hLok (by rw [hLn]; exact hz2) hpg.few
  have hcalm := commit_calm D L (pagesOf tm mk l) log hr.2.2.2.1
  rw [← h3] at hrest
  refine (tx_Commit h.now hlg h.leaves h.hiT.2 h.good.mok (by omega) (by omega) h.half hB hc hLn (by rw [h3]; rfl) (by omega) (by rw [h3]; show ep < _; omega)).mono fun e w' h5 => ?_
  obtain ⟨he, hd, hdb, hu⟩ := h5
  refine ⟨hu, ?_⟩
  rcases hrest with ⟨a0, ⟨ep2, pss2, a1, a2, a3⟩, a4⟩ | ⟨a0, a1⟩
  · obtain ⟨b1, b2⟩ := hdb a0
    refine .inl ⟨_, by rw [he, a0], ⟨_, ⟨b1, hd, b2, h.half.upd hu hB h.hBw⟩, ⟨⟨ep2, pss2, _, a2, commit_holds h2 h.rel h.leaves, a3, by omega⟩, by omega, by omega, by rw [a4]; exact hcc.cntE⟩, h.good⟩, a4, fun ha => (hcalm ha).1⟩
  · refine .inr ⟨_, W, _, by rw [he, a0], ?_, hd, ?_, h2, commit_holds h2 h.rel h.leaves⟩
    · cases ha : D.armed
      · exact absurd a0 (hcalm ha).2
      · rfl
    · exact ⟨a1.down, a1.ok, a1.len, fun f hf => by
        obtain ⟨ep2, pss2, c1, c2⟩ := a1.found f hf
        exact ⟨ep2, pss2, by omega, c2⟩⟩
end
end Go.Proofs.YthbbammibdhohaaGreatDoor

namespace Go.Proofs.YthbbammibdhohaaGreatDoor
open Go.RowKit Aq Go.Rgn Go.Maps

/-- what opening comes to -/
def StOpen (B : Nat) (w : World) (db : Nat) (D : Disk) (log cnt k : Nat) (m : Meta) (V : Nat → Lf) (fs : List Nat) (e : Ending) (w' : World) : Prop :=
  Upd B walT w w' ∧
  ((∃ x p D', e = .returned (.tuple #[.pointer (some ⟨x, 0, none⟩), .int .i64 0]) ∧ w.heap.size ≤ x ∧ DbSt B w' x db p D' log cnt (k + 1) m V fs ∧ D'.kept.length = D.kept.length ∧ (D.armed = false → D'.armed = false)) ∨
    (∃ D' W, e = .returned (.tuple #[.pointer none, .int .i64 10]) ∧ D.armed = true ∧ DiskAt B w' db D' ∧ Lost D D' log (k + 1) cnt W W ∧ Holds W m V))
theorem st_Open {B : Nat} {w : World} {db : Nat} {D : Disk} {log cnt k ep : Nat} {pss : List (List Pg)} {W : Nat → Bs} {m : Meta} {V : Nat → Lf} {fs : List Nat} (hd : DiskAt B w db D) (hdn : D.down = false) (hBs : B ≤ w.heap.size) (hlog : 2 ≤ log) (hroom : log + cnt * 8 ≤ D.kept.length) (hcnt : 4 ≤ cnt) (hce : cnt = (D.kept.length - log) / 8)
    (hs : ∀ f, Cont D f → FoundF f log ep cnt pss W) (hw : Holds W m V) (hg : Good cnt m V fs) (hep : ep ≤ k) (hpe : D.pend.length ≤ 70000 * k) (hk : k < 10000) (hH : HalfAt w) (hB : 0 < B) :
    Calls Tryz.prog 11 #[.pointer (some ⟨db, 0, none⟩), .int .i64 (log : Int)] w (StOpen B w db D log cnt k m V fs) := by
  have hok : D.Ok := by obtain ⟨kb, pv, dn, h⟩ := hd; exact h.ok
  have hfnd := hs D.look (cont_look D)
  have hrest := open_rest hok hdn hlog hroom hcnt hs (by omega)
  have hcalm := run_calm (openActs log ep pss) D hdn
  have hpl : (D.run (openActs log ep pss)).1.pend.length ≤ D.pend.length + 70000 := by
    have h1 := run_pend (openActs log ep pss) D
    have h2 : (openActs log ep pss).length ≤ 70000 := by
      have h3 := frames_pages pss cnt hfnd.ok
      have h5 := hok.most
      unfold openActs
      rw [List.length_append, redoAll_len]
      have h4 : (if pss = [] then ([] : List DAct) else [.F, .W 0 (headB (ep + 1) 0), .F]).length ≤ 3 := by split <;> simp
      rcases hfnd.lg with ⟨_, _, h⟩ | ⟨_, _, _, h, _⟩
      · have h6 : pss = [] := List.map_eq_nil_iff.1 h
        subst h6; simp
      · omega
    omega
  have h1 := db_Open hd hdn (by omega) hBs log hlog (by omega) (by rw [← hce]; exact hcnt) ep pss hfnd.lg (by rw [← hce]; exact hfnd.ok) (by omega) m (fun D1 hD1 => by
    rcases hrest with ⟨a0, ⟨ep2, a1, a2, a3⟩, a4⟩ | ⟨a0, a1⟩
    · rw [hD1] at a2
      refine ⟨a2.dn, ?_⟩
      have hl := a2.live 0 (by omega)
      rw [imgF_eq]
      rcases hw.zero with ⟨h5, h6⟩ | h5
      · exact .inl ⟨hl.trans h5, h6⟩
      · exact .inr ⟨hl.trans h5, hg.mok, hg.h1, by rw [← hce]; exact hg.hc⟩
    · rw [hD1] at a0; cases a0) hH hB
  refine h1.mono fun e w' h2 => ?_
  obtain ⟨hd2, hu, hno, hyes⟩ := h2
  refine ⟨hu, ?_⟩
  rcases hrest with ⟨a0, ⟨ep2, a1, a2, a3⟩, a4⟩ | ⟨a0, a1⟩
  · obtain ⟨x, p, he, hx, hdb, hlg⟩ := hyes a0
    refine .inl ⟨x, p, _, he, hx, ⟨_, ⟨hdb, hd2, hlg, hH.upd hu hB hBs⟩, ⟨⟨ep2, [], W, a2, hw, a3, by omega⟩, by omega, by omega, by rw [a4]; exact hce⟩, hg⟩, a4, fun ha => (hcalm ha).2.1⟩
  · refine .inr ⟨_, W, by rw [hno (by rw [a0]; decide), a0], ?_, hd2, ?_, hw⟩
    · cases ha : D.armed
      · exact absurd a0 (hcalm ha).2.2
      · rfl
    · exact ⟨a1.down, a1.ok, a1.len, fun f hf => by
        obtain ⟨ep2, pss2, c1, c2⟩ := a1.found f hf
        exact ⟨ep2, pss2, by omega, c2⟩⟩
/-- on a new disk -/
theorem st_Open_new {B : Nat} {w : World} {db n : Nat} {log : Nat} (V : Nat → Lf) (hd : DiskAt B w db (Disk.new n)) (hn : n ≤ 65536) (hBs : B ≤ w.heap.size) (hlog : 2 ≤ log) (hcnt : 4 ≤ (n - log) / 8) (hH : HalfAt w) (hB : 0 < B) :
    Calls Tryz.prog 11 #[.pointer (some ⟨db, 0, none⟩), .int .i64 (log : Int)] w (StOpen B w db (Disk.new n) log ((n - log) / 8) 0 meta0 V []) := by
  have hr := new_rest n log hn hlog hcnt
  have hl : (Disk.new n).kept.length = n := by simp [Disk.new]
  exact st_Open hd rfl hBs hlog hr.room hcnt (by rw [hl]) hr.safe ⟨.inl ⟨rfl, rfl⟩, fun id h1 h2 => by have h3 : id < 1 := h2; omega⟩ (good_new V hcnt (by omega)) (Nat.le_refl _) (Nat.zero_le _) (by decide) hH hB
/-- once more, on the disk as it is -/
theorem st_Open_again {B : Nat} {w : World} {x db p : Nat} {D : Disk} {log cnt k : Nat} {m : Meta} {V : Nat → Lf} {fs : List Nat} (h : DbSt B w x db p D log cnt k m V fs) (hk : k < 10000) (hB : 0 < B) :
    Calls Tryz.prog 11 #[.pointer (some ⟨db, 0, none⟩), .int .i64 (log : Int)] w (StOpen B w db D log cnt k m V fs) := by
  obtain ⟨L, h1, h2, h3⟩ := h
  obtain ⟨ep, pss, W, a1, a2, a3, a4⟩ := h2.ex
  have hBs : B ≤ w.heap.size := Nat.le_trans h1.dbi.hx (Nat.le_of_lt (lt_of_some h1.dbi.head))
  exact st_Open h1.disk a1.dn hBs a1.log2 a1.room a1.cnt4 h2.cntE a1.safe a2 h3 a4 h2.pend hk h1.half hB
end Go.Proofs.YthbbammibdhohaaGreatDoor

namespace Go.Proofs.YthbbammibdhohaaGreatDoor
open Go.RowKit Aq Go.Rgn Go.Maps

def NewOk (w : World) (n : Nat) (e : Ending) (w' : World) : Prop := ∃ b, e = .returned (.tuple #[.pointer (some ⟨b, 0, none⟩), .int .i64 0]) ∧ DiskAt w.heap.size w' b (Disk.new n) ∧ Below w.heap.size w w'
theorem new_ok (w : World) (n : Nat) (h1 : 1 ≤ n) (h2 : n ≤ 65536) : Calls Tryz.prog 9 #[.int .i64 (n : Int)] w (NewOk w n) := by
  refine (disk_New w.heap.size w (n : Int) (Nat.le_refl _)).mono fun e w' h => ?_
  rcases h with ⟨h, _⟩ | ⟨_, b, he, hd, hb, _⟩
  · omega
  · exact ⟨b, he, by rw [Int.toNat_natCast] at hd; exact hd, hb⟩
/-- an opening on a disk that is not armed -/
def OpenOk (B : Nat) (w : World) (db : Nat) (log cnt k : Nat) (m : Meta) (V : Nat → Lf) (fs : List Nat) (n : Nat) (e : Ending) (w' : World) : Prop :=
  ∃ x p D', e = .returned (.tuple #[.pointer (some ⟨x, 0, none⟩), .int .i64 0]) ∧ w.heap.size ≤ x ∧ DbSt B w' x db p D' log cnt k m V fs ∧ D'.kept.length = n ∧ D'.armed = false ∧ Upd B walT w w'
theorem openOk {B : Nat} {w : World} {db : Nat} {D : Disk} {log cnt k : Nat} {m : Meta} {V : Nat → Lf} {fs : List Nat} {e : Ending} {w' : World} (h : StOpen B w db D log cnt k m V fs e w') (ha : D.armed = false) : OpenOk B w db log cnt (k + 1) m V fs D.kept.length e w' := by
  obtain ⟨hu, ⟨x, p, D', h1, h2, h3, h4, h5⟩ | ⟨D', W, h1, h2, _⟩⟩ := h
  · exact ⟨x, p, D', h1, h2, h3, h4, h5 ha, hu⟩
  · rw [ha] at h2; cases h2
def CommitOk (B : Nat) (w : World) (x db p : Nat) (log cnt k : Nat) (m : Meta) (V : Nat → Lf) (fs : List Nat) (n : Nat) (e : Ending) (w' : World) : Prop :=
  ∃ D', e = .returned (.int .i64 0) ∧ DbSt B w' x db p D' log cnt k m V fs ∧ D'.kept.length = n ∧ D'.armed = false ∧ Upd B comT w w'
theorem commitOk {B : Nat} {w : World} {x db p : Nat} {D : Disk} {log cnt k : Nat} {m : Meta} {V : Nat → Lf} {fs0 : List Nat} {tm : Meta} {U : Nat → Lf} {fs : List Nat} {e : Ending} {w' : World} (h : StCommit B w x db p D log cnt k m V fs0 tm U fs e w') (ha : D.armed = false) : CommitOk B w x db p log cnt (k + 1) tm U fs D.kept.length e w' := by
  obtain ⟨hu, ⟨D', h1, h2, h3, h4⟩ | ⟨D', W, W2, h1, h2, _⟩⟩ := h
  · exact ⟨D', h1, h2, h3, h4 ha, hu⟩
  · rw [ha] at h2; cases h2
/-- how much a commit writes -/
def changes (mk : Bool) (l : List (Nat × Lf)) : Nat := l.length + if mk then 1 else 0
def commitC (log n : Nat) (sp : Bool) : Option Int := if sp then some 9 else if n = 0 then some 0 else if 65536 < 4 + 516 * n ∨ 64 * (log - 1) < 12 + 516 * n then some 7 else none
theorem commitNo_eq {tm : Meta} {mk sp : Bool} {l : List (Nat × Lf)} (log : Nat) (hl : LeavesOk l) (hll : l.length ≤ 65536) : commitNo log tm mk sp l = commitC log (changes mk l) sp := by
  obtain ⟨_, _, h3⟩ := pages_ok tm (mk := mk) hl hll (J := pagesOf tm mk l) rfl
  have hrl : (recB (pagesOf tm mk l)).length = 4 + 516 * (pagesOf tm mk l).length := by rw [recB, List.length_append, num_len, pgs_len (n := 2147483648) h3]
  have hn : (pagesOf tm mk l).length = changes mk l := by
    unfold changes
    cases mk
    · show (sealsOf l).length = _; rw [sealsOf, List.length_map]; rfl
    · show (sealsOf l).length + 1 = _; rw [sealsOf, List.length_map]; rfl
  unfold commitNo commitC
  cases sp
  · simp only [Bool.false_eq_true, if_false]
    rw [hrl, hn]
    by_cases h0 : changes mk l = 0
    · have : pagesOf tm mk l = [] := List.eq_nil_of_length_eq_zero (by rw [hn]; exact h0)
      rw [if_pos this, if_pos h0]
    · have : ¬ pagesOf tm mk l = [] := fun e => h0 (by rw [← hn, e]; rfl)
      rw [if_neg this, if_neg h0]
      by_cases h1 : 65536 < 4 + 516 * changes mk l ∨ 64 * (log - 1) < 12 + 516 * changes mk l
      · rw [if_pos h1, if_pos (by omega)]
      · rw [if_neg h1, if_neg (by omega)]
  · rfl
theorem DbSt.hBw {B : Nat} {w : World} {x db p : Nat} {D : Disk} {log cnt k : Nat} {m : Meta} {V : Nat → Lf} {fs : List Nat} (h : DbSt B w x db p D log cnt k m V fs) : B ≤ w.heap.size := by
  obtain ⟨L, h1, _⟩ := h
  exact Nat.le_trans h1.dbi.hx (Nat.le_of_lt (lt_of_some h1.dbi.head))
theorem st_Count {B : Nat} {w : World} {x db p : Nat} {D : Disk} {log cnt k : Nat} {m : Meta} {V : Nat → Lf} {fs : List Nat} (h : DbSt B w x db p D log cnt k m V fs) : Calls Tryz.prog 24 #[.pointer (some ⟨x, 0, none⟩)] w (IntPost w .i64 (cnt : Int)) := by
  obtain ⟨L, h1, h2, _⟩ := h
  have hr := h2.room
  rw [h2.cntE]
  exact db_Count h1.dbi h1.disk (by omega)
theorem DbSt.below {B : Nat} {w w' : World} {x db p : Nat} {D : Disk} {log cnt k : Nat} {m : Meta} {V : Nat → Lf} {fs : List Nat} (h : DbSt B w x db p D log cnt k m V fs) (hb : Below w.heap.size w w') (hB : 0 < B) : DbSt B w' x db p D log cnt k m V fs := by
  have hBw := h.hBw
  obtain ⟨L, h1, h2, h3⟩ := h
  exact ⟨L, h1.below hb (Nat.lt_of_lt_of_le hB hBw), h2, h3⟩
def wV : Nat → Lf := fun _ => (0, [])
def wl : List (Nat × Lf) := [(1, (5, [97, 98]))]
def wm : Meta := ⟨1, 0, 0, 0, 2, 0, 0⟩
theorem wrote6 {B C : Nat} {w : World} {t mb x db p : Nat} {D : Disk} {k : Nat} (h : TxSt B C w t mb x db p D 40 20 k meta0 wV [] ⟨0, 0, 0, 0, 2, 0, 0⟩ true false (putL (1 : Int).toNat ((5 : Int).toNat, (⟨#[97, 98]⟩ : ByteArray).data.toList) (putL 1 (1, []) [])) []) : TxSt B C w t mb x db p D 40 20 k meta0 wV [] ⟨0, 0, 0, 0, 2, 0, 0⟩ true false wl [] := h
theorem rooted7 {B C : Nat} {w : World} {t mb x db p : Nat} {D : Disk} {k : Nat} (h : TxSt B C w t mb x db p D 40 20 k meta0 wV [] (Meta.setRoot ⟨0, 0, 0, 0, 2, 0, 0⟩ 0 (1 : Int).toNat) true false wl []) : TxSt B C w t mb x db p D 40 20 k meta0 wV [] wm true false wl [] := h
theorem read11 {w : World} {t : Nat} (h : Calls Tryz.prog 18 #[.pointer (some ⟨t, 0, none⟩), .int .i64 1] w (PgPost w (if thereA wm [] 1 = 0 then seeL (seeL wV wl) [] (1 : Int).toNat else (0, []), thereA wm [] 1))) :
    Calls Tryz.prog 18 #[.pointer (some ⟨t, 0, none⟩), .int .i64 1] w fun e w' => e = .returned (.tuple #[.int .i64 5, .string ⟨#[97, 98]⟩, .int .i64 0]) ∧ Below w.heap.size w w' := h
theorem root12 {w : World} {t : Nat} (h : Calls Tryz.prog 29 #[.pointer (some ⟨t, 0, none⟩), .int .i64 0] w fun e w' => e = .returned (.int .i64 (wm.root 0 : Int)) ∧ w = w') :
    Calls Tryz.prog 29 #[.pointer (some ⟨t, 0, none⟩), .int .i64 0] w fun e w' => e = .returned (.int .i64 1) ∧ w = w' := h
set_option maxHeartbeats 4000000 in
set_option maxRecDepth 100000 in
theorem works_ok (w : World) (hH : HalfAt w) (hB : 0 < w.heap.size) : Calls Tryz.prog 12 #[] w (BoolPost w true) := by
  have hnew := new_ok w 200 (by decide) (by decide)
  have hop : ∀ w1 db, Below w.heap.size w w1 → DiskAt w.heap.size w1 db (Disk.new 200) → Calls Tryz.prog 11 #[.pointer (some ⟨db, 0, none⟩), .int .i64 40] w1 (OpenOk w.heap.size w1 db 40 20 1 meta0 wV [] 200) := fun w1 db hb hd =>
    (st_Open_new (n := 200) (log := 40) wV hd (by decide) hb.size (by decide) (by decide) (hH.below hb hB) hB).mono fun e w' h => openOk h rfl
  have hal : allocA 20 meta0 [] = some (1, ⟨0, 0, 0, 0, 2, 0, 0⟩, []) := rfl
  have hwr : writeA ⟨0, 0, 0, 0, 2, 0, 0⟩ [] 1 5 2 = 0 := rfl
  have hl2 : putL (1 : Int).toNat ((5 : Int).toNat, [97, 98]) (putL 1 (1, []) []) = wl := rfl
  have hm2 : Meta.setRoot ⟨0, 0, 0, 0, 2, 0, 0⟩ 0 (1 : Int).toNat = wm := rfl
  have HOP := Lib.hid hop
  clear hop
  have HB : Hid (0 < w.heap.size) := hB
  go_enter Tryz.func12, Tryz.ntmps12
  go_wp2_with (first
    | (go_at_call 9; go_must (refine hnew.mono ?_; rintro e w1 ⟨db, rfl, hd1, hb1⟩; have HO1 := Lib.hid (HOP.out w1 db hb1 hd1); have HB1 := Lib.hid hb1; clear hd1 hb1))
    | (go_at_call 11; have _tk := HO1; go_must (refine HO1.out.mono ?_; rintro e w2 ⟨x, p, D2, rfl, hx2, hs2, hn2, ha2, hu2⟩; have HS2 := Lib.hid hs2; have HN2 : Hid (D2.kept.length = 200 ∧ D2.armed = false) := ⟨hn2, ha2⟩; have HU2 : Hid (Below w.heap.size w w2) := HB1.out.trans (hu2.below HB1.out.size); clear hs2 hn2 ha2 hu2 hx2 HO1))
    | (go_at_call 24; go_must (refine (st_Count HS2.out).mono ?_; rintro e w3 ⟨rfl, hb3⟩; have HS3 := Lib.hid (HS2.out.below hb3 HB.out); have HU3 : Hid (Below w.heap.size w w3) := HU2.out.trans (hb3.mono HU2.out.size); clear hb3))
    | (go_at_call 15; have _tk := HS3; go_must (refine (st_Begin HS3.out HB.out).mono ?_; rintro e w4 ⟨t, mb, rfl, hs4, hu4⟩; have HC : Hid (0 < w3.heap.size) := Nat.lt_of_lt_of_le HB.out HU3.out.size; have HS4 := Lib.hid hs4; have HU4 : Hid (Below w.heap.size w w4) := HU3.out.trans (hu4.below HU3.out.size); have HC4 : Hid (w3.heap.size ≤ w4.heap.size) := hu4.size; clear hs4 hu4 HS3))
    | (go_at_call 21; go_must (refine (st_Alloc HS4.out HB.out HC.out hal).mono ?_; rintro e w5 ⟨rfl, hs5, hu5⟩; have HS5 := Lib.hid hs5; have HU5 : Hid (Below w.heap.size w w5) := HU4.out.trans ((hu5.below HC4.out).mono HU3.out.size); have HC5 : Hid (w3.heap.size ≤ w5.heap.size) := Nat.le_trans HC4.out hu5.size; clear hs5 hu5))
    | (go_at_call 22; go_must (refine (st_Write HS5.out HB.out HC.out 1 5 ⟨#[97, 98]⟩ hwr).mono ?_; rintro e w6 ⟨rfl, hs6, hu6⟩; have HS6 := Lib.hid (wrote6 hs6); have HU6 : Hid (Below w.heap.size w w6) := HU5.out.trans ((hu6.below HC5.out).mono HU3.out.size); have HC6 : Hid (w3.heap.size ≤ w6.heap.size) := Nat.le_trans HC5.out hu6.size; clear hs6 hu6))
    | (go_at_call 30; go_must (refine (st_SetRoot HS6.out HC.out 0 1 (by decide) (by decide) (by decide) (by decide)).mono ?_; rintro e w7 ⟨rfl, hs7, hu7⟩; have HS7 := Lib.hid (rooted7 hs7); have HU7 : Hid (Below w.heap.size w w7) := HU6.out.trans ((hu7.below HC6.out).mono HU3.out.size); clear hs7 hu7))
    | (go_at_call 20; go_must (refine (st_Commit HS7.out HB.out (by rw [commitNo_eq 40 HS7.out.leaves HS7.out.hiT.2]; rfl) (by decide)).mono ?_; intro e w8 hc8; obtain ⟨D8, rfl, hs8, hn8, ha8, hu8⟩ := commitOk hc8 HN2.out.2; have HS8 := Lib.hid hs8; have HN8 : Hid (D8.armed = false) := ha8; have HU8 : Hid (Below w.heap.size w w8) := HU7.out.trans (hu8.below HU7.out.size); have HO8 := Lib.hid (st_Open_again hs8 (by decide) HB.out); clear hc8 hs8 hn8 ha8 hu8))
    | (go_at_call 11; have _tk := HO8; go_must (refine HO8.out.mono ?_; intro e w9 ho9; obtain ⟨x9, p9, D9, rfl, hx9, hs9, hn9, ha9, hu9⟩ := openOk ho9 HN8.out; have HS9 := Lib.hid hs9; have HU9 : Hid (Below w.heap.size w w9) := HU8.out.trans (hu9.below HU8.out.size); clear ho9 hx9 hs9 hn9 ha9 hu9 HO8))
    | (go_at_call 15; have _tk := HS9; go_must (refine (st_Begin HS9.out HB.out).mono ?_; rintro e w10 ⟨t2, mb2, rfl, hs10, hu10⟩; have HR10 := Lib.hid (st_Read hs10 HB.out 1); have HS10 := Lib.hid hs10; have HU10 : Hid (Below w.heap.size w w10) := HU9.out.trans (hu10.below HU9.out.size); clear hs10 hu10 HS9))
    | (go_at_call 18; go_must (refine (read11 HR10.out).mono ?_; rintro e w11 ⟨rfl, hb11⟩; have hr11 := tx_Root (HS10.out.below hb11 HB.out).now 0; have HR11 := Lib.hid hr11; have HU11 : Hid (Below w.heap.size w w11) := HU10.out.trans (hb11.mono HU10.out.size); clear hb11 hr11 HR10))
    | (go_at_call 29; go_must (refine (root12 HR11.out).mono ?_; rintro e w12 ⟨rfl, rfl⟩)))
  go_ret
  exact ⟨rfl, HU11.out⟩
end Go.Proofs.YthbbammibdhohaaGreatDoor
