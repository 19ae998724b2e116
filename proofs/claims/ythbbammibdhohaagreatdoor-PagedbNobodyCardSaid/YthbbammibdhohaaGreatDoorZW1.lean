/- wal.sum, frame come to the model's. Conditions as stated. wal.head comes to the model's. Conditions as stated. The pure model of the log, and of what is done to a disk step by step: plain Lean, no program. No condition. The log in memory, and its small functions: none, up, lose. No condition. (*Log).write comes to the model's. Conditions as stated. (*Log).lay comes to the model's. Conditions as stated. slices.Clone at []byte and []string: a row of the call's own. No condition but the size. The log's Room, Add, Records, Reset come to the model's (nothing waits ahead of them). Conditions as stated. -/
import Derived.Laws.IdiomStrings
import Derived.Test.YthbbammibdhohaaGreatDoorShelf
import Derived.StillTailTactics
import Derived.Lib.SliceRun
import Derived.Test.YthbbammibdhohaaGreatDoorZR
import Derived.Test.YthbbammibdhohaaGreatDoorZD5
set_option linter.unusedSimpArgs false
set_option linter.unusedVariables false
namespace Go.Proofs.YthbbammibdhohaaGreatDoor
open Go.RowKit Aq Go.Rgn

def sumB (l : Bs) : Bs := num (crc l).toNat 4
def frameB (r : Bs) : Bs := num r.length 4 ++ sumB (num r.length 4 ++ r) ++ r
def preB (e n : Nat) : Bs := [65, 81, 87, 76] ++ num e 8 ++ num n 4
def headB (e n : Nat) : Bs := preB e n ++ sumB (preB e n) ++ zeros 44
theorem bytesRow_get (s : ByteArray) (c t : Nat) (b : UInt8) (h : s.data.toList[t]? = some b) : (bytesRow s c)[t]? = some (byt b) := by
  have hlt : t < s.data.size := by have := (List.getElem?_eq_some_iff.1 h).1; simpa using this
  unfold bytesRow
  rw [Array.getElem?_append_left (by simpa using hlt)]
  rw [Array.getElem?_map]
  rw [← Array.getElem?_toList, h]; rfl
/-- []byte(s): a new row that begins with the text's bytes -/
theorem wpList_text_bytes {P : Program} {ops : Array Oper} {rest : List Oper} {o : Oper} {a : Act} {w : World} {Q : Exit → Act → World → Prop} (hgd : o.guard = none) (src dst : TypeId) (x : Operand) (ho : o.op = .convert src dst x)
    (e : TypeId) (hs : P.underlying src = some .string) (hd : P.underlying dst = some (.slice e)) (he : P.underlying e = some (.int .u8)) (s : ByteArray) (hx : a.eval x = .string s)
    (h : ∀ c w', (∀ t b, s.data.toList[t]? = some b → w'.cell? ⟨w.heap.size, 0 + t, none⟩ = some (byt b)) → Below w.heap.size w w' → wpList P ops Q rest (a.put o.dst (.slice (some ⟨w.heap.size, 0, none⟩) s.size c)) w') : wpList P ops Q (o :: rest) a w := by
  refine wpList_plain hgd fun K hK => ?_
  have hrun := run_bytes_of_string (P := P) w src dst e s hs hd he
  unfold Oper.wp
  simp [execOp, ho, hx, hrun, Result.andThen]
  refine hK _ _ (h _ _ (fun t b hb => ?_) (((Below.refl _ w).drew).alloc (Nat.le_refl _) _))
  rw [Nat.zero_add]
  exact cellAt (fr := _) (heap_alloc_new w.drew _) t _ (bytesRow_get s _ t b hb)
theorem data_app (a b : ByteArray) : (a ++ b).data.toList = a.data.toList ++ b.data.toList := by simp
theorem HalfAt.below {w w' : World} (h : HalfAt w) (hb : Below w.heap.size w w') (hB : 0 < w.heap.size) : HalfAt w' := fun t ht => (hb.cell (p := ⟨0, t, none⟩) hB).trans (h t ht)
theorem HalfAt.upd {B : Nat} {T : Nat → Bool} {w w' : World} (h : HalfAt w) (hu : Upd B T w w') (hB : 0 < B) (hs : B ≤ w.heap.size) : HalfAt w' := fun t ht => ((hu.below hs).cell (p := ⟨0, t, none⟩) hB).trans (h t ht)
theorem Below.lt {B : Nat} {w w' : World} (hb : Below B w w') {k : Nat} (h : k < w.heap.size) : k < w'.heap.size := Nat.lt_of_lt_of_le h hb.size

set_option maxHeartbeats 2000000 in
theorem wal_sum (w : World) (hH : HalfAt w) (hB : 0 < w.heap.size) (s : ByteArray) (hs : s.size ≤ 9223372036854775807) :
    Calls Tryz.prog 109 #[.string s] w (NumPost w (sumB s.data.toList)) := by
  unfold sumB
  have hcr := crc_range s.data.toList
  obtain ⟨m, hm⟩ : ∃ m : Nat, crc s.data.toList = (m : Int) := ⟨_, (Int.toNat_of_nonneg hcr.1).symm⟩
  have hm4 : m < 4294967296 := by omega
  rw [show (crc s.data.toList).toNat = m from by rw [hm]; rfl]
  have HM := Lib.hid hm
  clear hm hcr
  go_enter Tryz.func109, Tryz.ntmps109
  go_wp2_with (first
    | (with_reducible refine wpList_text_bytes rfl 9 122 (.tmp 3) rfl 5 Tryz.underlying9 Tryz.underlying122 Tryz.underlying5 s rfl ?_; intro c w1 hc1 hb1; have HC := Lib.hid hc1; have HB1 := Lib.hid hb1; clear hc1 hb1)
    | (go_at_call 86; refine (crc_Sum _ (hH.below HB1.out hB) (some ⟨w.heap.size, 0, none⟩) s.size _ s.data.toList rfl hs (fun t b hb => ⟨_, _, rfl, HC.out t b hb⟩)).mono ?_; rintro e w2 ⟨rfl, rfl⟩; rw [HM.out])
    | (go_at_call 108; refine (wal_number _ m 4 (by omega) (by decide)).mono ?_; rintro e w3 ⟨rfl, hb3⟩))
  go_ret
  exact ⟨rfl, HB1.out.trans (hb3.mono HB1.out.size)⟩
theorem str_app (a b : ByteArray) : Value.string (a ++ b) = tx (a.data.toList ++ b.data.toList) := by rw [str_tx, data_app]
set_option maxHeartbeats 2000000 in
theorem wal_frame (w : World) (hH : HalfAt w) (hB : 0 < w.heap.size) (s : ByteArray) (hs : s.size ≤ 65536) :
    Calls Tryz.prog 95 #[.string s] w (NumPost w (frameB s.data.toList)) := by
  have hsz : (num s.size 4).length = 4 := num_len _ _
  have hbs : (⟨(num s.size 4).toArray⟩ ++ s : ByteArray).size ≤ 9223372036854775807 := by
    rw [ByteArray.size_append]; show (num s.size 4).length + _ ≤ _; omega
  have HBS := Lib.hid hbs
  have hsu : (sumB (num s.size 4 ++ s.data.toList)).length = 4 := num_len _ _
  have g1 : ¬ (9223372036854775807 < (num s.size 4).length + s.size) := by omega
  have g2 : ¬ (9223372036854775807 < (num s.size 4).length + (sumB (num s.size 4 ++ s.data.toList)).length) := by omega
  have g3 : ¬ (9223372036854775807 < (num s.size 4).length + (sumB (num s.size 4 ++ s.data.toList)).length + s.size) := by omega
  clear hsz hbs hsu
  go_enter Tryz.func95, Tryz.ntmps95
  go_wp2_with (first
    | (go_at_call 108; refine (wal_number _ s.size 4 (by omega) (by decide)).mono ?_; rintro e w1 ⟨rfl, hb1⟩; have HB1 := Lib.hid hb1; clear hb1)
    | (go_at_call 109; refine (wal_sum _ (hH.below HB1.out hB) (Below.lt HB1.out hB) _ HBS.out).mono ?_; rintro e w2 ⟨rfl, hb2⟩; have HB2 := Lib.hid hb2; clear hb2))
  go_ret
  refine ⟨?_, HB1.out.trans (HB2.out.mono HB1.out.size)⟩
  rw [str_app]; simp [frameB]
end Go.Proofs.YthbbammibdhohaaGreatDoor

namespace Go.Proofs.YthbbammibdhohaaGreatDoor
open Go.RowKit Aq Go.Rgn

theorem repeat0 (n : Nat) : Lib.repeatL [0] n = zeros n := by
  induction n with
  | zero => rfl
  | succ n ih => simp_all [Lib.repeatL, zeros, List.replicate_succ]
set_option maxHeartbeats 2000000 in
theorem wal_head (w : World) (hH : HalfAt w) (hB : 0 < w.heap.size) (e n : Nat) (he : e < 9223372036854775808) (hn : n < 9223372036854775808) :
    Calls Tryz.prog 78 #[.int .i64 (e : Int), .int .i64 (n : Int)] w (NumPost w (headB e n)) := by
  obtain ⟨l8, h8⟩ : ∃ l, l = num e 8 := ⟨_, rfl⟩
  obtain ⟨l4, h4⟩ : ∃ l, l = num n 4 := ⟨_, rfl⟩
  have hl8 : l8.length = 8 := by rw [h8]; exact num_len _ _
  have hl4 : l4.length = 4 := by rw [h4]; exact num_len _ _
  have c1 : ∀ w, Calls Tryz.prog 108 #[.int .u64 (e : Int), .int .i64 8] w (NumPost w l8) := fun w => by rw [h8]; exact wal_number w e 8 he (by decide)
  have c2 : ∀ w, Calls Tryz.prog 108 #[.int .u64 (n : Int), .int .i64 4] w (NumPost w l4) := fun w => by rw [h4]; exact wal_number w n 4 hn (by decide)
  have hpd : (({ data := #[65, 81, 87, 76] } : ByteArray) ++ { data := l8.toArray } ++ { data := l4.toArray }).data.toList = preB e n := by simp [preB, h8, h4]
  have hps : (({ data := #[65, 81, 87, 76] } : ByteArray) ++ { data := l8.toArray } ++ { data := l4.toArray }).size ≤ 9223372036854775807 := by
    simp only [ByteArray.size_append]; show 4 + l8.length + l4.length ≤ _; omega
  obtain ⟨ls, hls⟩ : ∃ ls, ls = sumB (preB e n) := ⟨_, rfl⟩
  have hls4 : ls.length = 4 := by rw [hls]; exact num_len _ _
  have hz44 : (zeros 44).length = 44 := by simp [zeros]
  have c3 : ∀ w1, HalfAt w1 → 0 < w1.heap.size → Calls Tryz.prog 109 #[.string (({ data := #[65, 81, 87, 76] } : ByteArray) ++ { data := l8.toArray } ++ { data := l4.toArray })] w1 (NumPost w1 ls) := fun w1 h1 h2 => by rw [hls, ← hpd]; exact wal_sum w1 h1 h2 _ hps
  have c4 : ∀ w1, Calls Tryz.prog 76 #[.string ⟨#[0]⟩, .int .i64 44] w1 (NumPost w1 (zeros 44)) := fun w1 => by
    refine (Tryz.strings_Repeat ⟨#[0]⟩ 44 w1 (by decide) (by decide)).mono ?_
    rintro x w2 ⟨hx, hb⟩
    exact ⟨by rw [hx, show (⟨#[0]⟩ : ByteArray).data.toList = [0] from rfl, repeat0], hb⟩
  have g1 : ¬ (9223372036854775807 < 4 + l8.length) := by omega
  have g2 : ¬ (9223372036854775807 < 4 + l8.length + l4.length) := by omega
  have g3 : ¬ (9223372036854775807 < 4 + l8.length + l4.length + ls.length) := by omega
  have g4 : ¬ (9223372036854775807 < 4 + l8.length + l4.length + ls.length + (zeros 44).length) := by omega
  have hfin : (({ data := #[65, 81, 87, 76] } : ByteArray) ++ { data := l8.toArray } ++ { data := l4.toArray } ++ { data := ls.toArray } ++ { data := (zeros 44).toArray }) = ⟨(headB e n).toArray⟩ := by
    rw [ByteArray.ext_iff, ← Array.toList_inj]; simp only [data_app]; rw [headB, preB, hls, h8, h4]; rfl
  have HF := Lib.hid hfin
  clear h8 h4 hl8 hl4 hpd hps hls hls4 hz44 hfin
  go_enter Tryz.func78, Tryz.ntmps78
  go_wp2_with (first
    | (go_at_call 76; have hb := HB3.out; refine (c4 _).mono ?_; rintro x w4 ⟨rfl, hb4⟩; have HB4 := Lib.hid (hb.trans (hb4.mono hb.size)); clear hb4 hb)
    | (go_at_call 109; have hb := HB2.out; refine (c3 _ (hH.below hb hB) (Below.lt hb hB)).mono ?_; rintro x w3 ⟨rfl, hb3⟩; have HB3 := Lib.hid (hb.trans (hb3.mono hb.size)); clear hb3 hb)
    | (go_at_call 108; have hb := HB1.out; refine (c2 _).mono ?_; rintro x w2 ⟨rfl, hb2⟩; have HB2 := Lib.hid (hb.trans (hb2.mono hb.size)); clear hb2 hb)
    | (go_at_call 108; refine (c1 _).mono ?_; rintro x w1 ⟨rfl, hb1⟩; have HB1 := Lib.hid hb1; clear hb1))
  go_ret
  exact ⟨congrArg (fun x => Ending.returned (.string x)) HF.out, HB4.out⟩
end Go.Proofs.YthbbammibdhohaaGreatDoor

namespace Aq
inductive DAct where
  | W (i : Nat) (s : Bs)
  | F
def Disk.act (D : Disk) : DAct → Disk × Int
  | .W i s => D.write i s
  | .F => D.flush
/-- acts one by one, up to the first that is refused -/
def Disk.run (D : Disk) : List DAct → Disk × Int
  | [] => (D, 0)
  | a :: l => if (D.act a).2 = 0 then (D.act a).1.run l else D.act a
theorem Disk.run_append (D : Disk) (l m : List DAct) : D.run (l ++ m) = if (D.run l).2 = 0 then (D.run l).1.run m else D.run l := by
  induction l generalizing D with
  | nil => rfl
  | cons a l ih =>
    simp only [List.cons_append, Disk.run]
    by_cases h : (D.act a).2 = 0
    · simp only [h, if_true]; exact ih _
    · simp only [h, if_false]
theorem Disk.run_one (D : Disk) (a : DAct) : D.run [a] = D.act a := by
  simp only [Disk.run]
  split
  · rename_i h; rw [← h]
  · rfl
theorem Disk.run_two (D : Disk) (a b : DAct) : D.run [a, b] = if (D.act a).2 = 0 then (D.act a).1.act b else D.act a := by
  conv => lhs; unfold Disk.run
  rw [Disk.run_one]
/-- a log over the sectors 0 .. n-1 of a disk -/
structure Log where
  n : Nat
  epoch : Nat
  bytes : Bs
  recs : List Bs
  wait : List Bs
  lost : Bool
structure Log.Ok (L : Log) : Prop where
  n2 : 2 ≤ L.n
  nmax : L.n ≤ 65536
  epoch : L.epoch ≤ 4611686018427387904
  fits : L.bytes.length ≤ 64 * (L.n - 1)
  few : L.recs.length ≤ 4194304
  waits : L.wait.length ≤ 1
  long : ∀ r ∈ L.wait, r.length ≤ 65536
/-- the sectors' writes that bring all behind what was there -/
def layActs (old : Nat) (all : Bs) : List DAct :=
  (List.range ((all.length + 63) / 64 - old / 64)).map fun j => .W (1 + (old / 64 + j)) ((all.drop (64 * (old / 64 + j))).take 64)
end Aq

namespace Go.Proofs.YthbbammibdhohaaGreatDoor
open Go.RowKit Aq Go.Rgn

/-- a call of a Go function by its contract, in a drawn statement -/
theorem wp_callFn {P : Program} {o : Oper} {a : Act} {w : World} {K : Act → World → Prop} {Q : Exit → Act → World → Prop} (f : FuncId) (args : Array Value) (R : Ending → World → Prop) (hrun : (execOp a.eval o).run P w = .ok (.enter f args) w)
    (hc : Calls P f args w R) (hR : ∀ e w', R e w' → ∃ v, e = .returned v ∧ K (a.put o.dst v) w') : o.wp P a w K Q := by
  unfold Oper.wp
  rw [hrun, Oper.upon_enter]
  refine hc.mono fun e w'' hh => ?_
  obtain ⟨v, rfl, hk⟩ := hR e w'' hh
  exact hk

/-- a slice whose elements can be read, of a row from B on -/
def RowIs (B : Nat) (w : World) (e : Nat) (v : Value) (xs : List Value) : Prop :=
  ∃ a c, v = .slice a xs.length c ∧ (xs = [] ∨ ∃ (g : Nat) (cur : Array Value), a = some ⟨g, 0, none⟩ ∧ B ≤ g ∧ w.heap[g]? = some (.cells cur e (0, 0)) ∧ ∀ (t : Nat) (u : Value), xs[t]? = some u → cur[t]? = some u)
theorem RowIs.sees {B : Nat} {T : Nat → Bool} {w w' : World} {e : Nat} {v : Value} {xs : List Value} (h : RowIs B w e v xs) (hs : Sees B T w w') (hT : T e = true) : RowIs B w' e v xs := by
  obtain ⟨a, c, hv, h⟩ := h
  refine ⟨a, c, hv, ?_⟩
  rcases h with h | ⟨g, cur, ha, hB, hg, hc⟩
  · exact .inl h
  · exact .inr ⟨g, cur, ha, hB, hs g _ hB hg hT, hc⟩
theorem RowIs.cell {B : Nat} {w : World} {e : Nat} {xs : List Value} {a : Option Addr} {n c : Nat} (h : RowIs B w e (.slice a n c) xs) {t : Nat} {u : Value} (hu : xs[t]? = some u) : ∃ g, a = some ⟨g, 0, none⟩ ∧ w.cell? ⟨g, t, none⟩ = some u := by
  obtain ⟨a', c', hv, h⟩ := h
  injection hv with h1 h2 h3
  subst h1
  rcases h with h | ⟨g, cur, ha, _, hg, hc⟩
  · subst h; simp at hu
  · exact ⟨g, ha, cellAt hg t u (hc t u hu)⟩

abbrev tLog : Nat := 124
def logT : Nat → Bool := fun t => t == tLog || t == 5 || t == 9
def logCells (db n epoch : Nat) (bv rv wv : Value) (lost : Bool) : Array Value :=
  #[.pointer (some ⟨db, 0, none⟩), .int .i64 0, .int .i64 (n : Int), .int .i64 (epoch : Int), bv, rv, wv, .bool lost]
structure LogIs (B : Nat) (w : World) (p db : Nat) (bv rv wv : Value) (L : Log) : Prop where
  hp : B ≤ p
  head : w.heap[p]? = some (.cells (logCells db L.n L.epoch bv rv wv L.lost) tLog (0, 0))
  bytes : RowIs B w 5 bv (L.bytes.map byt)
  recs : w.ownsRow B 9 1 rv L.recs.length (txs L.recs)
  wait : w.ownsRow B 9 1 wv L.wait.length (txs L.wait)
  apart : ∀ g, rv.ownBlock = some g → wv.ownBlock ≠ some g
  ok : L.Ok
def LogAt (B : Nat) (w : World) (p db : Nat) (L : Log) : Prop := ∃ bv rv wv, LogIs B w p db bv rv wv L
theorem LogIs.keep {B : Nat} {w w' : World} {p db : Nat} {bv rv wv : Value} {L : Log} (h : LogIs B w p db bv rv wv L) (hs : Sees B logT w w') : LogIs B w' p db bv rv wv L :=
  ⟨h.hp, hs p _ h.hp h.head rfl, h.bytes.sees hs rfl, ownsRow_sees h.recs hs rfl, ownsRow_sees h.wait hs rfl, h.apart, h.ok⟩
theorem LogAt.keep {B : Nat} {w w' : World} {p db : Nat} {L : Log} (h : LogAt B w p db L) (hs : Sees B logT w w') : LogAt B w' p db L :=
  let ⟨bv, rv, wv, hl⟩ := h; ⟨bv, rv, wv, hl.keep hs⟩
theorem logT_disk (t : Nat) (h : logT t = true) : diskT t = false := by
  simp only [logT, Bool.or_eq_true, beq_iff_eq] at h
  rcases h with (rfl | rfl) | rfl <;> rfl
theorem diskT_log (t : Nat) (h : diskT t = true) : logT t = false := by
  cases hl : logT t with
  | false => rfl
  | true => rw [logT_disk t hl] at h; cases h
section
variable {B : Nat} {w : World} {p db : Nat} {bv rv wv : Value} {L : Log}
theorem LogIs.c0 (h : LogIs B w p db bv rv wv L) : w.cell? ⟨p, 0, none⟩ = some (.pointer (some ⟨db, 0, none⟩)) := cellAt h.head 0 _ rfl
theorem LogIs.c1 (h : LogIs B w p db bv rv wv L) : w.cell? ⟨p, 1, none⟩ = some (.int .i64 0) := cellAt h.head 1 _ rfl
theorem LogIs.c2 (h : LogIs B w p db bv rv wv L) : w.cell? ⟨p, 2, none⟩ = some (.int .i64 (L.n : Int)) := cellAt h.head 2 _ rfl
theorem LogIs.c3 (h : LogIs B w p db bv rv wv L) : w.cell? ⟨p, 3, none⟩ = some (.int .i64 (L.epoch : Int)) := cellAt h.head 3 _ rfl
theorem LogIs.c4 (h : LogIs B w p db bv rv wv L) : w.cell? ⟨p, 4, none⟩ = some bv := cellAt h.head 4 _ rfl
theorem LogIs.c5 (h : LogIs B w p db bv rv wv L) : w.cell? ⟨p, 5, none⟩ = some rv := cellAt h.head 5 _ rfl
theorem LogIs.c6 (h : LogIs B w p db bv rv wv L) : w.cell? ⟨p, 6, none⟩ = some wv := cellAt h.head 6 _ rfl
theorem LogIs.c7 (h : LogIs B w p db bv rv wv L) : w.cell? ⟨p, 7, none⟩ = some (.bool L.lost) := cellAt h.head 7 _ rfl
theorem LogIs.fr (h : LogIs B w p db bv rv wv L) (i : Nat) : w.frozen? ⟨p, i, none⟩ = false := freeAt h.head i
end
theorem RowIs.setCell_tag {B : Nat} {w : World} {e : Nat} {v : Value} {xs : List Value} (h : RowIs B w e v xs) {p : Addr} {cs : Array Value} {t : Nat} {fr : Nat × Nat} (hp : w.heap[p.block]? = some (.cells cs t fr)) (hne : t ≠ e) (u : Value) : RowIs B (w.setCell p u) e v xs := by
  obtain ⟨a, c, hv, h⟩ := h
  refine ⟨a, c, hv, ?_⟩
  rcases h with h | ⟨g, cur, ha, hB, hg, hc⟩
  · exact .inl h
  · exact .inr ⟨g, cur, ha, hB, heap_setCell_tag hp u hg hne, hc⟩
/-- a field of the log's head is written -/
theorem LogIs.field {B : Nat} {w : World} {p db : Nat} {bv rv wv : Value} {L : Log} (h : LogIs B w p db bv rv wv L) (i : Nat) (u : Value) (bv' rv' wv' : Value) (L' : Log)
    (hc : (logCells db L.n L.epoch bv rv wv L.lost).setIfInBounds i u = logCells db L'.n L'.epoch bv' rv' wv' L'.lost)
    (hb : RowIs B w 5 bv' (L'.bytes.map byt)) (hr : w.ownsRow B 9 1 rv' L'.recs.length (txs L'.recs)) (hw : w.ownsRow B 9 1 wv' L'.wait.length (txs L'.wait))
    (ha : ∀ g, rv'.ownBlock = some g → wv'.ownBlock ≠ some g) (hok : L'.Ok) :
    LogIs B (w.setCell ⟨p, i, none⟩ u) p db bv' rv' wv' L' := by
  refine ⟨h.hp, ?_, ?_, ?_, ?_, ha, hok⟩
  · rw [heap_setCell_same w p i _ _ u h.head, hc]
  · exact hb.setCell_tag (p := ⟨p, i, none⟩) h.head (by decide) u
  · exact ownsRow_setCell_tag hr (p := ⟨p, i, none⟩) h.head (by decide) u
  · exact ownsRow_setCell_tag hw (p := ⟨p, i, none⟩) h.head (by decide) u
theorem LogIs.updHead {B : Nat} {w w0 : World} {p db : Nat} {bv rv wv : Value} {L : Log} {T : Nat → Bool} (h : LogIs B w p db bv rv wv L) (hu : Upd B T w0 w) (hT : T tLog = true) (i : Nat) (u : Value) : Upd B T w0 (w.setCell ⟨p, i, none⟩ u) :=
  hu.setCell (p := ⟨p, i, none⟩) u h.head h.hp hT

set_option maxHeartbeats 400000 in
theorem log_none {w : World} {p db : Nat} (h0 : w.cell? ⟨p, 0, none⟩ = some (.pointer (some ⟨db, 0, none⟩))) :
    Calls Tryz.prog 80 #[.pointer (some ⟨p, 0, none⟩)] w fun e w' => e = .returned (.bool false) ∧ w = w' := by
  go_enter Tryz.func80, Tryz.ntmps80
  go_wp2
  go_ret
  exact ⟨rfl, rfl⟩
set_option maxHeartbeats 400000 in
theorem log_up {w : World} {p db : Nat} {lo : Bool} (h0 : w.cell? ⟨p, 0, none⟩ = some (.pointer (some ⟨db, 0, none⟩))) (h7 : w.cell? ⟨p, 7, none⟩ = some (.bool lo)) :
    Calls Tryz.prog 93 #[.pointer (some ⟨p, 0, none⟩)] w fun e w' => e = .returned (.int .i64 (if lo then 10 else 0)) ∧ w = w' := by
  cases lo
  all_goals
    go_enter Tryz.func93, Tryz.ntmps93
    go_wp2_with (go_at_call 80; refine (log_none h0).mono ?_; rintro e w' ⟨rfl, rfl⟩)
    go_ret
    exact ⟨rfl, rfl⟩
def Log.loseIf (L : Log) (e : Int) : Log := { L with lost := L.lost || decide (e ≠ 0) }
def LosePost (B : Nat) (w : World) (p db : Nat) (bv rv wv : Value) (L : Log) (x : Int) (e : Ending) (w' : World) : Prop :=
  e = .returned (.int .i64 x) ∧ LogIs B w' p db bv rv wv (Log.loseIf L x) ∧ ∃ b, w' = w.setCell ⟨p, 7, none⟩ (.bool b)
set_option maxHeartbeats 400000 in
theorem log_lose {B : Nat} {w : World} {p db : Nat} {bv rv wv : Value} {L : Log} (h : LogIs B w p db bv rv wv L) (x : Int) :
    Calls Tryz.prog 96 #[.pointer (some ⟨p, 0, none⟩), .int .i64 x] w (LosePost B w p db bv rv wv L x) := by
  have h7 := h.c7; have f7 := h.fr 7
  have hfin : LogIs B (w.setCell ⟨p, 7, none⟩ (.bool (L.lost || decide (x ≠ 0)))) p db bv rv wv (Log.loseIf L x) :=
    h.field 7 (.bool (L.lost || decide (x ≠ 0))) bv rv wv (Log.loseIf L x) rfl h.bytes h.recs h.wait h.apart ⟨h.ok.n2, h.ok.nmax, h.ok.epoch, h.ok.fits, h.ok.few, h.ok.waits, h.ok.long⟩
  have HF := Lib.hid hfin
  clear h hfin
  cases hl : L.lost
  · rw [hl] at h7 HF
    simp only [Bool.false_or] at HF
    by_cases hx : x = 0
    · subst hx
      go_enter Tryz.func96, Tryz.ntmps96
      go_wp2
      go_ret
      exact ⟨rfl, HF.out, _, rfl⟩
    · have hd : decide (x ≠ 0) = true := by simpa using hx
      rw [hd] at HF
      have hb : (x != 0) = true := by simpa using hx
      go_enter Tryz.func96, Tryz.ntmps96
      go_wp2
      go_ret
      exact ⟨rfl, HF.out, _, rfl⟩
  · rw [hl] at h7 HF
    simp only [Bool.true_or] at HF
    go_enter Tryz.func96, Tryz.ntmps96
    go_wp2
    go_ret
    exact ⟨rfl, HF.out, _, rfl⟩
end Go.Proofs.YthbbammibdhohaaGreatDoor

namespace Go.Proofs.YthbbammibdhohaaGreatDoor
open Go.RowKit Aq Go.Rgn

def HeldL (p db : Nat) (w : World) : Prop := w.cell? ⟨p, 0, none⟩ = some (.pointer (some ⟨db, 0, none⟩)) ∧ w.cell? ⟨p, 1, none⟩ = some (.int .i64 0)
theorem LogIs.held {B : Nat} {w : World} {p db : Nat} {bv rv wv : Value} {L : Log} (h : LogIs B w p db bv rv wv L) : HeldL p db w := ⟨h.c0, h.c1⟩
set_option maxHeartbeats 1000000 in
set_option maxRecDepth 100000 in
theorem log_write {B : Nat} {w : World} {p db : Nat} {bv rv wv : Value} {L : Log} {D : Disk} (hl : LogIs B w p db bv rv wv L) (hd : DiskAt B w db D) (hp : D.pend.length < 4294967296)
    (hH : HalfAt w) (hB : 0 < B) (hs : B ≤ w.heap.size) (e n : Nat) (he : e < 9223372036854775808) (hn : n < 9223372036854775808) :
    Calls Tryz.prog 98 #[.pointer (some ⟨p, 0, none⟩), .int .i64 (e : Int), .int .i64 (n : Int)] w (DiskPost B w db (D.run [.W 0 (headB e n), .F])) := by
  have hHd : ∀ w1, HalfAt w1 → B ≤ w1.heap.size → Calls Tryz.prog 78 #[.int .i64 (e : Int), .int .i64 (n : Int)] w1 (NumPost w1 (headB e n)) := fun w1 h1 h2 => wal_head w1 h1 (by omega) e n he hn
  rw [Disk.run_two]
  obtain ⟨r, hr⟩ : ∃ r, r = D.act (.W 0 (headB e n)) := ⟨_, rfl⟩
  rw [← hr]
  have hW : ∀ w1, DiskAt B w1 db D → Calls Tryz.prog 111 #[.pointer (some ⟨db, 0, none⟩), .int .i64 0, tx (headB e n)] w1 (DiskPost B w1 db r) := fun w1 h1 => by rw [hr]; exact disk_Write h1 0 ⟨(headB e n).toArray⟩ hp
  obtain ⟨D1, x⟩ := r
  obtain ⟨R, hRR⟩ : ∃ R, R = (if x = 0 then D1.flush else (D1, x)) := ⟨_, rfl⟩
  show Calls _ _ _ _ (DiskPost B w db (if x = 0 then D1.flush else (D1, x)))
  rw [← hRR]
  have HRR := Lib.hid hRR
  clear hRR
  obtain ⟨l, hll⟩ : ∃ l, l = headB e n := ⟨_, rfl⟩
  rw [← hll] at hHd hW
  have hS0 : HeldL p db w.drew := (hl.keep (Below.sees ((Below.refl _ w).drew))).held
  have hd0 : DiskAt B w.drew db D := hd.keep (Below.sees ((Below.refl _ w).drew))
  have hl0 : LogIs B w.drew p db bv rv wv L := hl.keep (Below.sees ((Below.refl _ w).drew))
  have hH0 : HalfAt w.drew := hH
  have hs0 : B ≤ w.drew.heap.size := hs
  have HR := Lib.hid hr; have HLL := Lib.hid hll
  clear hr hll hl hd hH
  go_enter Tryz.func98, Tryz.ntmps98
  go_wp2
  refine wp_region_T (HeldL p db) 13 (by kernel_rfl) ?_
  change anyT _ _ _ _ _ 13 _ _ w.drew
  refine anyT_take 0 8 (by kernel_rfl) (by kernel_rfl) (by decide) rfl rfl (by kernel_rfl) (by kernel_rfl) (fun _ _ _ _ h => h) hS0 (yi_move _ _ rfl rfl rfl) ?_
  simp only [Act.put, act_eval_tmp, act_eval_const, List.setIfInBounds_toArray, List.set_cons_succ, List.set_cons_zero, List.getD_cons_succ, List.getD_cons_zero]
  refine anyT_take 1 9 (by kernel_rfl) (by kernel_rfl) (by decide) rfl rfl (by kernel_rfl) (by kernel_rfl) (fun _ _ _ _ h => h) hS0 (yi_nilCheck _ _ rfl rfl rfl) ?_
  simp only [Act.put, act_eval_tmp, act_eval_const, List.setIfInBounds_toArray, List.set_cons_succ, List.set_cons_zero, List.getD_cons_succ, List.getD_cons_zero]
  refine anyT_take 2 10 (by kernel_rfl) (by kernel_rfl) (by decide) rfl rfl (by kernel_rfl) (by kernel_rfl) (fun _ _ _ _ h => h) hS0 (yi_field 124 0 _ _ _ 0 rfl rfl rfl (by kernel_rfl)) ?_
  simp only [Act.put, act_eval_tmp, act_eval_const, List.setIfInBounds_toArray, List.set_cons_succ, List.set_cons_zero, List.getD_cons_succ, List.getD_cons_zero]
  refine anyT_take 3 11 (by kernel_rfl) (by kernel_rfl) (by decide) rfl rfl (by kernel_rfl) (by kernel_rfl) (fun _ _ _ _ h => h) hS0 (yi_load 22 _ ⟨p, 0, none⟩ (.pointer (some ⟨db, 0, none⟩)) rfl rfl rfl (by kernel_rfl) (fun w hw => hw.1)) ?_
  simp only [Act.put, act_eval_tmp, act_eval_const, List.setIfInBounds_toArray, List.set_cons_succ, List.set_cons_zero, List.getD_cons_succ, List.getD_cons_zero]
  refine anyT_take 4 12 (by kernel_rfl) (by kernel_rfl) (by decide) rfl rfl (by kernel_rfl) (by kernel_rfl) (fun _ _ _ _ h => h) hS0 (yi_move _ _ rfl rfl rfl) ?_
  simp only [Act.put, act_eval_tmp, act_eval_const, List.setIfInBounds_toArray, List.set_cons_succ, List.set_cons_zero, List.getD_cons_succ, List.getD_cons_zero]
  refine anyT_take 5 13 (by kernel_rfl) (by kernel_rfl) (by decide) rfl rfl (by kernel_rfl) (by kernel_rfl) (fun _ _ _ _ h => h) hS0 (yi_nilCheck _ _ rfl rfl rfl) ?_
  simp only [Act.put, act_eval_tmp, act_eval_const, List.setIfInBounds_toArray, List.set_cons_succ, List.set_cons_zero, List.getD_cons_succ, List.getD_cons_zero]
  refine anyT_take 6 14 (by kernel_rfl) (by kernel_rfl) (by decide) rfl rfl (by kernel_rfl) (by kernel_rfl) (fun _ _ _ _ h => h) hS0 (yi_field 124 1 _ _ _ 1 rfl rfl rfl (by kernel_rfl)) ?_
  simp only [Act.put, act_eval_tmp, act_eval_const, List.setIfInBounds_toArray, List.set_cons_succ, List.set_cons_zero, List.getD_cons_succ, List.getD_cons_zero]
  refine anyT_take 7 15 (by kernel_rfl) (by kernel_rfl) (by decide) rfl rfl (by kernel_rfl) (by kernel_rfl) (fun _ _ _ _ h => h) hS0 (yi_load 3 _ ⟨p, 1, none⟩ (.int .i64 0) rfl rfl rfl (by kernel_rfl) (fun w hw => hw.2)) ?_
  simp only [Act.put, act_eval_tmp, act_eval_const, List.setIfInBounds_toArray, List.set_cons_succ, List.set_cons_zero, List.getD_cons_succ, List.getD_cons_zero]
  refine anyT_take 8 16 (by kernel_rfl) (by kernel_rfl) (by decide) rfl rfl (by kernel_rfl) (by kernel_rfl) (fun _ _ _ _ h => h) hS0 (yi_move _ _ rfl rfl rfl) ?_
  simp only [Act.put, act_eval_tmp, act_eval_const, List.setIfInBounds_toArray, List.set_cons_succ, List.set_cons_zero, List.getD_cons_succ, List.getD_cons_zero]
  refine anyT_take 9 17 (by kernel_rfl) (by kernel_rfl) (by decide) rfl rfl (by kernel_rfl) (by kernel_rfl) (fun _ _ _ _ h => h) hS0 (yi_move _ _ rfl rfl rfl) ?_
  simp only [Act.put, act_eval_tmp, act_eval_const, List.setIfInBounds_toArray, List.set_cons_succ, List.set_cons_zero, List.getD_cons_succ, List.getD_cons_zero]
  refine anyT_one 10 (some 18) _ 9 (by kernel_rfl) rfl rfl rfl rfl rfl ?_
  refine wp_callFn 78 #[.int .i64 (e : Int), .int .i64 (n : Int)] _ (by kernel_rfl) (hHd _ hH0 hs0) ?_
  rintro _ w1 ⟨rfl, hb1⟩
  have hl1 : LogIs B w1 p db bv rv wv L := hl0.keep (Below.sees hb1)
  have hd1 : DiskAt B w1 db D := hd0.keep (Below.sees hb1)
  have hS1 : HeldL p db w1 := hl1.held
  refine ⟨_, rfl, fun _ => hS1, ?_⟩
  simp only [Act.put, act_eval_tmp, act_eval_const, List.setIfInBounds_toArray, List.set_cons_succ, List.set_cons_zero, List.getD_cons_succ, List.getD_cons_zero]
  refine anyT_one 11 (some 19) _ 23 (by kernel_rfl) rfl rfl rfl rfl rfl ?_
  refine wp_callFn 111 #[.pointer (some ⟨db, 0, none⟩), .int .i64 0, tx l] _ (by kernel_rfl) (hW _ hd1) ?_
  rintro _ w2 ⟨rfl, hd2, hu2⟩
  have hl2 : LogIs B w2 p db bv rv wv L := hl1.keep (hu2.sees logT_disk)
  have hS2 : HeldL p db w2 := hl2.held
  refine ⟨_, rfl, fun _ => hS2, ?_⟩
  simp only [Act.put, act_eval_tmp, act_eval_const, List.setIfInBounds_toArray, List.set_cons_succ, List.set_cons_zero, List.getD_cons_succ, List.getD_cons_zero]
  refine anyT_take 12 7 (by kernel_rfl) (by kernel_rfl) (by decide) rfl rfl (by kernel_rfl) (by kernel_rfl) (fun _ _ _ _ h => h) hS2 (yi_assign _ _ rfl rfl rfl) ?_
  simp only [Act.put, act_eval_tmp, act_eval_const, List.setIfInBounds_toArray, List.set_cons_succ, List.set_cons_zero, List.getD_cons_succ, List.getD_cons_zero]
  refine anyT_done (by kernel_rfl) ?_
  have h20 := hl2.c0
  have hu02 : Upd B diskT w w2 := (Upd.of_below (((Below.refl _ w).drew).trans hb1)).trans hu2
  have HD2 := Lib.hid hd2; have HU := Lib.hid hu02
  clear hS2 hl2 hl1 hd1 hS1 hb1 hu2 hd2 hu02 hS0 hd0 hl0 hH0 hs0 hW hHd
  have hf := disk_Flush HD2.out
  by_cases hx : x = 0
  · subst hx
    have hRR := HRR.out
    rw [if_pos rfl] at hRR
    rw [← hRR] at hf
    clear hRR
    go_wp2_with (first
      | (go_at_call 83; refine hf.mono ?_; rintro _ w3 ⟨rfl, hd3, hu3⟩; have HD3 := Lib.hid hd3; have HU3 := Lib.hid hu3; clear hd3 hu3))
    go_ret
    exact ⟨rfl, HD3.out, HU.out.trans HU3.out⟩
  · have hRR := HRR.out
    rw [if_neg hx] at hRR
    subst hRR
    clear HRR
    have hb : (x != 0) = true := by simpa using hx
    go_wp2
    go_ret
    exact ⟨rfl, HD2.out, HU.out⟩
end Go.Proofs.YthbbammibdhohaaGreatDoor

namespace Go.Proofs.YthbbammibdhohaaGreatDoor
open Go.RowKit Aq Go.Rgn

theorem wpStill_bytes_text {P : Program} {ops : Array Oper} {rest : List Oper} {o : Oper} {a : Act} {w : World} {Q : Act → Prop} (hgd : o.guard = none) (src dst : TypeId) (x : Operand) (ho : o.op = .convert src dst x)
    (e : TypeId) (hs : P.underlying src = some (.slice e)) (he : P.underlying e = some (.int .u8)) (hd : P.underlying dst = some .string)
    (g off len cap : Nat) (hx : a.eval x = .slice (some ⟨g, off, none⟩) len cap) (l : Bs) (hl : l.length = len) (hc : ∀ j b, l[j]? = some b → w.cell? ⟨g, off + j, none⟩ = some (byt b))
    (h : wpStill P ops w Q rest (a.put o.dst (tx l))) : wpStill P ops w Q (o :: rest) a := by
  have hrun := run_bytes_text (P := P) w src dst e g off len cap l hs he hd hl hc
  unfold wpStill
  simp only [Region.wanted, hgd, if_true]
  unfold Oper.still
  simp [execOp, ho, hx, hrun, Result.andThen, Oper.stillUpon]
  exact h
def layAct (s0 : Nat) (all : Bs) (j : Nat) : DAct := .W (1 + (s0 + j)) ((all.drop (64 * (s0 + j))).take 64)
theorem layActs_eq (old : Nat) (all : Bs) : layActs old all = (List.range ((all.length + 63) / 64 - old / 64)).map (layAct (old / 64) all) := rfl
theorem write_pend (D : Disk) (i : Int) (s : Bs) : (D.write i s).1.pend.length ≤ D.pend.length + 1 := by
  unfold Disk.write
  have h := (Disk.does_eq D).2
  split
  · exact Nat.le_succ _
  split
  · exact Nat.le_succ _
  split
  · exact Nat.le_succ _
  split
  · simp
  · rw [h]; exact Nat.le_succ _
theorem lay_stop {D D1 : Disk} {x : Int} {old j : Nat} {all : Bs} (hj : j < (all.length + 63) / 64 - old / 64) (h : D.run ((List.range (j + 1)).map (layAct (old / 64) all)) = (D1, x)) (hx : x ≠ 0) : D.run (layActs old all ++ [.F]) = (D1, x) := by
  obtain ⟨m, hm⟩ : ∃ m, (all.length + 63) / 64 - old / 64 = (j + 1) + m := ⟨_, (Nat.add_sub_cancel' hj).symm⟩
  rw [layActs_eq, hm, List.range_add, List.map_append, List.append_assoc, Disk.run_append, h, if_neg hx]
def LayInv (B : Nat) (w : World) (p db : Nat) (bv rv wv : Value) (L : Log) (D : Disk) (s0 : Nat) (all : Bs) (v : Value) (wr : World) : Prop :=
  ∃ j : Nat, j ≤ (all.length + 63) / 64 - s0 ∧ v = .int .i64 ((64 * (s0 + j) : Nat) : Int) ∧ (D.run ((List.range j).map (layAct s0 all))).2 = 0 ∧ DiskAt B wr db (D.run ((List.range j).map (layAct s0 all))).1 ∧
    (D.run ((List.range j).map (layAct s0 all))).1.pend.length ≤ D.pend.length + j ∧ LogIs B wr p db bv rv wv L ∧ Upd B diskT w wr
set_option maxHeartbeats 2000000 in
set_option maxRecDepth 100000 in
theorem log_lay {B : Nat} {w : World} {p db : Nat} {bv rv wv : Value} {L : Log} {D : Disk} (hl : LogIs B w p db bv rv wv L) (hd : DiskAt B w db D) (a : Option Addr) (c : Nat) (all : Bs)
    (hr : RowIs B w 5 (.slice a all.length c) (all.map byt)) (hc : all.length ≤ c) (hmax : all.length ≤ 4294967296) (hlen : L.bytes.length ≤ all.length) (hp : D.pend.length + all.length < 4294967296) :
    Calls Tryz.prog 97 #[.pointer (some ⟨p, 0, none⟩), .slice a all.length c] w (DiskPost B w db (D.run (layActs L.bytes.length all ++ [.F]))) := by
  have h4 := hl.c4
  obtain ⟨ba, bc, hbv, _⟩ := hl.bytes
  rw [List.length_map] at hbv
  rw [hbv] at h4
  obtain ⟨R, hR⟩ : ∃ R, R = D.run (layActs L.bytes.length all ++ [.F]) := ⟨_, rfl⟩
  rw [← hR]
  have HR := Lib.hid hR; have HBV := Lib.hid hbv
  have HL := Lib.hid hl; have HD := Lib.hid hd
  clear hR hbv hl hd
  obtain ⟨s0, hs0⟩ : ∃ s0, s0 = L.bytes.length / 64 := ⟨_, rfl⟩
  have hat : (L.bytes.length : Int) / 64 * 64 = ((64 * (s0 + 0) : Nat) : Int) := by omega
  have hsl : s0 ≤ (all.length + 63) / 64 := by omega
  have HSL := Lib.hid hsl; have HS0 := Lib.hid hs0; have HAT := Lib.hid hat
  clear hs0 hat hsl
  go_enter Tryz.func97, Tryz.ntmps97
  go_wp2
  go_loopw [5] (fun v wr => LayInv B w p db bv rv wv L D s0 all v wr) (fun v _ => all.length - (intOf v).toNat)
  case atStart =>
    rw [HAT.out]
    exact ⟨0, Nat.zero_le _, rfl, rfl, HD.out, Nat.le_refl _, HL.out, .refl _ _ _⟩
  case round =>
    obtain ⟨j, hj, rfl, hj0, hdj, hpj, hlj, huj⟩ := hrel
    have hrj : RowIs B wr 5 (.slice a all.length c) (all.map byt) := hr.sees (huj.sees logT_disk) rfl
    have h0 := hlj.c0; have h1 := hlj.c1; have h4j := hlj.c4
    rw [HBV.out] at h4j
    have HDJ := Lib.hid hdj; have HPJ := Lib.hid hpj; have HLJ := Lib.hid hlj; have HUJ := Lib.hid huj; have HJ0 := Lib.hid hj0; have HRJ := Lib.hid hrj
    clear hdj hpj hlj huj hj0 hrj
    obtain ⟨at_, hat⟩ : ∃ at_, at_ = 64 * (s0 + j) := ⟨_, rfl⟩
    rw [← hat]
    by_cases hjl : at_ < all.length
    · have g1 : (at_ : Int) < (all.length : Int) := by omega
      obtain ⟨n, hn⟩ : ∃ n : Nat, min ((at_ : Int) + 64) (all.length : Int) = ((at_ + n : Nat) : Int) := ⟨min 64 (all.length - at_), by omega⟩
      have hn64 : n ≤ 64 := by omega
      have hfit : at_ + n ≤ all.length := by omega
      have g2 : (at_ : Int) ≤ ((at_ + n : Nat) : Int) := by omega
      have g3 : ((at_ + n : Nat) : Int) ≤ (all.length : Int) := by omega
      have g4 : (all.length : Int) ≤ (c : Int) := by omega
      have HN := Lib.hid hn; have HAT2 := Lib.hid hat
      clear hat
      obtain ⟨g, rfl, _⟩ := HRJ.out.cell (t := 0) (u := byt (all[0]'(by omega))) (by rw [List.getElem?_map, List.getElem?_eq_getElem (by omega)]; rfl)
      have hcell : ∀ t b, ((all.drop at_).take n)[t]? = some b → wr.drew.cell? ⟨g, at_ + t, none⟩ = some (byt b) := by
        intro t b hb
        have ht : t < n := by have := (List.getElem?_eq_some_iff.1 hb).1; rw [List.length_take] at this; omega
        rw [List.getElem?_take_of_lt ht, List.getElem?_drop] at hb
        obtain ⟨g', hg', hc'⟩ := HRJ.out.cell (t := at_ + t) (u := byt b) (by rw [List.getElem?_map, hb]; rfl)
        injection hg' with hg'; injection hg' with hg'; subst hg'
        exact hc'
      have hln : ((all.drop at_).take n).length = n := by rw [List.length_take, List.length_drop]; omega
      have HC := Lib.hid hcell; have HLN := Lib.hid hln
      clear hcell hln
      have hdr : DiskAt B wr.drew db (D.run ((List.range j).map (layAct s0 all))).1 := HDJ.out.keep (Below.sees ((Below.refl _ wr).drew))
      have hW := disk_Write hdr ((1 + (s0 + j) : Nat) : Int) ⟨((all.drop at_).take n).toArray⟩ (by have := HPJ.out; have := HSL.out; omega)
      have hq : (1 : Int) + (at_ : Int) / 64 = ((1 + (s0 + j) : Nat) : Int) := by have := HAT2.out; omega
      have HQ := Lib.hid hq
      clear hq hdr
      go_wp2
      refine wp_region_still_tail 14 (by kernel_rfl) (by kernel_rfl) ?_
      simp only [List.take_succ_cons, List.take_zero, List.drop_succ_cons, List.drop_zero]
      change wpStill _ _ wr.drew _ _ _
      iterate 13 still_step
      refine wpStill_bytes_text rfl 122 9 (.tmp 43) rfl 5 Tryz.underlying122 Tryz.underlying5 Tryz.underlying9 g at_ _ _ rfl ((all.drop at_).take n) HLN.out HC.out ?_
      refine wpStill_nil ?_
      obtain ⟨r, hr2⟩ : ∃ r, r = (D.run ((List.range j).map (layAct s0 all))).1.write ((1 + (s0 + j) : Nat) : Int) ((all.drop at_).take n) := ⟨_, rfl⟩
      have hW' : Calls Tryz.prog 111 #[.pointer (some ⟨db, 0, none⟩), .int .i64 (1 + (at_ : Int) / 64), tx ((all.drop at_).take n)] wr.drew (DiskPost B wr.drew db r) := by rw [HQ.out, hr2]; exact hW
      have hstep : D.run ((List.range (j + 1)).map (layAct s0 all)) = r := by
        rw [List.range_succ, List.map_append, Disk.run_append, if_pos HJ0.out, List.map_cons, List.map_nil, Disk.run_one, hr2, HAT2.out]
        show Disk.write _ _ _ = _
        congr 1
        have hn2 := HN.out
        rw [HAT2.out] at hn2
        by_cases h64 : n = 64
        · rw [h64]
        · rw [List.take_of_length_le (by rw [List.length_drop]; omega), List.take_of_length_le (by rw [List.length_drop]; omega)]
      obtain ⟨D1, x⟩ := r
      have hpl : D1.pend.length ≤ D.pend.length + (j + 1) := by
        have h1 := HPJ.out
        have h2 := write_pend (D.run ((List.range j).map (layAct s0 all))).1 ((1 + (s0 + j) : Nat) : Int) ((all.drop at_).take n)
        rw [← hr2] at h2
        have h3 : D1.pend.length ≤ _ := h2
        omega
      have HR2 := Lib.hid hr2; have HST := Lib.hid hstep; have HPL := Lib.hid hpl
      clear hW hr2 hstep hpl
      have hdone : ∀ w', DiskPost B wr.drew db (D1, x) (.returned (.int .i64 x)) w' → DiskAt B w' db D1 ∧ LogIs B w' p db bv rv wv L ∧ Upd B diskT w w' := fun w' h =>
        ⟨h.2.1, HLJ.out.keep (fun k o hB hk ht => (h.2.2.sees logT_disk) k o hB hk ht), HUJ.out.trans ((Upd.of_below ((Below.refl _ wr).drew)).trans h.2.2)⟩
      have hjk : j < (all.length + 63) / 64 - s0 := by have := HAT2.out; omega
      by_cases hx : x = 0
      · subst hx
        have hinv : ∀ w', DiskPost B wr.drew db (D1, 0) (.returned (.int .i64 0)) w' → LayInv B w p db bv rv wv L D s0 all (.int .i64 ((at_ : Int) + 64)) w' := fun w' h => by
          obtain ⟨h1, h2, h3⟩ := hdone w' h
          refine ⟨j + 1, hjk, congrArg (Value.int .i64) (by have := HAT2.out; omega), ?_, ?_, ?_, h2, h3⟩
          · rw [HST.out]
          · rw [HST.out]; exact h1
          · rw [HST.out]; exact HPL.out
        clear hdone
        change wpList _ _ _ _ _ wr.drew
        go_wp2_with (first
          | (go_at_call 111; refine hW'.mono ?_; rintro e w1 ⟨rfl, hd1⟩; have HIV := Lib.hid (hinv w1 ⟨rfl, hd1⟩); clear hd1))
        go_roundw
        case rel => exact HIV.out
        case measure => simp [intOf]; omega
      · have hb : (x != 0) = true := by simpa using hx
        have hfin : ∀ w', DiskPost B wr.drew db (D1, x) (.returned (.int .i64 x)) w' → DiskPost B w db R (.returned (.int .i64 x)) w' := fun w' h => by
          obtain ⟨h1, h2, h3⟩ := hdone w' h
          have hs0' := HS0.out
          rw [hs0'] at hjk HST
          rw [HR.out, lay_stop hjk HST.out hx]
          exact ⟨rfl, h1, h3⟩
        clear hdone
        change wpList _ _ _ _ _ wr.drew
        go_wp2_with (first
          | (go_at_call 111; refine hW'.mono ?_; rintro e w1 ⟨rfl, hd1⟩; have HIV := Lib.hid (hfin w1 ⟨rfl, hd1⟩); clear hd1))
        go_ret
        exact HIV.out
    · have hjk : j = (all.length + 63) / 64 - s0 := by omega
      have hR : R = (D.run ((List.range j).map (layAct s0 all))).1.flush := by
        rw [HR.out, layActs_eq, Disk.run_append, ← HS0.out, ← hjk, if_pos HJ0.out, Disk.run_one]; rfl
      have hf := disk_Flush HDJ.out
      rw [← hR] at hf
      clear hR hjk hat
      go_wp2_with (first
        | (go_at_call 83; refine hf.mono ?_; rintro _ w3 ⟨rfl, hd3, hu3⟩; have HD3 := Lib.hid hd3; have HU3 := Lib.hid hu3; clear hd3 hu3))
      go_ret
      exact ⟨rfl, HD3.out, HUJ.out.trans HU3.out⟩
end Go.Proofs.YthbbammibdhohaaGreatDoor

namespace Go.Proofs.YthbbammibdhohaaGreatDoor
open Go.RowKit Aq Go.Rgn

theorem Tryz.info_u8b : (Tryz.prog.info? 5).map (fun i => (i.zero, i.size, i.bytes)) = some (some (.int .u8 0), 1, 1) := by kernel_rfl
def ClonePost (w : World) (e n : Nat) (xs : List Value) (x : Ending) (w' : World) : Prop := ∃ v', x = .returned v' ∧ w'.ownsRow w.heap.size e 1 v' n xs ∧ Below w.heap.size w w'
theorem RowIs.get {B : Nat} {w : World} {e : Nat} {xs : List Value} {ad : Addr} {n c : Nat} (h : RowIs B w e (.slice (some ad) n c) xs) : xs.length = n ∧ ∀ j u, xs[j]? = some u → w.cell? (ad.add j) = some u := by
  obtain ⟨a', c', hv, _⟩ := id h
  injection hv with h1 h2 h3
  refine ⟨h2.symm, fun j u hu => ?_⟩
  obtain ⟨g, hg, hc⟩ := h.cell hu
  injection hg with hg; subst hg
  rw [Addr.add_here, Nat.zero_add]; exact hc
theorem RowIs.nil_of {B : Nat} {w : World} {e : Nat} {xs : List Value} {n c : Nat} (h : RowIs B w e (.slice none n c) xs) : xs = [] ∧ n = 0 := by
  obtain ⟨a, c', hv, h⟩ := h
  injection hv with h1 h2 h3
  rcases h with h | ⟨g, cur, ha, _⟩
  · exact ⟨h, by rw [h2, h]; rfl⟩
  · rw [← h1] at ha; cases ha
set_option maxHeartbeats 1000000 in
set_option maxRecDepth 100000 in
theorem clone_bytes {B : Nat} {w : World} (a : Option Addr) (n c : Nat) (xs : List Value) (hr : RowIs B w 5 (.slice a n c) xs) (hn : n ≤ 4294967296) (h1 : ∀ u ∈ xs, u.oneCell' = true) :
    Calls Tryz.prog 94 #[.slice a n c] w (ClonePost w 5 n xs) := by
  obtain ⟨i0, hin, hz0, hz1, hz2⟩ := info_parts Tryz.info_u8b
  have HIN := Lib.hid hin; have HZ0 := Lib.hid hz0; have HZ1 := Lib.hid hz1; have HZ2 := Lib.hid hz2
  clear hin hz0 hz1 hz2
  have q24 : ∀ (w : World) (a : Option Addr) (n c n' c' : Nat), (binOp .eql 122 (.slice a n c) (.slice none n' c')).run Tryz.prog w = .ok (.bool a.isNone) w := fun w a n c n' c' => Lib.run_eql_slice_nil w _ _ a n c n' c' Tryz.underlying122
  cases a with
  | none =>
    obtain ⟨rfl, rfl⟩ := hr.nil_of
    go_enter Tryz.func94, Tryz.ntmps94
    go_wp2
    go_ret
    exact ⟨_, rfl, World.ownsRow_nil _ _ _ _, Below.refl _ _⟩
  | some ad =>
    obtain ⟨hl, hc⟩ := hr.get
    have HL := Lib.hid hl; have HC := Lib.hid hc; have H1 := Lib.hid h1
    clear hl hc hr h1
    go_enter Tryz.func94, Tryz.ntmps94
    go_wp2_with (at_builtin; refine wpList_append_own _ rfl _ _ 122 rfl w.heap.size 5 i0 _ 1 1 Tryz.underlying122 HIN.out HZ0.out HZ1.out HZ2.out rfl (by decide) _ _ _ rfl (World.ownsRow_made w #[] 0 (Nat.le_refl _) (Nat.zero_le _) rfl) ad n c xs rfl ?qc1 ?qc2 H1.out ?qc4 ?qc5 ?qc6 ?_)
    case qc1 => rw [Nat.mul_one]; exact HL.out
    case qc2 => intro j u hj; exact Lib.cell?_alloc_some _ (HC.out j u hj)
    case qc4 => unfold maxLen; omega
    case qc5 => omega
    case qc6 => simp
    intro v' w1 hown hgrow hnil
    have HO := Lib.hid hown; have HG := Lib.hid hgrow
    clear hown hgrow hnil
    go_wp2
    go_ret
    refine ⟨v', rfl, by simpa using HO.out, ?_⟩
    exact ((Below.refl _ w).alloc (Nat.le_refl _) _).grown HG.out (by simp) (by intro k hk; simp [Value.ownBlock] at hk; omega)
set_option maxHeartbeats 1000000 in
set_option maxRecDepth 100000 in
theorem clone_strings {B : Nat} {w : World} (a : Option Addr) (n c : Nat) (xs : List Value) (hr : RowIs B w 9 (.slice a n c) xs) (hn : n ≤ 4294967296) (h1 : ∀ u ∈ xs, u.oneCell' = true) :
    Calls Tryz.prog 81 #[.slice a n c] w (ClonePost w 9 n xs) := by
  obtain ⟨i0, hin, hz0, hz1, hz2⟩ := info_parts Tryz.info_str
  have HIN := Lib.hid hin; have HZ0 := Lib.hid hz0; have HZ1 := Lib.hid hz1; have HZ2 := Lib.hid hz2
  clear hin hz0 hz1 hz2
  have q24 : ∀ (w : World) (a : Option Addr) (n c n' c' : Nat), (binOp .eql 91 (.slice a n c) (.slice none n' c')).run Tryz.prog w = .ok (.bool a.isNone) w := fun w a n c n' c' => Lib.run_eql_slice_nil w _ _ a n c n' c' Tryz.underlying91
  cases a with
  | none =>
    obtain ⟨rfl, rfl⟩ := hr.nil_of
    go_enter Tryz.func81, Tryz.ntmps81
    go_wp2
    go_ret
    exact ⟨_, rfl, World.ownsRow_nil _ _ _ _, Below.refl _ _⟩
  | some ad =>
    obtain ⟨hl, hc⟩ := hr.get
    have HL := Lib.hid hl; have HC := Lib.hid hc; have H1 := Lib.hid h1
    clear hl hc hr h1
    go_enter Tryz.func81, Tryz.ntmps81
    go_wp2_with (at_builtin; refine wpList_append_own _ rfl _ _ 91 rfl w.heap.size 9 i0 _ 1 16 Tryz.underlying91 HIN.out HZ0.out HZ1.out HZ2.out rfl (by decide) _ _ _ rfl (World.ownsRow_made w #[] 0 (Nat.le_refl _) (Nat.zero_le _) rfl) ad n c xs rfl ?qc1 ?qc2 H1.out ?qc4 ?qc5 ?qc6 ?_)
    case qc1 => rw [Nat.mul_one]; exact HL.out
    case qc2 => intro j u hj; exact Lib.cell?_alloc_some _ (HC.out j u hj)
    case qc4 => unfold maxLen; omega
    case qc5 => omega
    case qc6 => simp
    intro v' w1 hown hgrow hnil
    have HO := Lib.hid hown; have HG := Lib.hid hgrow
    clear hown hgrow hnil
    go_wp2
    go_ret
    refine ⟨v', rfl, by simpa using HO.out, ?_⟩
    exact ((Below.refl _ w).alloc (Nat.le_refl _) _).grown HG.out (by simp) (by intro k hk; simp [Value.ownBlock] at hk; omega)
/-- an own row can be read -/
theorem RowIs.of_owns {B : Nat} {w : World} {e n : Nat} {v : Value} {xs : List Value} (h : w.ownsRow B e 1 v n xs) : RowIs B w e v xs := by
  obtain ⟨hl, h⟩ := h
  rw [Nat.mul_one] at hl
  rcases h with ⟨rfl, hn⟩ | ⟨g, cap, cur, rfl, hB, hg, _, _, _, ht⟩
  · refine ⟨none, 0, by rw [hl, hn], .inl (List.eq_nil_of_length_eq_zero (by rw [hl, hn]))⟩
  · refine ⟨_, cap, by rw [hl], .inr ⟨g, cur, rfl, hB, hg, fun t u hu => ?_⟩⟩
    have htl : t < xs.length := (List.getElem?_eq_some_iff.1 hu).1
    rw [← ht, List.getElem?_take_of_lt (by omega)] at hu
    rw [← Array.getElem?_toList]; exact hu
end Go.Proofs.YthbbammibdhohaaGreatDoor

namespace Go.Proofs.YthbbammibdhohaaGreatDoor
open Go.RowKit Aq Go.Rgn

theorem RowIs.shape {B : Nat} {w : World} {e : Nat} {v : Value} {xs : List Value} (h : RowIs B w e v xs) : ∃ a c, v = .slice a xs.length c := let ⟨a, c, hv, _⟩ := h; ⟨a, c, hv⟩
theorem owns_shape {B : Nat} {w : World} {e n : Nat} {v : Value} {xs : List Value} (h : w.ownsRow B e 1 v n xs) : ∃ a c, v = .slice a n c := by
  rcases h.2 with ⟨rfl, rfl⟩ | ⟨g, cap, cur, rfl, _⟩ <;> exact ⟨_, _, rfl⟩
def IntPost (w : World) (k : IntKind) (x : Int) (e : Ending) (w' : World) : Prop := e = .returned (.int k x) ∧ Below w.heap.size w w'
set_option maxHeartbeats 1000000 in
set_option maxRecDepth 100000 in
theorem log_Room {B : Nat} {w : World} {p db : Nat} {bv rv wv : Value} {L : Log} (h : LogIs B w p db bv rv wv L) (hw : L.wait = []) :
    Calls Tryz.prog 55 #[.pointer (some ⟨p, 0, none⟩)] w (IntPost w .i64 ((64 * (L.n - 1) - L.bytes.length : Nat) : Int)) := by
  have h0 := h.c0; have h2 := h.c2; have h4 := h.c4; have h6 := h.c6
  obtain ⟨ba, bc, rfl⟩ := h.bytes.shape
  obtain ⟨wa, wc, rfl⟩ := owns_shape h.wait
  rw [List.length_map] at h4
  rw [hw] at h6
  have hok := h.ok
  have e1 : (64 : Int) * ((L.n : Int) - 1) - (L.bytes.length : Int) = ((64 * (L.n - 1) - L.bytes.length : Nat) : Int) := by have := hok.n2; have := hok.fits; omega
  have g1 : (1 : Int) ≤ (L.n : Int) := by have := hok.n2; omega
  have g2 : (L.n : Int) ≤ 65536 := by have := hok.nmax; omega
  have g3 : (L.bytes.length : Int) ≤ 64 * ((L.n : Int) - 1) := by have := hok.n2; have := hok.fits; omega
  have E := Lib.hid e1
  clear h hok e1 hw
  go_enter Tryz.func55, Tryz.ntmps55
  go_wp2_with (go_at_call 80; refine (log_none h0).mono ?_; rintro e w' ⟨rfl, rfl⟩)
  go_quiet (fail)
  go_wp2
  go_loopw [3, 25] (fun u v wr => v = .int .i64 0 ∧ wr = w.drewN nq ∧ u = .int .i64 (64 * ((L.n : Int) - 1) - (L.bytes.length : Int))) (fun _ v _ => 0)
  case atStart => exact ⟨rfl, rfl, rfl⟩
  case round =>
    obtain ⟨rfl, rfl, rfl⟩ := hrel
    go_wp2
    go_ret
    exact ⟨congrArg (fun x => Ending.returned (.int .i64 x)) E.out, ⟨rfl, rfl, rfl, Nat.le_refl _, fun _ _ => rfl⟩⟩
def BoolPost (w : World) (x : Bool) (e : Ending) (w' : World) : Prop := e = .returned (.bool x) ∧ Below w.heap.size w w'
def RecsPost (w : World) (e n : Nat) (xs : List Value) (x : Ending) (w' : World) : Prop := ∃ v', x = .returned v' ∧ w'.ownsRow w.heap.size e 1 v' n xs ∧ Below w.heap.size w w'
theorem txs_one (ls : List Bs) : ∀ u ∈ txs ls, u.oneCell' = true := by
  intro u hu; simp only [txs, List.mem_map] at hu; obtain ⟨x, _, rfl⟩ := hu; rfl
theorem byt_one (ls : Bs) : ∀ u ∈ ls.map byt, u.oneCell' = true := by
  intro u hu; simp only [List.mem_map] at hu; obtain ⟨x, _, rfl⟩ := hu; rfl
theorem txs_len (ls : List Bs) : (txs ls).length = ls.length := by simp [txs]
set_option maxHeartbeats 1000000 in
theorem log_Records {B : Nat} {w : World} {p db : Nat} {bv rv wv : Value} {L : Log} (h : LogIs B w p db bv rv wv L) :
    Calls Tryz.prog 42 #[.pointer (some ⟨p, 0, none⟩)] w (ClonePost w 9 L.recs.length (txs L.recs)) := by
  have h0 := h.c0; have h5 := h.c5
  have hr := RowIs.of_owns h.recs
  obtain ⟨ra, rc, rfl⟩ := owns_shape h.recs
  have hc := clone_strings ra L.recs.length rc (txs L.recs) hr (by have := h.ok.few; have := h.ok.fits; have := h.ok.nmax; omega) (txs_one _)
  have HC := Lib.hid hc
  clear h hr hc
  go_enter Tryz.func42, Tryz.ntmps42
  go_wp2_with (first
    | (go_at_call 80; refine (log_none h0).mono ?_; rintro e w' ⟨rfl, rfl⟩)
    | (go_at_call 81; refine HC.out.mono ?_; rintro e w1 ⟨v', rfl, hown, hb⟩; have HO := Lib.hid hown; have HB := Lib.hid hb; clear hown hb))
  go_ret
  exact ⟨v', rfl, HO.out, HB.out⟩
def AddPost (B : Nat) (w : World) (p db : Nat) (bv rv : Value) (L : Log) (e : Ending) (w' : World) : Prop :=
  e = .returned (.int .i64 0) ∧ (∃ wv, LogIs B w' p db bv rv wv L) ∧ Upd B logT w w'
theorem owns_block {B : Nat} {w : World} {e size n : Nat} {v : Value} {xs : List Value} (h : w.ownsRow B e size v n xs) {g : Nat} (hg : v.ownBlock = some g) : B ≤ g ∧ g < w.heap.size := h.lt g hg
theorem ownsRow_low {B C : Nat} {w : World} {e size n : Nat} {v : Value} {xs : List Value} (h : w.ownsRow C e size v n xs) (hB : B ≤ C) : w.ownsRow B e size v n xs :=
  ⟨h.1, h.2.imp id fun ⟨g, cap, cur, hv, hg, r⟩ => ⟨g, cap, cur, hv, Nat.le_trans hB hg, r⟩⟩
theorem log_ne {a b : Nat} {o : Obj} {w : World} {cs : Array Value} {t : Nat} {fr : Nat × Nat} (ha : w.heap[a]? = some o) (hb : w.heap[b]? = some (.cells cs t fr)) (ht : tag o ≠ t) : a ≠ b := by
  rintro rfl; rw [hb] at ha; injection ha with ha; subst ha; exact ht rfl
set_option maxHeartbeats 1000000 in
set_option maxRecDepth 100000 in
theorem log_Add {B : Nat} {w : World} {p db : Nat} {bv rv : Value} {L : Log} (h : LogIs B w p db bv rv (.slice none 0 0) L) (hw : L.wait = []) (hlo : L.lost = false) (s : ByteArray) (hs : s.size ≤ 65536)
    (hroom : 8 + s.size ≤ 64 * (L.n - 1) - L.bytes.length) :
    Calls Tryz.prog 57 #[.pointer (some ⟨p, 0, none⟩), .string s] w (AddPost B w p db bv rv { L with wait := [s.data.toList] }) := by
  have hup := log_up h.c0 h.c7
  rw [hlo] at hup
  simp only [Bool.false_eq_true, if_false] at hup
  have hRoom := log_Room h hw
  obtain ⟨rm, hrm⟩ : ∃ rm, rm = 64 * (L.n - 1) - L.bytes.length := ⟨_, rfl⟩
  rw [← hrm] at hRoom hroom
  have g1 : ¬ (65536 < (s.size : Int)) := by omega
  have g2 : (8 : Int) + (s.size : Int) ≤ (rm : Int) := by omega
  obtain ⟨i0, hin, hz0, hz1, hz2⟩ := info_parts Tryz.info_str
  have HIN := Lib.hid hin; have HZ0 := Lib.hid hz0; have HZ1 := Lib.hid hz1; have HZ2 := Lib.hid hz2
  have H := Lib.hid h; have HW := Lib.hid hw
  clear hin hz0 hz1 hz2 h hw hrm hlo
  go_enter Tryz.func57, Tryz.ntmps57
  go_wp2_with (first
    | (go_at_call 93; refine hup.mono ?_; rintro e w' ⟨rfl, rfl⟩)
    | (go_at_call 55; refine hRoom.mono ?_; rintro e w1 ⟨rfl, hb⟩; have h6 := (H.out.keep (Below.sees hb)).c6; have HB := Lib.hid hb; clear hb)
    | (at_builtin; refine wpList_append_own _ rfl (.tmp 26) (.tmp 28) 91 rfl w1.heap.size 9 i0 _ 1 16 Tryz.underlying91 HIN.out HZ0.out HZ1.out HZ2.out rfl (by decide) (.slice none 0 0) 0 [] rfl (World.ownsRow_nil _ _ _ _) ⟨w1.heap.size, 0, none⟩ 1 1 [tx s.data.toList] rfl rfl ?qc2 ?qc3 ?qc4 ?qc5 ?qc6 ?_))
  case qc2 =>
    intro t u hu
    match t, hu with
    | 0, hu =>
      simp only [List.getElem?_cons_zero, Option.some.injEq] at hu
      subst hu
      rw [Addr.add_here]
      exact cellAt (heap_alloc_new w1 _) 0 _ rfl
  case qc3 => intro u hu; rw [List.mem_singleton.1 hu]; rfl
  case qc4 => unfold maxLen; omega
  case qc5 => omega
  case qc6 => simp
  intro v' w2 hown hgrow hnil
  obtain ⟨va, vc, rfl⟩ := owns_shape hown
  have h1 : LogIs B w1 p db bv rv (.slice none 0 0) L := H.out.keep (Below.sees HB.out)
  have hb12 : Below w1.heap.size w1 w2 := ((Below.refl _ w1).alloc (Nat.le_refl _) _).grown hgrow (by simp) (by intro k hk; simp [Value.ownBlock] at hk)
  have h2 : LogIs B w2 p db bv rv (.slice none 0 0) L := h1.keep (Below.sees hb12)
  have hBs : B ≤ w1.heap.size := Nat.le_trans h1.hp (Nat.le_of_lt (lt_of_some h1.head))
  have hown2 : w2.ownsRow B 9 1 (.slice va (0 + 1) vc) 1 (txs [s.data.toList]) := ownsRow_low hown hBs
  have hfin : LogIs B (w2.setCell ⟨p, 6, none⟩ (.slice va (0 + 1) vc)) p db bv rv (.slice va (0 + 1) vc) { L with wait := [s.data.toList] } := by
    refine h2.field 6 (.slice va (0 + 1) vc) bv rv (.slice va (0 + 1) vc) { L with wait := [s.data.toList] } rfl h2.bytes h2.recs hown2 (fun g hg hv => ?_) ⟨h2.ok.n2, h2.ok.nmax, h2.ok.epoch, h2.ok.fits, h2.ok.few, Nat.le_refl _, fun r hr => ?_⟩
    · have h3 := owns_block h1.recs hg
      have h4 := owns_block hown hv
      omega
    · rw [List.mem_singleton.1 hr]; exact hs
  have hupd : Upd B logT w (w2.setCell ⟨p, 6, none⟩ (.slice va (0 + 1) vc)) := h2.updHead (.trans (.of_below HB.out) (.of_below hb12)) rfl 6 _
  have h62 := h2.c6; have f62 := h2.fr 6
  have HF := Lib.hid hfin; have HU := Lib.hid hupd
  clear hfin hupd h2 h1 hb12 hown hown2 hgrow hnil hBs
  go_wp2
  go_ret
  exact ⟨rfl, ⟨_, HF.out⟩, HU.out⟩
end Go.Proofs.YthbbammibdhohaaGreatDoor
