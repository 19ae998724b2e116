/- A drawn region whose head (its first n operations) is walked in the order of the text: what reads is taken first under a condition S on the world, which need hold behind the head's operations alone; the tail waits for all of the head. No condition. The base of the walks: one relation between worlds, rules for whole structs and arrays in memory, strings and bytes. No condition. The pure model of the disk (layer 7): plain Lean, no program. No condition. The disk in memory: its words. No condition. The disk's small functions: none, up, is, does, Size, Down, Off, Arm. No condition. -/
import Derived.OrdersHeld
import Derived.KernelRfl
import Derived.Test.YthbbammibdhohaaGreatDoorProg
import Derived.WalkKit
import Derived.WalkLawsBesides
import Derived.WalkSpells
import Derived.Outline
import Derived.Lib.Hide
import Derived.Deep.QuietTactic
import Derived.BigQuiet
import Derived.BigRegion
import Derived.Laws.CopyOwn
import Derived.Laws.BytesArg
set_option linter.unusedSimpArgs false
set_option linter.unusedVariables false
namespace Go.Rgn
open Go
section
variable {P : Program} {ops : Array Oper} {Q : Exit → Act → World → Prop} {S : World → Prop} {n : Nat}

/-- each operation from n on waits for each one ahead of n, by an edge of its own -/
def tailB (ops : Array Oper) (n : Nat) : Bool :=
  (List.range ops.size).all fun j => decide (j < n) || (List.range n).all fun i => match ops[j]? with
    | some o => o.after.any fun e => Region.binds .any e && e.on == i
    | none => false
theorem tailB_spec (hT : tailB ops n = true) {j i : Nat} (hj : n ≤ j) (hjs : j < ops.size) (hi : i < n) : ∃ oj, ops[j]? = some oj ∧ ∃ e ∈ oj.after, Region.binds .any e = true ∧ e.on = i := by
  have h1 := List.all_eq_true.1 hT j (List.mem_range.2 hjs)
  rw [Bool.or_eq_true] at h1
  rcases h1 with h1 | h1
  · have := of_decide_eq_true h1; omega
  have h2 := List.all_eq_true.1 h1 i (List.mem_range.2 hi)
  cases hoj : ops[j]? with
  | none => rw [hoj] at h2; cases h2
  | some oj =>
    rw [hoj] at h2
    obtain ⟨e, he, hb⟩ := Array.any_eq_true'.1 h2
    rw [Bool.and_eq_true, beq_iff_eq] at hb
    exact ⟨oj, rfl, e, he, hb.1, hb.2⟩

def anyT (P : Program) (ops : Array Oper) (Q : Exit → Act → World → Prop) (S : World → Prop) (n : Nat) : Nat → Array Bool → Act → World → Prop
  | 0, lst, a, w => Region.ready .any ops lst = [] ∧ Q .normal a w
  | f + 1, lst, a, w => (Region.ready .any ops lst = [] → Q .normal a w) ∧
      ∀ i, i ∈ Region.ready .any ops lst → wpOp P ops Q i (fun a' w' => (i < n → S w') ∧ anyT P ops Q S n f (lst.setIfInBounds i true) a' w') a w

theorem any_of_anyT : ∀ (f : Nat) (lst : Array Bool) (a : Act) (w : World), anyT P ops Q S n f lst a w → wpAny P .any ops Q f lst a w := by
  intro f
  induction f with
  | zero => intro lst a w h; exact h
  | succ f ih => intro lst a w h; exact ⟨h.1, fun i hi => wpOp_mono (fun a' w' hk => ih _ a' w' hk.2) (h.2 i hi)⟩

theorem done_of_waits {lst : Array Bool} {i j : Nat} {oj : Oper} (hi : lst.getD i true = false) (hall : ∀ e ∈ oj.after, Region.binds .any e = true → lst.getD e.on false = true) : ∀ e ∈ oj.after, Region.binds .any e = true → e.on ≠ i := by
  intro e he hb heq
  have h1 := hall e he hb
  subst heq
  rcases Nat.lt_or_ge e.on lst.size with hl | hl
  · simp only [Array.getD_eq_getD_getElem?, Array.getElem?_eq_getElem hl, Option.getD_some] at hi h1
    rw [hi] at h1; cases h1
  · simp [Array.getElem?_eq_none hl] at h1

theorem anyT_first {i : Nat} {oi : Oper} {v : Value} (hi : ops[i]? = some oi) (hin : i < n) (hT : tailB ops n = true) (hsel : ∀ (j : Nat) (o : Oper) cs b, ops[j]? = some o → o.op ≠ .select cs b)
    (hQ : ∀ c a w, Q (.panic c) (a.put oi.dst v) w → Q (.panic c) a w) (f : Nat) : ∀ (lst : Array Bool) (a : Act) (w : World),
      (∀ j oj, ops[j]? = some oj → j ≠ i → lst.getD j true = false → (∀ e ∈ oj.after, Region.binds .any e = true → e.on ≠ i) → oi.apart ops oj = true) →
      i ∈ Region.ready .any ops lst → YieldsIf P ops S oi v a → S w →
      anyT P ops Q S n f (lst.setIfInBounds i true) (a.put oi.dst v) w → anyT P ops Q S n (f + 1) lst a w := by
  induction f with
  | zero =>
    intro lst a w _ hr hy hS H
    refine ⟨fun h => absurd hr (by rw [h]; exact List.not_mem_nil), fun j hj => ?_⟩
    by_cases e : j = i
    · subst e; exact hy.wpOp hi hS ⟨fun _ => hS, H⟩
    · exact absurd (ready_mono hj e) (by rw [H.1]; exact List.not_mem_nil)
  | succ f ih =>
    intro lst a w hfree hr hy hS H
    refine ⟨fun h => absurd hr (by rw [h]; exact List.not_mem_nil), fun j hj => ?_⟩
    by_cases e : j = i
    · subst e; exact hy.wpOp hi hS ⟨fun _ => hS, H⟩
    obtain ⟨hju, oj, hoj, hall⟩ := mem_ready.1 hj
    have hno := done_of_waits (j := j) (mem_ready.1 hr).1 hall
    have hjn : j < n := by
      rcases Nat.lt_or_ge j n with h | h
      · exact h
      · obtain ⟨o', ho', e', he', hb', hon⟩ := tailB_spec hT h (Array.getElem?_eq_some_iff.1 hoj).1 hin
        rw [hoj] at ho'; injection ho' with ho'; subst ho'
        exact absurd hon (hno e' he' hb')
    have h2 := wpOp_putIf (S := S) hoj (hfree j oj hoj e hju hno) (fun cs b => hsel i oi cs b hi) (fun cs b => hsel j oj cs b hoj) hQ hy (H.2 j (ready_mono hj e))
    refine wpOp_mono (fun a' w' hk => ?_) h2
    obtain ⟨hy', hs', hk'⟩ := hk
    refine ⟨fun _ => hs' hjn, ih (lst.setIfInBounds j true) a' w' (fun k ok hk hki hun hnk => ?_) (ready_mono hr (Ne.symm e)) hy' (hs' hjn) ?_⟩
    · refine hfree k ok hk hki ?_ hnk
      by_cases hjk : j = k
      · subst hjk; exact hju
      · rw [getD_set_ne true hjk] at hun; exact hun
    · rw [Array.setIfInBounds_comm _ _ e]; exact hk'

/-- take operation i first -/
theorem anyT_take (i d : Nat) {oi : Oper} {v : Value} {f : Nat} {lst : Array Bool} {a : Act} {w : World} (hT : tailB ops n = true) (hs : Region.noSelect ops = true) (hin : i < n) (hi : ops[i]? = some oi) (hd : oi.dst = some d)
    (hf : Region.free .any ops lst i = true) (hr : (Region.ready .any ops lst).contains i = true)
    (hQ : ∀ c a v w, Q (.panic c) (Act.put a (some d) v) w → Q (.panic c) a w) (hS : S w) (hy : YieldsIf P ops S oi v a)
    (h : anyT P ops Q S n f (lst.setIfInBounds i true) (a.put (some d) v) w) : anyT P ops Q S n (f + 1) lst a w :=
  anyT_first hi hin hT (Region.noSelect_spec hs) (fun c a w => by rw [hd]; exact hQ c a _ w) f lst a w (Region.free_spec hi hf) (by simpa using hr) hy hS (by rw [hd]; exact h)
/-- one alone may come up -/
theorem anyT_one (i : Nat) (d : Option Tmp) (op : Op) (ty : TypeId) {oi : Oper} {f : Nat} {lst : Array Bool} {a : Act} {w : World} (hr : Region.ready .any ops lst = [i]) (hi : ops[i]? = some oi) (hg : oi.guard = none) (hd : oi.dst = d) (hop : oi.op = op) (hty : oi.type = ty)
    (h : (Oper.mk d op ty oi.pos oi.after none).wp P a w (fun a' w' => (i < n → S w') ∧ anyT P ops Q S n f (lst.setIfInBounds i true) a' w') Q) : anyT P ops Q S n (f + 1) lst a w := by
  refine ⟨fun h0 => absurd (hr.symm.trans h0) (List.cons_ne_nil _ _), fun j hj => ?_⟩
  rw [hr] at hj
  obtain rfl := List.mem_singleton.1 hj
  subst hd; subst hop; subst hty
  unfold wpOp
  simp only [hi, Region.wanted, hg, if_true]
  refine .inl ?_
  have e : Oper.mk oi.dst oi.op oi.type oi.pos oi.after none = oi := by cases oi; simp_all
  rw [e] at h
  exact h
theorem anyT_done {f : Nat} {lst : Array Bool} {a : Act} {w : World} (hr : Region.ready .any ops lst = []) (h : Q .normal a w) : anyT P ops Q S n f lst a w := by
  cases f with
  | zero => exact ⟨hr, h⟩
  | succ f => exact ⟨fun _ => h, fun i hi => by rw [hr] at hi; cases hi⟩
theorem wp_region_T (S : World → Prop) (n : Nat) {id : Nat} {a : Act} {w : World} (hm : P.follows .mixedOrders = true)
    (h : anyT P ops Q S n ops.size (Array.replicate ops.size false) a { w with drawn := w.drawn + 1 }) : (Code.region id ops true).wp P Q a w :=
  wp_region_any hm (any_of_anyT _ _ _ _ h)
end
end Go.Rgn

namespace Go.Proofs.YthbbammibdhohaaGreatDoor
open Go.RowKit

abbrev Bs := List UInt8
/-- a byte's cell -/
def byt (b : UInt8) : Value := .int .u8 (b.toNat : Int)
/-- a text as a value -/
abbrev tx (l : Bs) : Value := .string ⟨l.toArray⟩

/-- what a block is of: the type of its cells; 1000000: something else. -/
def tag : Obj → Nat
  | .cells _ t _ => t
  | _ => 1000000

/-- From w to w' nothing turns but blocks from B on whose tag is in T; the streams are as they were. -/
structure Upd (B : Nat) (T : Nat → Bool) (w w' : World) : Prop where
  os : w'.os = w.os
  tape : w'.tape = w.tape
  output : w'.output = w.output
  size : w.heap.size ≤ w'.heap.size
  block : ∀ k o, w.heap[k]? = some o → (k < B ∨ T (tag o) = false) → w'.heap[k]? = some o

def noT : Nat → Bool := fun _ => false
def oneT (ts : List Nat) : Nat → Bool := fun t => ts.contains t

theorem lt_of_some {w : World} {k : Nat} {o : Obj} (h : w.heap[k]? = some o) : k < w.heap.size := (Array.getElem?_eq_some_iff.1 h).1

theorem Upd.refl (B : Nat) (T : Nat → Bool) (w : World) : Upd B T w w := ⟨rfl, rfl, rfl, Nat.le_refl _, fun _ _ h _ => h⟩
theorem Upd.trans {B : Nat} {T : Nat → Bool} {a b c : World} (h : Upd B T a b) (k : Upd B T b c) : Upd B T a c :=
  ⟨k.os.trans h.os, k.tape.trans h.tape, k.output.trans h.output, Nat.le_trans h.size k.size, fun i o hi hc => k.block i o (h.block i o hi hc) hc⟩
theorem Upd.mono {B B' : Nat} {T T' : Nat → Bool} {w w' : World} (h : Upd B T w w') (hB : B' ≤ B) (hT : ∀ t, T t = true → T' t = true) : Upd B' T' w w' :=
  ⟨h.os, h.tape, h.output, h.size, fun k o hk hc => h.block k o hk (by
    rcases hc with hc | hc
    · exact .inl (by omega)
    · refine .inr ?_
      cases hT' : T (tag o) with
      | false => rfl
      | true => rw [hT _ hT'] at hc; cases hc)⟩
theorem Upd.of_below {B : Nat} {T : Nat → Bool} {w w' : World} (h : Below w.heap.size w w') : Upd B T w w' :=
  ⟨h.os, h.tape, h.output, h.size, fun k o hk _ => (h.block k (lt_of_some hk)).trans hk⟩
theorem Upd.below {B : Nat} {T : Nat → Bool} {w w' : World} (h : Upd B T w w') (hB : B ≤ w.heap.size) : Below B w w' :=
  ⟨h.os, h.tape, h.output, h.size, fun k hk => by
    have hlt : k < w.heap.size := by omega
    rw [h.block k w.heap[k] (by simp [hlt]) (.inl hk)]; simp [hlt]⟩
theorem Upd.setCell {B : Nat} {T : Nat → Bool} {a w : World} (h : Upd B T a w) {p : Addr} (v : Value) {o : Obj} (hp : w.heap[p.block]? = some o) (hB : B ≤ p.block) (hT : T (tag o) = true) : Upd B T a (w.setCell p v) :=
  h.trans ⟨rfl, rfl, rfl, by simp, fun k o' hk hc => by
    by_cases e : k = p.block
    · subst e; rw [hp] at hk; injection hk with hk; subst hk
      rcases hc with hc | hc
      · omega
      · rw [hT] at hc; cases hc
    · rw [heap_setCell_other _ _ _ _ e]; exact hk⟩
theorem Upd.alloc {B : Nat} {T : Nat → Bool} {a w : World} (h : Upd B T a w) (o : Obj) : Upd B T a (w.alloc o) :=
  h.trans (.of_below ((Below.refl _ _).alloc (Nat.le_refl _) o))
theorem Upd.drew {B : Nat} {T : Nat → Bool} {a w : World} (h : Upd B T a w) : Upd B T a w.drew := ⟨h.os, h.tape, h.output, h.size, h.block⟩
theorem Upd.drewN {B : Nat} {T : Nat → Bool} {a w : World} (h : Upd B T a w) (n : Nat) : Upd B T a (w.drewN n) := ⟨h.os, h.tape, h.output, h.size, h.block⟩
theorem Upd.setRow {B : Nat} {T : Nat → Bool} {a w : World} (h : Upd B T a w) {g : Nat} (cs : Array Value) {o : Obj} (hp : w.heap[g]? = some o) (hB : B ≤ g) (hT : T (tag o) = true) : Upd B T a (w.setRow g cs) :=
  h.trans ⟨rfl, rfl, rfl, by simp, fun k o' hk hc => by
    by_cases e : k = g
    · subst e; rw [hp] at hk; injection hk with hk; subst hk
      rcases hc with hc | hc
      · omega
      · rw [hT] at hc; cases hc
    · rw [setRow_other w g k cs e]; exact hk⟩
theorem Upd.grown {B : Nat} {T : Nat → Bool} {a w w' : World} {row : Option Nat} (h : Upd B T a w) (hg : w.grownBy w' row) (hr : ∀ k o, row = some k → w.heap[k]? = some o → B ≤ k ∧ T (tag o) = true) : Upd B T a w' :=
  h.trans ⟨hg.os, hg.tape, hg.output, hg.size, fun k o hk hc => by
    rw [hg.block k (lt_of_some hk) (fun e => by
      have := hr k o e.symm hk
      rcases hc with hc | hc
      · omega
      · rw [this.2] at hc; cases hc)]
    exact hk⟩

theorem World.heap_alloc_old' (w : World) (o : Obj) (i : Nat) (h : i < w.heap.size) : (w.alloc o).heap[i]? = w.heap[i]? := Below.heap_alloc w o i h

/-- a cell of a block that is known whole -/
theorem cellAt {w : World} {b : Nat} {cs : Array Value} {t : TypeId} {fr : Nat × Nat} (h : w.heap[b]? = some (.cells cs t fr)) (i : Nat) (v : Value) (hi : cs[i]? = some v) : w.cell? ⟨b, i, none⟩ = some v := by
  rw [cell_of_row w b i cs t fr h]; exact hi
theorem freeAt {w : World} {b : Nat} {cs : Array Value} {t : TypeId} (h : w.heap[b]? = some (.cells cs t (0, 0))) (i : Nat) : w.frozen? ⟨b, i, none⟩ = false := frozen_of_row w b i cs t h

theorem Addr.add_here (g off j : Nat) : (⟨g, off, none⟩ : Addr).add j = ⟨g, off + j, none⟩ := by
  unfold Addr.add; split <;> simp_all

theorem ownsRow_oneCell {w : World} {B e size n : Nat} {v : Value} {xs : List Value} (h : w.ownsRow B e size v n xs) : v.oneCell' = true := by
  rcases h.2 with ⟨rfl, _⟩ | ⟨g, cap, cur, rfl, _⟩ <;> rfl

theorem act_eval_tmp (l : List Value) (ds : List Deferred) (t : Nat) : Act.eval ⟨l.toArray, ds⟩ (.tmp t) = l.getD t undef := by simp [Act.eval, List.getD]
theorem act_eval_const (a : Act) (v : Value) : a.eval (.const v) = v := rfl

section
variable {P : Program}
def aggDesc : TypeDesc → Bool
  | .struct _ | .array _ _ => true
  | _ => false
theorem run_isAgg_of {ty : TypeId} {d : TypeDesc} (hu : P.underlying ty = some d) (hd : aggDesc d = true) (w : World) : (isAgg ty).run P w = .ok true w := by
  unfold isAgg
  rw [Sem.run_bind, run_underlying hu w]
  cases d <;> simp_all [aggDesc]
/-- a whole struct or array read out of the middle of a block -/
theorem run_loadVar_mid (w : World) (g off : Nat) (ty : TypeId) (cs : List Value) (d : TypeDesc) (hc : ∀ j v, cs[j]? = some v → w.cell? ⟨g, off + j, none⟩ = some v)
    (hu : P.underlying ty = some d) (hd : aggDesc d = true) (hi : (P.info? ty).map (·.size) = some cs.length) :
    (loadVar ty ⟨g, off, none⟩).run P w = .ok (.agg cs.toArray) w := by
  have hl : (loadCells ⟨g, off, none⟩ cs.length).run P w = .ok cs.toArray w :=
    run_loadCells_list (P := P) w ⟨g, off, none⟩ cs (fun j v hv => by rw [Addr.add_here]; exact hc j v hv)
  cases hq : P.info? ty with
  | none => simp [hq] at hi
  | some i =>
    have hs : i.size = cs.length := by simpa [hq] using hi
    simp [loadVar, Sem.run_bind, run_isAgg_of hu hd, sizeOf, typeInfo, hq, hs, hl]
theorem wp_load_mid {o : Oper} {a : Act} {w : World} {K : Act → World → Prop} {Q : Exit → Act → World → Prop} (ty : TypeId) (x : Operand) (ho : o.op = .load ty x)
    (g off : Nat) (hx : a.eval x = .pointer (some ⟨g, off, none⟩)) (cs : List Value) (d : TypeDesc) (hu : P.underlying ty = some d) (hd : aggDesc d = true)
    (hi : (P.info? ty).map (·.size) = some cs.length) (hc : ∀ j v, cs[j]? = some v → w.cell? ⟨g, off + j, none⟩ = some v)
    (h : K (a.put o.dst (.agg cs.toArray)) w) : o.wp P a w K Q := by
  unfold Oper.wp execOp
  simp only [ho, hx, Instr.loadAt, Instr.sureAddr, Sem.run_bind, Sem.run_pure, Result.andThen_ok, run_loadVar_mid w g off ty cs d hc hu hd hi]
  exact h
theorem wpList_load_mid0 {ops : Array Oper} {rest : List Oper} {o : Oper} {a : Act} {w : World} {Q : Exit → Act → World → Prop} (hgd : o.guard = none) (ty : TypeId) (x : Operand) (ho : o.op = .load ty x)
    (g off : Nat) (hx : a.eval x = .pointer (some ⟨g, off, none⟩)) (cs : List Value) (d : TypeDesc) (hu : P.underlying ty = some d) (hd : aggDesc d = true)
    (hi : (P.info? ty).map (·.size) = some cs.length) (hc : ∀ j v, cs[j]? = some v → w.cell? ⟨g, off + j, none⟩ = some v)
    (h : wpList P ops Q rest (a.put o.dst (.agg cs.toArray)) w) : wpList P ops Q (o :: rest) a w :=
  wpList_plain hgd fun _ hK => wp_load_mid ty x ho g off hx cs d hu hd hi hc (hK _ _ h)
/-- a whole struct or array stored into the middle of a block -/
theorem run_storeVar_mid (w : World) (g off : Nat) (ty t : TypeId) (cs : List Value) (cur : Array Value) (hg : w.heap[g]? = some (.cells cur t (0, 0)))
    (hfit : off + cs.length ≤ cur.size) (h1 : ∀ v ∈ cs, v.oneCell' = true) (hi : (P.info? ty).map (·.size) = some cs.length) :
    (storeVar ty ⟨g, off, none⟩ (.agg cs.toArray)).run P w = .ok () (w.setRow g (splice cur.toList off cs).toArray) := by
  cases hq : P.info? ty with
  | none => simp [hq] at hi
  | some i =>
    have hs : i.size = cs.length := by simpa [hq] using hi
    have hst := run_storeCells_at P g off t cs 0 cur w hg (by simpa using hfit) h1
    simp only [Nat.add_zero] at hst
    simp [storeVar, Sem.run_bind, sizeOf, typeInfo, hq, hs, Value.cells, hst, splice]
theorem wp_store_mid {o : Oper} {a : Act} {w : World} {K : Act → World → Prop} {Q : Exit → Act → World → Prop} (ty : TypeId) (x y : Operand) (ho : o.op = .store ty x y)
    (g off : Nat) (hx : a.eval x = .pointer (some ⟨g, off, none⟩)) (cs : List Value) (hy : a.eval y = .agg cs.toArray) (t : TypeId) (cur : Array Value)
    (hi : (P.info? ty).map (·.size) = some cs.length) (hg : w.heap[g]? = some (.cells cur t (0, 0)))
    (hfit : off + cs.length ≤ cur.size) (h1 : ∀ v ∈ cs, v.oneCell' = true)
    (h : K (a.put o.dst undef) (w.setRow g (splice cur.toList off cs).toArray)) : o.wp P a w K Q := by
  unfold Oper.wp execOp
  simp only [ho, hx, hy, Instr.storeAt, Instr.sureAddr, Sem.run_bind, Sem.run_pure, Result.andThen_ok, run_storeVar_mid w g off ty t cs cur hg hfit h1 hi]
  exact h
theorem wpList_store_mid {ops : Array Oper} {rest : List Oper} {o : Oper} {a : Act} {w : World} {Q : Exit → Act → World → Prop} (hgd : o.guard = none) (ty : TypeId) (x y : Operand) (ho : o.op = .store ty x y)
    (g off : Nat) (hx : a.eval x = .pointer (some ⟨g, off, none⟩)) (cs : List Value) (hy : a.eval y = .agg cs.toArray) (t : TypeId) (cur : Array Value)
    (hi : (P.info? ty).map (·.size) = some cs.length) (hg : w.heap[g]? = some (.cells cur t (0, 0)))
    (hfit : off + cs.length ≤ cur.size) (h1 : ∀ v ∈ cs, v.oneCell' = true)
    (h : wpList P ops Q rest (a.put o.dst undef) (w.setRow g (splice cur.toList off cs).toArray)) : wpList P ops Q (o :: rest) a w :=
  wpList_plain hgd fun _ hK => wp_store_mid ty x y ho g off hx cs hy t cur hi hg hfit h1 (hK _ _ h)
theorem setRow_alloc (w : World) (c c' : Array Value) (t : TypeId) : (w.alloc (.cells c t)).setRow w.heap.size c' = w.alloc (.cells c' t) := by
  have hs : (w.heap.push (.cells c t)).size = w.heap.size + 1 := by simp
  unfold World.setRow World.alloc
  congr 1
  apply Array.ext_getElem?
  intro i
  by_cases h : i = w.heap.size
  · subst h
    rw [Array.getElem?_modify, if_pos rfl, Array.getElem?_push, if_pos rfl, Array.getElem?_push, if_pos rfl]; rfl
  · simp only [Array.getElem?_modify, Array.getElem?_push, if_neg h]
    rw [if_neg (by omega)]
/-- the same into the block that was laid last: it is laid with the new cells. -/
theorem wpList_store_new {ops : Array Oper} {rest : List Oper} {o : Oper} {a : Act} {w : World} {Q : Exit → Act → World → Prop} (hgd : o.guard = none) (ty : TypeId) (x y : Operand) (ho : o.op = .store ty x y)
    (t : TypeId) (cur : Array Value) (hx : a.eval x = .pointer (some ⟨w.heap.size, 0, none⟩)) (cs : List Value) (hy : a.eval y = .agg cs.toArray)
    (hi : (P.info? ty).map (·.size) = some cs.length) (hfit : cs.length = cur.size) (h1 : ∀ v ∈ cs, v.oneCell' = true)
    (h : wpList P ops Q rest (a.put o.dst undef) (w.alloc (.cells cs.toArray t))) : wpList P ops Q (o :: rest) a (w.alloc (.cells cur t)) := by
  refine wpList_store_mid hgd ty x y ho w.heap.size 0 hx cs hy t cur hi (heap_alloc_new w _) (by omega) h1 ?_
  have e : splice cur.toList 0 cs = cs := by simp [splice, hfit]
  rw [e, setRow_alloc]
  exact h
/-- the cells of the first n bytes of a text -/
def firstB (s : ByteArray) (n : Nat) : List Value := (s.data.toList.take n).map byt
theorem firstB_len (s : ByteArray) (n : Nat) (h : n ≤ s.size) : (firstB s n).length = n := by
  have : s.data.size = s.size := rfl
  simp [firstB]; omega
theorem firstB_cells (s : ByteArray) (n : Nat) : ((s.extract 0 n).data.map fun b => Value.int .u8 b.toNat).toList = firstB s n := by
  rw [Array.toList_map]
  have hex : (s.extract 0 n).data.toList = s.data.toList.take n := by simp [ByteArray.data_extract]
  rw [hex]; rfl
theorem firstB_one (s : ByteArray) (n : Nat) : ∀ v ∈ firstB s n, v.oneCell' = true := by
  intro v hv; simp only [firstB, List.mem_map] at hv; obtain ⟨x, _, rfl⟩ := hv; rfl
/-- copy out of a text -/
theorem run_copy_str (w : World) (dT sT ty elem : TypeId) (g off dLen dCap : Nat) (s : ByteArray) (cur : Array Value) (t : TypeId)
    (hu : P.underlying dT = some (.slice elem)) (hsz : (P.info? elem).map (·.size) = some 1) (hg : w.heap[g]? = some (.cells cur t (0, 0)))
    (hfit : off + Nat.min s.size dLen ≤ cur.size) :
    (Builtin.copy_ #[dT, sT] ty #[.slice (some ⟨g, off, none⟩) dLen dCap, .string s]).run P w =
      .ok (goInt (Nat.min s.size dLen)) (w.setRow g (splice cur.toList off (firstB s (Nat.min s.size dLen))).toArray) := by
  cases hq : P.info? elem with
  | none => simp [hq] at hsz
  | some i =>
    have hln := firstB_len s (Nat.min s.size dLen) (Nat.min_le_left _ _)
    have hst := run_storeCells_at P g off t (firstB s (Nat.min s.size dLen)) 0 cur w hg (by rw [hln]; simpa using hfit) (firstB_one _ _)
    simp only [Nat.add_zero] at hst
    simp only [Builtin.copy_, List.getElem?_toArray, List.getElem?_cons_zero, List.getElem?_cons_succ, Sem.run_bind, run_underlying hu, Result.andThen_ok, Builtin.lenOf, Sem.run_pure, Builtin.firstCells, firstB_cells]
    simp [sizeOf, typeInfo, hq, hst, splice]
theorem wpList_copy_str {ops : Array Oper} {rest : List Oper} {o : Oper} {a : Act} {w : World} {Q : Exit → Act → World → Prop} (hgd : o.guard = none) (d s : Operand) (dT sT : TypeId)
    (ho : o.op = .call { callee := .builtin .copy, args := #[d, s], argTypes := #[dT, sT] }) (elem : TypeId) (hu : P.underlying dT = some (.slice elem)) (hsz : (P.info? elem).map (·.size) = some 1)
    (g off dLen dCap : Nat) (hd : a.eval d = .slice (some ⟨g, off, none⟩) dLen dCap) (b : ByteArray) (hs : a.eval s = .string b)
    (cur : Array Value) (t : TypeId) (hg : w.heap[g]? = some (.cells cur t (0, 0))) (hfit : off + Nat.min b.size dLen ≤ cur.size)
    (h : wpList P ops Q rest (a.put o.dst (goInt (Nat.min b.size dLen))) (w.setRow g (splice cur.toList off (firstB b (Nat.min b.size dLen))).toArray)) : wpList P ops Q (o :: rest) a w := by
  refine wpList_plain hgd fun K hK => ?_
  have hrun := run_copy_str (P := P) w dT sT o.type elem g off dLen dCap b cur t hu hsz hg hfit
  unfold Oper.wp
  simp [execOp, ho, resolve, invoke, builtin, hd, hs, hrun, Result.andThen]
  exact hK _ _ h
/-- the same into the block that was laid last -/
theorem wpList_copy_str_new {ops : Array Oper} {rest : List Oper} {o : Oper} {a : Act} {w : World} {Q : Exit → Act → World → Prop} (hgd : o.guard = none) (d s : Operand) (dT sT : TypeId)
    (ho : o.op = .call { callee := .builtin .copy, args := #[d, s], argTypes := #[dT, sT] }) (elem : TypeId) (hu : P.underlying dT = some (.slice elem)) (hsz : (P.info? elem).map (·.size) = some 1)
    (off dLen dCap : Nat) (hd : a.eval d = .slice (some ⟨w.heap.size, off, none⟩) dLen dCap) (b : ByteArray) (hs : a.eval s = .string b)
    (cur : List Value) (t : TypeId) (n : Nat) (hn : Nat.min b.size dLen = n) (hfit : off + n ≤ cur.length) (cs' : List Value) (hcs : splice cur off (firstB b n) = cs')
    (h : wpList P ops Q rest (a.put o.dst (goInt n)) (w.alloc (.cells cs'.toArray t))) : wpList P ops Q (o :: rest) a (w.alloc (.cells cur.toArray t)) := by
  subst hn; subst hcs
  refine wpList_copy_str hgd d s dT sT ho elem hu hsz w.heap.size off dLen dCap hd b hs cur.toArray t (heap_alloc_new w _) (by simpa using hfit) ?_
  rw [setRow_alloc]
  exact h
/-- string(b) of a row of bytes -/
theorem toBytes_fold (l : Bs) : ∀ (r : ByteArray), (l.map fun b => (b.toNat : Int)).foldl (fun r n => r.push (UInt8.ofNat n.toNat)) r = ⟨r.data ++ l.toArray⟩ := by
  induction l with
  | nil => intro r; simp
  | cons b l ih => intro r; simp only [List.map_cons, List.foldl_cons]; rw [ih]; simp [ByteArray.push]
theorem run_bytes_text (w : World) (src dst e : TypeId) (g off len cap : Nat) (l : Bs) (hs : P.underlying src = some (.slice e)) (he : P.underlying e = some (.int .u8)) (hd : P.underlying dst = some .string)
    (hl : l.length = len) (hc : ∀ j b, l[j]? = some b → w.cell? ⟨g, off + j, none⟩ = some (byt b)) :
    (convert src dst (.slice (some ⟨g, off, none⟩) len cap)).run P w = .ok (tx l) w := by
  rw [run_convert_bytes_string w src dst e _ _ _ hs he hd]
  have h : (loadCells ⟨g, off, none⟩ len).run P w = .ok ((l.map fun b => (b.toNat : Int)).map (Value.int .u8)).toArray w := by
    have := run_loadCells_list (P := P) w ⟨g, off, none⟩ (l.map byt) (fun j v hv => by
      rw [Addr.add_here]
      simp only [List.getElem?_map, Option.map_eq_some_iff] at hv
      obtain ⟨b, hb, rfl⟩ := hv
      exact hc j b hb)
    simp only [List.length_map, hl] at this
    rw [this]
    simp [byt, Function.comp_def]
  rw [run_bytesToString w _ len cap _ h, toBytes_fold]
  simp [tx]
theorem wpList_bytes_text {ops : Array Oper} {rest : List Oper} {o : Oper} {a : Act} {w : World} {Q : Exit → Act → World → Prop} (hgd : o.guard = none) (src dst : TypeId) (x : Operand) (ho : o.op = .convert src dst x)
    (e : TypeId) (hs : P.underlying src = some (.slice e)) (he : P.underlying e = some (.int .u8)) (hd : P.underlying dst = some .string)
    (g off len cap : Nat) (hx : a.eval x = .slice (some ⟨g, off, none⟩) len cap) (l : Bs) (hl : l.length = len) (hc : ∀ j b, l[j]? = some b → w.cell? ⟨g, off + j, none⟩ = some (byt b))
    (h : wpList P ops Q rest (a.put o.dst (tx l)) w) : wpList P ops Q (o :: rest) a w := by
  refine wpList_plain hgd fun K hK => ?_
  have hrun := run_bytes_text (P := P) w src dst e g off len cap l hs he hd hl hc
  unfold Oper.wp
  simp [execOp, ho, hx, hrun, Result.andThen]
  exact hK _ _ h
/-- the place of a slice's element -/
theorem run_indexAt_slice {t elem n : Nat} (ht : P.underlying t = some (.slice elem)) (hs : (P.info? elem).map (·.size) = some n) (g off len cap : Nat) (k : IntKind) (i : Int) (h0 : 0 ≤ i) (h1 : i < len) (w : World) :
    (Instr.indexAt t (.slice (some ⟨g, off, none⟩) len cap) (.int k i)).run P w = .ok (.pointer (some ⟨g, off + i.toNat * n, none⟩)) w := by
  cases hq : P.info? elem with
  | none => simp [hq] at hs
  | some x =>
    have hx : x.size = n := by simpa [hq] using hs
    unfold Instr.indexAt
    simp only [Sem.run_bind, asIntOf, Sem.run_pure, Result.andThen_ok, run_underlying ht]
    rw [if_pos ⟨h0, h1⟩]
    simp only [Sem.run_bind, sizeOf, typeInfo]
    simp [hq, hx, Addr.add_here]
/-- a slice of one struct, written out -/
theorem fill_fold (vs : List Value) : ∀ (k : Nat) (cs : Array Value), k + vs.length ≤ cs.size →
    ((vs.zipIdx k).foldl (fun (cs : Array Value) (x : Value × Nat) => cs.setIfInBounds (0 + x.2) x.1) cs).toList = cs.toList.take k ++ vs ++ cs.toList.drop (k + vs.length) := by
  induction vs with
  | nil => intro k cs h; simp
  | cons v vs ih =>
    intro k cs h
    simp only [List.zipIdx_cons, List.foldl_cons, Nat.zero_add] at ih ⊢
    rw [ih (k + 1) (cs.setIfInBounds k v) (by simp at h ⊢; omega)]
    have hk : k < cs.toList.length := by simp at h ⊢; omega
    simp only [Array.toList_setIfInBounds]
    rw [List.take_succ_eq_append_getElem (by simpa using hk), List.take_set_of_le (Nat.le_refl k), List.getElem_set_self]
    rw [List.drop_set_of_lt (by omega)]
    simp [Nat.add_assoc, Nat.add_comm 1]
theorem fill_one (size : Nat) (cs cells : Array Value) (h : cs.size = size) (hc : cells.size = size) : Instr.fill (fun i => some (i * size, size)) cells [(0, .agg cs)] = some cs := by
  have e := fill_fold cs.toList 0 cells (by simp; omega)
  have e2 : cs.zipIdx.foldl (fun (c : Array Value) (x : Value × Nat) => c.setIfInBounds (0 + x.2) x.1) cells = cs := by
    rw [← Array.foldl_toList, Array.toList_zipIdx]
    apply Array.toList_inj.1
    rw [e]
    have : cells.toList.drop (0 + cs.toList.length) = [] := List.drop_of_length_le (by simp; omega)
    rw [this]; simp
  unfold Instr.fill
  simp only [Value.cells, Nat.zero_mul, h, hc]
  rw [if_neg (by simp)]
  exact congrArg (fun c => Instr.fill (fun i => some (i * size, size)) c []) e2
theorem run_buildSlice_one (w : World) (t e : TypeId) (cs : Array Value) (z : Value) (i : TypeInfo) (ht : P.underlying t = some (.slice e)) (hi : P.info? e = some i) (hz : i.zero = some z) (hs : i.size = cs.size) (hzs : z.cells.size = cs.size)
    (hpos : 0 < cs.size) (hbig : cs.size ≤ 16777216) :
    (Instr.buildSlice t 1 #[(0, .agg cs)]).run P w = .ok (.slice (some ⟨w.heap.size, 0, none⟩) 1 1) (w.alloc (.cells cs e)) := by
  have hf := fill_one cs.size cs ((Array.range (1 * cs.size)).map (z.cells[· % z.cells.size]!)) rfl (by simp)
  unfold Instr.buildSlice
  simp only [Sem.run_bind, run_underlying ht, Result.andThen_ok, sizeOf, typeInfo]
  simp [hi, hs, zeroValue, typeInfo, hz, newRow]
  rw [if_neg (by omega), if_neg (by rintro rfl; simp at hpos)]
  simp only [Nat.one_mul] at hf
  simp [hf, newObj]
  rfl
/-- operations that yield a value in every world that meets S -/
theorem yi {ops : Array Oper} {S : World → Prop} {o : Oper} {v : Value} {a : Act} (hg : o.guard = none) (h : ∀ w, S w → (execOp a.eval o).run P w = .ok (.value v) w) : YieldsIf P ops S o v a :=
  .inl ⟨by simp [Region.wanted, hg], h⟩
theorem yi_move {ops : Array Oper} {S : World → Prop} {o : Oper} {a : Act} (x : Operand) (v : Value) (hg : o.guard = none) (ho : o.op = .move x) (hx : a.eval x = v) : YieldsIf P ops S o v a :=
  yi hg fun w _ => by unfold execOp; simp only [ho, hx]; rfl
theorem yi_assign {ops : Array Oper} {S : World → Prop} {o : Oper} {a : Act} (x : Operand) (v : Value) (hg : o.guard = none) (ho : o.op = .assign x) (hx : a.eval x = v) : YieldsIf P ops S o v a :=
  yi hg fun w _ => by unfold execOp; simp only [ho, hx]; rfl
theorem yi_nilCheck {ops : Array Oper} {S : World → Prop} {o : Oper} {a : Act} (x : Operand) (p : Addr) (hg : o.guard = none) (ho : o.op = .nilCheck x) (hx : a.eval x = .pointer (some p)) : YieldsIf P ops S o (.pointer (some p)) a :=
  yi hg fun w _ => by unfold execOp; simp only [ho, hx]; rfl
def plainTy (P : Program) (ty : TypeId) : Bool := match P.underlying ty with
  | some d => !aggDesc d
  | none => false
def aggSize (P : Program) (ty : TypeId) : Option Nat := match P.underlying ty with
  | some d => if aggDesc d then (P.info? ty).map (·.size) else none
  | none => none
theorem aggSize_spec {ty : TypeId} {n : Nat} (h : aggSize P ty = some n) : ∃ d, P.underlying ty = some d ∧ aggDesc d = true ∧ (P.info? ty).map (·.size) = some n := by
  unfold aggSize at h
  split at h
  · rename_i d hd
    split at h
    · exact ⟨d, hd, ‹_›, h⟩
    · cases h
  · cases h
theorem run_isAgg_plain {ty : TypeId} (h : plainTy P ty = true) (w : World) : (isAgg ty).run P w = .ok false w := by
  unfold plainTy at h
  split at h
  · rename_i d hd
    unfold isAgg
    rw [Sem.run_bind, run_underlying hd w]
    cases d <;> simp_all [aggDesc]
  · cases h
/-- the place of a struct's field -/
def fieldOff (P : Program) (s f : Nat) : Option Nat := match P.underlying s with
  | some (.struct fs) => match fs[f]? with
    | some fd => match P.info? fd.type with
      | some i => if i.size = 0 then none else some fd.offset
      | none => none
    | none => none
  | _ => none
theorem run_fieldAt {s f off : Nat} (h : fieldOff P s f = some off) (g o : Nat) (w : World) : (Instr.fieldAt s (.pointer (some ⟨g, o, none⟩)) f).run P w = .ok (.pointer (some ⟨g, o + off, none⟩)) w := by
  unfold fieldOff at h
  split at h
  · rename_i fs hu
    split at h
    · rename_i fd hfd
      split at h
      · rename_i i hi
        split at h
        · cases h
        · rename_i hne
          injection h with h
          subst h
          unfold Instr.fieldAt
          simp only [Sem.run_bind, run_underlying hu, Result.andThen_ok, hfd, Sem.run_pure, Instr.sureAddr, fieldPlace, sizeOf, typeInfo]
          simp [hi, hne, Addr.add_here]
      · cases h
    · cases h
  · cases h
theorem yi_field {ops : Array Oper} {S : World → Prop} {o : Oper} {a : Act} (s f : Nat) (x : Operand) (g q off : Nat) (hg : o.guard = none) (ho : o.op = .fieldAddr s x f) (hx : a.eval x = .pointer (some ⟨g, q, none⟩)) (h : fieldOff P s f = some off) : YieldsIf P ops S o (.pointer (some ⟨g, q + off, none⟩)) a :=
  yi hg fun w _ => by
    unfold execOp
    simp only [ho, hx, Sem.run_bind, run_fieldAt h, Result.andThen_ok, Sem.run_pure]
theorem yi_load {ops : Array Oper} {S : World → Prop} {o : Oper} {a : Act} (ty : TypeId) (x : Operand) (p : Addr) (v : Value) (hg : o.guard = none) (ho : o.op = .load ty x) (hx : a.eval x = .pointer (some p)) (hp : plainTy P ty = true)
    (hc : ∀ w, S w → w.cell? p = some v) : YieldsIf P ops S o v a :=
  yi hg fun w hw => by
    unfold execOp
    simp only [ho, hx, Instr.loadAt, Instr.sureAddr, Sem.run_bind, Sem.run_pure, Result.andThen_ok, loadVar, run_isAgg_plain hp]
    simp [hc w hw]
theorem yi_load_mid {ops : Array Oper} {S : World → Prop} {o : Oper} {a : Act} (ty : TypeId) (x : Operand) (g off : Nat) (cs : List Value) (hg : o.guard = none) (ho : o.op = .load ty x) (hx : a.eval x = .pointer (some ⟨g, off, none⟩)) (ha : aggSize P ty = some cs.length)
    (hc : ∀ w, S w → ∀ j v, cs[j]? = some v → w.cell? ⟨g, off + j, none⟩ = some v) : YieldsIf P ops S o (.agg cs.toArray) a :=
  yi hg fun w hw => by
    obtain ⟨d, hu, hd, hi⟩ := aggSize_spec ha
    unfold execOp
    simp only [ho, hx, Instr.loadAt, Instr.sureAddr, Sem.run_bind, Sem.run_pure, Result.andThen_ok, run_loadVar_mid w g off ty cs d (hc w hw) hu hd hi]
theorem wpList_load_mid {ops : Array Oper} {rest : List Oper} {o : Oper} {a : Act} {w : World} {Q : Exit → Act → World → Prop} (hgd : o.guard = none) (ty : TypeId) (x : Operand) (ho : o.op = .load ty x)
    (g off : Nat) (hx : a.eval x = .pointer (some ⟨g, off, none⟩)) (cs : List Value) (ha : aggSize P ty = some cs.length) (hc : ∀ j v, cs[j]? = some v → w.cell? ⟨g, off + j, none⟩ = some v)
    (h : wpList P ops Q rest (a.put o.dst (.agg cs.toArray)) w) : wpList P ops Q (o :: rest) a w :=
  let ⟨d, hu, hd, hi⟩ := aggSize_spec ha
  wpList_load_mid0 hgd ty x ho g off hx cs d hu hd hi hc h
theorem yi_index {ops : Array Oper} {S : World → Prop} {o : Oper} {a : Act} (t elem n : Nat) (x y : Operand) (g off len cap : Nat) (k : IntKind) (i : Int) (hg : o.guard = none) (ho : o.op = .indexAddr t x y) (hx : a.eval x = .slice (some ⟨g, off, none⟩) len cap) (hy : a.eval y = .int k i)
    (ht : P.underlying t = some (.slice elem)) (hs : (P.info? elem).map (·.size) = some n) (h0 : 0 ≤ i) (h1 : i < len) : YieldsIf P ops S o (.pointer (some ⟨g, off + i.toNat * n, none⟩)) a :=
  yi hg fun w _ => by
    unfold execOp
    simp only [ho, hx, hy, Sem.run_bind, run_indexAt_slice ht hs g off len cap k i h0 h1, Result.andThen_ok, Sem.run_pure]
/-- one operation at a time, the world its own -/
theorem wp_nilCheck {o : Oper} {a : Act} {w : World} {K : Act → World → Prop} {Q : Exit → Act → World → Prop} (x : Operand) (p : Addr) (ho : o.op = .nilCheck x) (hx : a.eval x = .pointer (some p)) (h : K (a.put o.dst (.pointer (some p))) w) : o.wp P a w K Q := by
  unfold Oper.wp execOp; simp only [ho, hx]; exact h
theorem wp_field {o : Oper} {a : Act} {w : World} {K : Act → World → Prop} {Q : Exit → Act → World → Prop} (s f : Nat) (x : Operand) (g q off : Nat) (ho : o.op = .fieldAddr s x f) (hx : a.eval x = .pointer (some ⟨g, q, none⟩)) (hf : fieldOff P s f = some off)
    (h : K (a.put o.dst (.pointer (some ⟨g, q + off, none⟩))) w) : o.wp P a w K Q := by
  unfold Oper.wp execOp; simp only [ho, hx, Sem.run_bind, run_fieldAt hf, Result.andThen_ok, Sem.run_pure]; exact h
theorem wp_store_cell {o : Oper} {a : Act} {w : World} {K : Act → World → Prop} {Q : Exit → Act → World → Prop} (ty : TypeId) (x y : Operand) (ho : o.op = .store ty x y)
    (p : Addr) (hx : a.eval x = .pointer (some p)) (v u : Value) (hy : a.eval y = v) (h1 : v.oneCell' = true) (hi : (P.info? ty).map (·.size) = some 1) (hc : w.cell? p = some u) (hf : w.frozen? p = false)
    (h : K (a.put o.dst undef) (w.setCell p v)) : o.wp P a w K Q := by
  cases hq : P.info? ty with
  | none => simp [hq] at hi
  | some i =>
    have hs : i.size = 1 := by simpa [hq] using hi
    have e : v.cells.toList = [v] := by cases v <;> first | rfl | cases h1
    have e2 : v.cells.size = 1 := by rw [← Array.length_toList, e]; rfl
    have e3 : p.add 0 = p := by cases p; unfold Addr.add; split <;> simp_all
    have hst : (store p v).run P w = .ok () (w.setCell p v) := by
      cases v <;> first | (cases h1; done) | simp [store, Sem.run, hc, hf]
    have hsv : (storeVar ty p v).run P w = .ok () (w.setCell p v) := by
      unfold storeVar
      simp only [Sem.run_bind, sizeOf, typeInfo]
      simp [hq, hs, e, e2, storeCells, e3, hst]
    unfold Oper.wp execOp
    simp only [ho, hx, hy, Instr.storeAt, Instr.sureAddr, Sem.run_bind, Sem.run_pure, Result.andThen_ok, hsv]
    exact h
theorem wp_buildSlice_one {o : Oper} {a : Act} {w : World} {K : Act → World → Prop} {Q : Exit → Act → World → Prop} (t e : TypeId) (x : Operand) (ho : o.op = .buildSlice t 1 #[(0, x)]) (cs : Array Value) (hx : a.eval x = .agg cs)
    (z : Value) (i : TypeInfo) (ht : P.underlying t = some (.slice e)) (hi : P.info? e = some i) (hz : i.zero = some z) (hs : i.size = cs.size) (hzs : z.cells.size = cs.size) (hpos : 0 < cs.size) (hbig : cs.size ≤ 16777216)
    (h : K (a.put o.dst (.slice (some ⟨w.heap.size, 0, none⟩) 1 1)) (w.alloc (.cells cs e))) : o.wp P a w K Q := by
  have hr := run_buildSlice_one (P := P) w t e cs z i ht hi hz hs hzs hpos hbig
  have hm : (#[(0, x)].map fun (i, y) => (i, a.eval y)) = #[((0 : Nat), Value.agg cs)] := by simp [hx]
  unfold Oper.wp execOp
  simp only [ho, hm, Sem.run_bind, hr, Result.andThen_ok, Sem.run_pure]
  exact h
theorem wp_append_own' {o : Oper} {a : Act} {w : World} {K : Act → World → Prop} {Q : Exit → Act → World → Prop} (s x : Operand) (t : TypeId) (hop : o.op = Op.call { callee := Callee.builtin Builtin.append, args := #[s, x], argTypes := #[t, t] })
    (base : Nat) (e : TypeId) (i : TypeInfo) (z : Value) (size bytes : Nat) (ht : P.underlying t = some (.slice e)) (hi : P.info? e = some i) (hz : i.zero = some z)
    (hsize : i.size = size) (hby : i.bytes = bytes) (hzs : z.cells.size = size) (hsz : 0 < size)
    (v : Value) (n : Nat) (xs : List Value) (hs : a.eval s = v) (hown : w.ownsRow base e size v n xs)
    (ad : Addr) (m c : Nat) (news : List Value) (hx : a.eval x = .slice (some ad) m c) (hl : news.length = m * size) (hnews : ∀ j u, news[j]? = some u → w.cell? (ad.add j) = some u) (h1 : ∀ u ∈ news, u.oneCell' = true)
    (h63 : n + m ≤ maxLen) (hbytes : (n + m) * bytes ≤ 140737488355328) (hbase : base ≤ w.heap.size)
    (hK : ∀ v' w', w'.ownsRow base e size v' (n + m) (xs ++ news) → w.grownBy w' v.ownBlock → K (a.put o.dst v') w') : o.wp P a w K Q := by
  obtain ⟨v', w', hrun, r1, r2, _⟩ := run_append_own (P := P) w base t o.type e i z size bytes ht hi hz hsize hby hzs hsz v n xs hown ad m c news hl hnews h1 h63 hbytes hbase
  unfold Oper.wp
  simp [execOp, hop, resolve, invoke, builtin, hs, hx, hrun, Result.andThen]
  exact hK v' w' r1 r2
end
end Go.Proofs.YthbbammibdhohaaGreatDoor

namespace Aq
abbrev Bs := List UInt8

/-- a disk: its kept sectors, the writes that are pending (the eldest first), power, arm, writes left -/
structure Disk where
  kept : List Bs
  pend : List (Nat × Bs)
  down : Bool
  armed : Bool
  left : Nat

structure Disk.Ok (D : Disk) : Prop where
  pos : 0 < D.kept.length
  most : D.kept.length ≤ 65536
  len : ∀ s ∈ D.kept, s.length = 64
  ats : ∀ x ∈ D.pend, x.1 < D.kept.length ∧ x.2.length = 64
  left : D.left < 9223372036854775808

def zeros (n : Nat) : Bs := List.replicate n 0
def pad (s : Bs) : Bs := s ++ zeros (64 - s.length)
def Disk.new (n : Nat) : Disk := ⟨List.replicate n (zeros 64), [], false, false, 0⟩
def Disk.is (D : Disk) (i : Int) : Bool := decide (0 ≤ i ∧ i < D.kept.length)
/-- what counts a write or a flush: the power may go ahead of it -/
def Disk.does (D : Disk) : Disk × Int :=
  if D.armed = true ∧ D.left = 0 then ({ D with down := true }, 10)
  else ({ D with left := if D.armed then D.left - 1 else D.left }, 0)
/-- the last pending write of a sector; else what is kept -/
def lastAt (i : Nat) : List (Nat × Bs) → Option Bs
  | [] => none
  | x :: l => match lastAt i l with
    | some s => some s
    | none => if x.1 = i then some x.2 else none
def Disk.look (D : Disk) (i : Nat) : Bs := (lastAt i D.pend).getD (D.kept.getD i [])
def Disk.read (D : Disk) (i : Int) : Bs × Int :=
  if D.down then ([], 10) else if D.is i then (D.look i.toNat, 0) else ([], 2)
def Disk.write (D : Disk) (i : Int) (s : Bs) : Disk × Int :=
  if D.down then (D, 10) else if D.is i = false then (D, 2) else if 64 < s.length then (D, 3)
  else if D.does.2 = 0 then ({ D.does.1 with pend := D.pend ++ [(i.toNat, pad s)] }, 0) else D.does
def apply (k : List Bs) (p : List (Nat × Bs)) : List Bs := p.foldl (fun k x => k.set x.1 x.2) k
def Disk.flush (D : Disk) : Disk × Int :=
  if D.down then (D, 10) else if D.does.2 = 0 then ({ D.does.1 with kept := apply D.kept D.pend, pend := [] }, 0) else D.does
def Disk.arm (D : Disk) (n : Int) : Disk × Int :=
  if D.down then (D, 10) else ({ D with armed := decide (0 ≤ n), left := n.toNat }, 0)
def Disk.off (D : Disk) : Disk × Int := if D.down then (D, 10) else ({ D with down := true }, 0)
/-- those writes of p that are kept -/
def kept : List (Nat × Bs) → List Bool → List (Nat × Bs)
  | [], _ => []
  | _ :: _, [] => []
  | x :: p, k :: ks => if k then x :: kept p ks else kept p ks
def Disk.on (D : Disk) (keep : List Bool) : Disk × Int :=
  if D.down then (⟨apply D.kept (Aq.kept D.pend keep), [], false, false, 0⟩, 0) else (D, 9)
end Aq

namespace Go.Proofs.YthbbammibdhohaaGreatDoor
open Go.RowKit Aq

/-- a pending write's cells -/
def wcells (x : Nat × Bs) : List Value := .int .i64 (x.1 : Int) :: x.2.map byt
def diskCells (kb n : Nat) (pv : Value) (down armed : Bool) (left : Nat) (dn : Int) : Array Value :=
  #[.slice (some ⟨kb, 0, none⟩) n n, pv, .bool down, .bool armed, .int .i64 (left : Int), .int .i64 dn]
abbrev tDisk : Nat := 88
abbrev tBlock : Nat := 111
abbrev tWrite : Nat := 113
structure DiskIs (B : Nat) (w : World) (b kb : Nat) (pv : Value) (dn : Int) (D : Disk) : Prop where
  hb : B ≤ b
  hkb : B ≤ kb
  head : w.heap[b]? = some (.cells (diskCells kb D.kept.length pv D.down D.armed D.left dn) tDisk (0, 0))
  row : w.heap[kb]? = some (.cells (D.kept.flatten.map byt).toArray tBlock (0, 0))
  pend : w.ownsRow B tWrite 65 pv D.pend.length (D.pend.flatMap wcells)
  ok : D.Ok
/-- In w a disk lies at block b, all of it from B on. -/
def DiskAt (B : Nat) (w : World) (b : Nat) (D : Disk) : Prop := ∃ kb pv dn, DiskIs B w b kb pv dn D
def diskT : Nat → Bool := fun t => t == tDisk || t == tBlock || t == tWrite

/-- what lies from B on with a tag of T is seen alike -/
def Sees (B : Nat) (T : Nat → Bool) (w w' : World) : Prop := ∀ k o, B ≤ k → w.heap[k]? = some o → T (tag o) = true → w'.heap[k]? = some o
theorem Upd.sees {B B' : Nat} {T T' : Nat → Bool} {w w' : World} (h : Upd B T w w') (hT : ∀ t, T' t = true → T t = false) : Sees B' T' w w' :=
  fun k o _ hk ht => h.block k o hk (.inr (hT _ ht))
theorem Below.sees {B' : Nat} {T' : Nat → Bool} {w w' : World} (h : Below w.heap.size w w') : Sees B' T' w w' :=
  fun k o _ hk _ => (h.block k (lt_of_some hk)).trans hk
theorem ownsRow_sees {B : Nat} {T : Nat → Bool} {w w' : World} {e size n : Nat} {v : Value} {xs : List Value} (h : w.ownsRow B e size v n xs) (hs : Sees B T w w') (hT : T e = true) : w'.ownsRow B e size v n xs := by
  refine ⟨h.1, ?_⟩
  rcases h.2 with h2 | ⟨g, cap, cur, hv, hB, hg, r⟩
  · exact .inl h2
  · exact .inr ⟨g, cap, cur, hv, hB, hs g _ hB hg hT, r⟩
theorem DiskIs.keep {B : Nat} {w w' : World} {b kb : Nat} {pv : Value} {dn : Int} {D : Disk} (h : DiskIs B w b kb pv dn D) (hs : Sees B diskT w w') : DiskIs B w' b kb pv dn D :=
  ⟨h.hb, h.hkb, hs b _ h.hb h.head rfl, hs kb _ h.hkb h.row rfl, ownsRow_sees h.pend hs rfl, h.ok⟩
section
variable {B : Nat} {w : World} {b kb : Nat} {pv : Value} {dn : Int} {D : Disk}
theorem DiskIs.c0 (h : DiskIs B w b kb pv dn D) : w.cell? ⟨b, 0, none⟩ = some (.slice (some ⟨kb, 0, none⟩) D.kept.length D.kept.length) := cellAt h.head 0 _ rfl
theorem DiskIs.c1 (h : DiskIs B w b kb pv dn D) : w.cell? ⟨b, 1, none⟩ = some pv := cellAt h.head 1 _ rfl
theorem DiskIs.c2 (h : DiskIs B w b kb pv dn D) : w.cell? ⟨b, 2, none⟩ = some (.bool D.down) := cellAt h.head 2 _ rfl
theorem DiskIs.c3 (h : DiskIs B w b kb pv dn D) : w.cell? ⟨b, 3, none⟩ = some (.bool D.armed) := cellAt h.head 3 _ rfl
theorem DiskIs.c4 (h : DiskIs B w b kb pv dn D) : w.cell? ⟨b, 4, none⟩ = some (.int .i64 (D.left : Int)) := cellAt h.head 4 _ rfl
theorem DiskIs.c5 (h : DiskIs B w b kb pv dn D) : w.cell? ⟨b, 5, none⟩ = some (.int .i64 dn) := cellAt h.head 5 _ rfl
theorem DiskIs.fr (h : DiskIs B w b kb pv dn D) (i : Nat) : w.frozen? ⟨b, i, none⟩ = false := freeAt h.head i
end
theorem DiskAt.keep {B : Nat} {w w' : World} {b : Nat} {D : Disk} (h : DiskAt B w b D) (hs : Sees B diskT w w') : DiskAt B w' b D :=
  let ⟨kb, pv, dn, hd⟩ := h; ⟨kb, pv, dn, hd.keep hs⟩
theorem ownsRow_setCell_tag {B : Nat} {w : World} {e size n : Nat} {v : Value} {xs : List Value} (h : w.ownsRow B e size v n xs) {p : Addr} {cs : Array Value} {t : Nat} {fr : Nat × Nat} (hp : w.heap[p.block]? = some (.cells cs t fr)) (hne : t ≠ e) (u : Value) :
    (w.setCell p u).ownsRow B e size v n xs := by
  refine ⟨h.1, ?_⟩
  rcases h.2 with h2 | ⟨g, cap, cur, hv, hB, hg, r⟩
  · exact .inl h2
  · refine .inr ⟨g, cap, cur, hv, hB, ?_, r⟩
    rw [heap_setCell_other _ _ _ _ (fun e' => ?_)]; exact hg
    subst e'; rw [hp] at hg; injection hg with hg; injection hg with _ ht _; exact hne ht
theorem heap_setCell_tag {w : World} {p : Addr} {cs : Array Value} {t : Nat} {fr : Nat × Nat} (hp : w.heap[p.block]? = some (.cells cs t fr)) (u : Value) {k : Nat} {cs' : Array Value} {t' : Nat} {fr' : Nat × Nat}
    (hk : w.heap[k]? = some (.cells cs' t' fr')) (hne : t ≠ t') : (w.setCell p u).heap[k]? = some (.cells cs' t' fr') := by
  rw [heap_setCell_other _ _ _ _ (fun e' => ?_)]; exact hk
  subst e'; rw [hp] at hk; injection hk with hk; injection hk with _ ht _; exact hne ht
/-- a field of the disk's head is written -/
theorem DiskIs.field {B : Nat} {w : World} {b kb : Nat} {pv : Value} {dn : Int} {D : Disk} (h : DiskIs B w b kb pv dn D) (i : Nat) (u : Value) (D' : Disk) (dn' : Int)
    (hc : (diskCells kb D.kept.length pv D.down D.armed D.left dn).setIfInBounds i u = diskCells kb D'.kept.length pv D'.down D'.armed D'.left dn') (hk : D'.kept = D.kept) (hp : D'.pend = D.pend) (hok : D'.Ok) :
    DiskIs B (w.setCell ⟨b, i, none⟩ u) b kb pv dn' D' := by
  refine ⟨h.hb, h.hkb, ?_, ?_, ?_, hok⟩
  · rw [heap_setCell_same w b i _ _ u h.head, hc]
  · rw [hk]; exact heap_setCell_tag (p := ⟨b, i, none⟩) h.head u h.row (by decide)
  · rw [hp]; exact ownsRow_setCell_tag h.pend (p := ⟨b, i, none⟩) h.head (by decide) u
theorem DiskIs.updHead {B : Nat} {w w0 : World} {b kb : Nat} {pv : Value} {dn : Int} {D : Disk} (h : DiskIs B w b kb pv dn D) (hu : Upd B diskT w0 w) (i : Nat) (u : Value) : Upd B diskT w0 (w.setCell ⟨b, i, none⟩ u) :=
  hu.setCell (p := ⟨b, i, none⟩) u h.head h.hb rfl
end Go.Proofs.YthbbammibdhohaaGreatDoor

namespace Go.Proofs.YthbbammibdhohaaGreatDoor
open Go.RowKit Aq

theorem ne0 {n : Nat} (h : 0 < n) : ((n : Int) == 0) = false := beq_eq_false_iff_ne.2 (by omega)

set_option maxHeartbeats 400000 in
theorem disk_none {w : World} {b : Nat} {a : Option Addr} {n c : Nat} (h0 : w.cell? ⟨b, 0, none⟩ = some (.slice a n c)) (hn : ((n : Int) == 0) = false) :
    Calls Tryz.prog 64 #[.pointer (some ⟨b, 0, none⟩)] w fun e w' => e = .returned (.bool false) ∧ w = w' := by
  go_enter Tryz.func64, Tryz.ntmps64
  go_wp2
  go_ret
  exact ⟨rfl, rfl⟩

set_option maxHeartbeats 400000 in
theorem disk_up0 {w : World} {b : Nat} {a : Option Addr} {n c : Nat} {dn : Bool} (h0 : w.cell? ⟨b, 0, none⟩ = some (.slice a n c)) (hn : ((n : Int) == 0) = false)
    (h2 : w.cell? ⟨b, 2, none⟩ = some (.bool dn)) :
    Calls Tryz.prog 40 #[.pointer (some ⟨b, 0, none⟩)] w fun e w' => e = .returned (.int .i64 (if dn then 10 else 0)) ∧ w = w' := by
  cases dn
  all_goals
    go_enter Tryz.func40, Tryz.ntmps40
    go_wp2_with (go_at_call 64; refine (disk_none h0 hn).mono ?_; rintro e w' ⟨rfl, rfl⟩)
    go_ret
    exact ⟨rfl, rfl⟩
theorem disk_up {B : Nat} {w : World} {b : Nat} {D : Disk} (h : DiskAt B w b D) :
    Calls Tryz.prog 40 #[.pointer (some ⟨b, 0, none⟩)] w fun e w' => e = .returned (.int .i64 (if D.down then 10 else 0)) ∧ w = w' := by
  obtain ⟨kb, pv, dn, h⟩ := h
  exact disk_up0 (h.c0) (ne0 h.ok.pos) (h.c2)

set_option maxHeartbeats 400000 in
theorem disk_is0 {w : World} {b : Nat} {a : Option Addr} {n c : Nat} {i : Int} (h0 : w.cell? ⟨b, 0, none⟩ = some (.slice a n c)) :
    Calls Tryz.prog 101 #[.pointer (some ⟨b, 0, none⟩), .int .i64 i] w fun e w' => e = .returned (.bool (decide (0 ≤ i ∧ i < n))) ∧ w = w' := by
  by_cases h1 : 0 ≤ i
  · go_enter Tryz.func101, Tryz.ntmps101
    go_wp2
    go_ret
    exact ⟨by simp [h1], rfl⟩
  · have hd : decide (0 ≤ i ∧ i < n) = false := by rw [decide_eq_false_iff_not]; omega
    rw [hd]
    clear hd
    go_enter Tryz.func101, Tryz.ntmps101
    go_wp2
    go_ret
    exact ⟨rfl, rfl⟩
theorem disk_is {B : Nat} {w : World} {b : Nat} {D : Disk} (h : DiskAt B w b D) (i : Int) :
    Calls Tryz.prog 101 #[.pointer (some ⟨b, 0, none⟩), .int .i64 i] w fun e w' => e = .returned (.bool (D.is i)) ∧ w = w' := by
  obtain ⟨kb, pv, dn, h⟩ := h
  exact disk_is0 (h.c0)

def DoesPost (w : World) (b : Nat) (ar : Bool) (l : Nat) (e : Ending) (w' : World) : Prop :=
  (ar = true ∧ l = 0 ∧ e = .returned (.int .i64 10) ∧ w' = w.setCell ⟨b, 2, none⟩ (.bool true)) ∨
  (ar = true ∧ l ≠ 0 ∧ e = .returned (.int .i64 0) ∧ ∃ d, w' = (w.setCell ⟨b, 4, none⟩ (.int .i64 ((l - 1 : Nat) : Int))).setCell ⟨b, 5, none⟩ (.int .i64 d)) ∨
  (ar = false ∧ e = .returned (.int .i64 0) ∧ ∃ d, w' = w.setCell ⟨b, 5, none⟩ (.int .i64 d))
set_option maxHeartbeats 400000 in
theorem disk_does0 {w : World} {b : Nat} {ar : Bool} {l : Nat} {dn : Int} {x : Value} (hl : l < 9223372036854775808) (h2 : w.cell? ⟨b, 2, none⟩ = some x) (f2 : w.frozen? ⟨b, 2, none⟩ = false)
    (h3 : w.cell? ⟨b, 3, none⟩ = some (.bool ar)) (h4 : w.cell? ⟨b, 4, none⟩ = some (.int .i64 (l : Int))) (f4 : w.frozen? ⟨b, 4, none⟩ = false)
    (h5 : w.cell? ⟨b, 5, none⟩ = some (.int .i64 dn)) (f5 : w.frozen? ⟨b, 5, none⟩ = false) :
    Calls Tryz.prog 112 #[.pointer (some ⟨b, 0, none⟩)] w fun e w' => DoesPost w b ar l e w' := by
  cases ar
  · go_enter Tryz.func112, Tryz.ntmps112
    go_wp2
    go_ret
    exact .inr (.inr ⟨rfl, rfl, _, rfl⟩)
  · by_cases h0 : l = 0
    · subst h0
      have h4' : w.cell? ⟨b, 4, none⟩ = some (.int .i64 0) := h4
      clear h4
      go_enter Tryz.func112, Tryz.ntmps112
      go_wp2
      go_ret
      exact .inl ⟨rfl, rfl, rfl, rfl⟩
    · have hb : ((l : Int) == 0) = false := beq_eq_false_iff_ne.2 (by omega)
      have hp : 0 < l := by omega
      have e1 : ((l - 1 : Nat) : Int) = (l : Int) - 1 := by omega
      have E := Lib.hid e1
      clear e1
      go_enter Tryz.func112, Tryz.ntmps112
      go_wp2
      go_ret
      refine .inr (.inl ⟨rfl, h0, rfl, wrap64 (dn + 1), ?_⟩)
      rw [E.out]
theorem Disk.ok_of {D D' : Disk} (h : D.Ok) (hk : D'.kept = D.kept) (hp : D'.pend = D.pend) (hl : D'.left < 9223372036854775808) : D'.Ok :=
  ⟨by rw [hk]; exact h.pos, by rw [hk]; exact h.most, by rw [hk]; exact h.len, by rw [hk, hp]; exact h.ats, hl⟩
/-- does: a count, and whether the power went -/
theorem disk_does {B : Nat} {w : World} {b kb : Nat} {pv : Value} {dn : Int} {D : Disk} (h : DiskIs B w b kb pv dn D) :
    Calls Tryz.prog 112 #[.pointer (some ⟨b, 0, none⟩)] w fun e w' => e = .returned (.int .i64 D.does.2) ∧ (∃ dn', DiskIs B w' b kb pv dn' D.does.1) ∧ Upd B diskT w w' := by
  have hl := h.ok.left
  refine (disk_does0 hl (h.c2) (h.fr 2) (h.c3) (h.c4) (h.fr 4) (h.c5) (h.fr 5)).mono ?_
  rintro e w' (⟨ha, h0, he, rfl⟩ | ⟨ha, h0, he, d, rfl⟩ | ⟨ha, he, d, rfl⟩)
  · have hd : D.does = ({ D with down := true }, 10) := by simp [Disk.does, ha, h0]
    rw [hd]
    exact ⟨he, ⟨dn, h.field 2 (.bool true) { D with down := true } dn rfl rfl rfl (Disk.ok_of h.ok rfl rfl hl)⟩, h.updHead (.refl _ _ _) 2 _⟩
  · have hd : D.does = ({ D with left := D.left - 1 }, 0) := by simp [Disk.does, ha, h0]
    rw [hd]
    have h1 := h.field 4 (.int .i64 ((D.left - 1 : Nat) : Int)) { D with left := D.left - 1 } dn rfl rfl rfl (Disk.ok_of h.ok rfl rfl (by show D.left - 1 < _; omega))
    exact ⟨he, ⟨_, h1.field 5 (.int .i64 d) { D with left := D.left - 1 } d rfl rfl rfl h1.ok⟩, h1.updHead (h.updHead (.refl _ _ _) 4 _) 5 _⟩
  · have hd : D.does = (D, 0) := by cases D; simp_all [Disk.does]
    rw [hd]
    exact ⟨he, ⟨_, h.field 5 (.int .i64 d) D d rfl rfl rfl h.ok⟩, h.updHead (.refl _ _ _) 5 _⟩

set_option maxHeartbeats 400000 in
theorem disk_Size {B : Nat} {w : World} {b : Nat} {D : Disk} (h : DiskAt B w b D) :
    Calls Tryz.prog 62 #[.pointer (some ⟨b, 0, none⟩)] w fun e w' => e = .returned (.int .i64 (D.kept.length : Int)) ∧ w = w' := by
  obtain ⟨kb, pv, dn, h⟩ := h
  have h0 := h.c0
  have hn := ne0 h.ok.pos
  clear h
  go_enter Tryz.func62, Tryz.ntmps62
  go_wp2_with (go_at_call 64; refine (disk_none h0 hn).mono ?_; rintro e w' ⟨rfl, rfl⟩)
  go_ret
  exact ⟨rfl, rfl⟩
set_option maxHeartbeats 400000 in
theorem disk_Down {B : Nat} {w : World} {b : Nat} {D : Disk} (h : DiskAt B w b D) :
    Calls Tryz.prog 33 #[.pointer (some ⟨b, 0, none⟩)] w fun e w' => e = .returned (.bool D.down) ∧ w = w' := by
  obtain ⟨kb, pv, dn, h⟩ := h
  have h0 := h.c0
  have h2 := h.c2
  have hn := ne0 h.ok.pos
  clear h
  go_enter Tryz.func33, Tryz.ntmps33
  go_wp2_with (go_at_call 64; refine (disk_none h0 hn).mono ?_; rintro e w' ⟨rfl, rfl⟩)
  go_ret
  exact ⟨rfl, rfl⟩

def DiskPost (B : Nat) (w : World) (b : Nat) (r : Disk × Int) (e : Ending) (w' : World) : Prop := e = .returned (.int .i64 r.2) ∧ DiskAt B w' b r.1 ∧ Upd B diskT w w'
set_option maxHeartbeats 400000 in
theorem disk_Off {B : Nat} {w : World} {b : Nat} {D : Disk} (h : DiskAt B w b D) :
    Calls Tryz.prog 10 #[.pointer (some ⟨b, 0, none⟩)] w (DiskPost B w b D.off) := by
  have hup := disk_up h
  have h' := h
  obtain ⟨kb, pv, dn, h⟩ := h
  have h2 := h.c2
  have f2 := h.fr 2
  cases hd : D.down with
  | true =>
    simp only [hd, if_true] at hup
    have e1 : D.off = (D, 10) := by simp [Disk.off, hd]
    rw [e1]
    have H := Lib.hid h; clear h h2 f2 e1 hd
    go_enter Tryz.func10, Tryz.ntmps10
    go_wp2_with (go_at_call 40; refine (hup).mono ?_; rintro e w' ⟨rfl, rfl⟩)
    go_ret
    exact ⟨rfl, h', .refl _ _ _⟩
  | false =>
    simp only [hd, Bool.false_eq_true, if_false] at hup
    have e1 : D.off = ({ D with down := true }, 0) := by simp [Disk.off, hd]
    rw [e1]
    have H := Lib.hid h; clear h e1 hd
    go_enter Tryz.func10, Tryz.ntmps10
    go_wp2_with (go_at_call 40; refine (hup).mono ?_; rintro e w' ⟨rfl, rfl⟩)
    go_ret
    exact ⟨rfl, ⟨_, _, _, H.out.field 2 (.bool true) { D with down := true } dn rfl rfl rfl (Disk.ok_of H.out.ok rfl rfl H.out.ok.left)⟩, H.out.updHead (.refl _ _ _) 2 _⟩
end Go.Proofs.YthbbammibdhohaaGreatDoor
