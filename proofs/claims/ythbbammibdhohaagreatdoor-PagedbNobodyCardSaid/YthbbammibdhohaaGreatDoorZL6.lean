/- (*Log).Reset comes to the model's. Conditions as stated. A drawn region, the condition S held behind the operations that c names; operations whose value hangs on no world are taken at any time. No condition. (*Log).Sync comes to the model's (one record waits). Conditions as stated. wal.unframe on a frame comes to the model's. Conditions as stated. -/
import Derived.Lib.AppendStr
import Derived.Test.YthbbammibdhohaaGreatDoorZR
import Derived.Test.YthbbammibdhohaaGreatDoorZW1
set_option linter.unusedSimpArgs false
set_option linter.unusedVariables false
namespace Go.Proofs.YthbbammibdhohaaGreatDoor
open Go.RowKit Aq Go.Rgn

def walT : Nat → Bool := fun t => diskT t || logT t
theorem walT_disk (t : Nat) (h : diskT t = true) : walT t = true := by simp [walT, h]
theorem walT_log (t : Nat) (h : logT t = true) : walT t = true := by simp [walT, h]
def LogNow (B : Nat) (w : World) (p db : Nat) (L : Log) : Prop := ∃ bv rv, LogIs B w p db bv rv (.slice none 0 0) L ∧ L.wait = [] ∧ L.lost = false ∧ L.recs.length ≤ L.bytes.length
theorem LogNow.keep {B : Nat} {w w' : World} {p db : Nat} {L : Log} (h : LogNow B w p db L) (hs : Sees B logT w w') : LogNow B w' p db L :=
  let ⟨bv, rv, hl, h1, h2⟩ := h; ⟨bv, rv, hl.keep hs, h1, h2⟩
/-- what is done to the disk, and, where all of it went well, to the log -/
def WalPost (B : Nat) (w : World) (p db : Nat) (r : Disk × Int) (L : Log) (e : Ending) (w' : World) : Prop :=
  e = .returned (.int .i64 r.2) ∧ DiskAt B w' db r.1 ∧ (r.2 = 0 → LogNow B w' p db L) ∧ Upd B walT w w'
def resetActs (L : Log) : List DAct := [.W 0 (headB (L.epoch + 1) 0), .F]
def Log.reset (L : Log) : Log := { L with epoch := L.epoch + 1, bytes := [], recs := [] }
theorem upd_disk_wal {B : Nat} {w w' : World} (h : Upd B diskT w w') : Upd B walT w w' := h.mono (Nat.le_refl _) walT_disk
theorem upd_log_wal {B : Nat} {w w' : World} (h : Upd B logT w w') : Upd B walT w w' := h.mono (Nat.le_refl _) walT_log
theorem setCell_disk {B : Nat} {w : World} {b : Nat} {D : Disk} (h : DiskAt B w b D) {p : Nat} {cs : Array Value} {fr : Nat × Nat} (hp : w.heap[p]? = some (.cells cs tLog fr)) (i : Nat) (u : Value) : DiskAt B (w.setCell ⟨p, i, none⟩ u) b D :=
  h.keep fun k o hB hk ht => by
    rw [heap_setCell_other _ _ _ _ (fun e => ?_)]; exact hk
    have e : k = p := e
    subst e; rw [hp] at hk; injection hk with hk; subst hk; cases ht
theorem loseIf_zero {L : Log} (h : L.lost = false) : Log.loseIf L 0 = L := by cases L; simp_all [Log.loseIf]
set_option maxHeartbeats 1000000 in
set_option maxRecDepth 100000 in
theorem log_Reset {B : Nat} {w : World} {p db : Nat} {L : Log} {D : Disk} (h : LogNow B w p db L) (hd : DiskAt B w db D) (hp : D.pend.length < 4294967296) (hep : L.epoch < 4611686018427387904)
    (hH : HalfAt w) (hB : 0 < B) :
    Calls Tryz.prog 84 #[.pointer (some ⟨p, 0, none⟩)] w (WalPost B w p db (D.run (resetActs L)) (Log.reset L)) := by
  obtain ⟨bv, rv, h, hw, hlo, hfew⟩ := h
  have hup := log_up h.c0 h.c7
  rw [hlo] at hup
  simp only [Bool.false_eq_true, if_false] at hup
  have h3 := h.c3; have h6 := h.c6
  have hBs : B ≤ w.heap.size := Nat.le_trans h.hp (Nat.le_of_lt (lt_of_some h.head))
  have hwr := log_write h hd hp hH hB hBs (L.epoch + 1) 0 (by omega) (by omega)
  obtain ⟨r, hr⟩ : ∃ r, r = D.run (resetActs L) := ⟨_, rfl⟩
  rw [show D.run [.W 0 (headB (L.epoch + 1) 0), .F] = r from hr.symm] at hwr
  rw [← hr]
  obtain ⟨D1, x⟩ := r
  have g1 : ((L.epoch : Int) == 4611686018427387904) = false := beq_eq_false_iff_ne.2 (by omega)
  have g2 : ¬ (L.epoch : Int) = 4611686018427387904 := by omega
  have g3 : (L.epoch : Int) < 4611686018427387904 := by omega
  have L2 := h.ok
  have H := Lib.hid h; have HW := Lib.hid hw; have HLO := Lib.hid hlo
  clear h hw hlo hr hd hH
  by_cases hx : x = 0
  · subst hx
    have hlose : ∀ w1, Upd B diskT w w1 → Calls Tryz.prog 96 #[.pointer (some ⟨p, 0, none⟩), .int .i64 0] w1 (LosePost B w1 p db bv rv (.slice none 0 0) L 0) := fun w1 hu => log_lose (H.out.keep (hu.sees logT_disk)) 0
    go_enter Tryz.func84, Tryz.ntmps84
    go_wp2_with (first
      | (go_at_call 93; refine hup.mono ?_; rintro e w' ⟨rfl, rfl⟩)
      | (go_at_call 98; refine hwr.mono ?_; rintro e w1 ⟨rfl, hd1, hu1⟩; have HD1 := Lib.hid hd1; have HU1 := Lib.hid hu1; clear hd1 hu1)
      | (go_at_call 96; refine (hlose _ HU1.out).mono ?_; rintro e w2 ⟨rfl, hl2, b, hw2⟩; rw [loseIf_zero HLO.out] at hl2; have h23 := hl2.c3; have f23 := hl2.fr 3; have h24 := hl2.c4; have f24 := hl2.fr 4; have h25 := hl2.c5; have f25 := hl2.fr 5; have HL2 := Lib.hid hl2; have HW2 := Lib.hid hw2; clear hl2 hw2))
    go_ret
    have hl2 := HL2.out
    have hd2 : DiskAt B w2 db D1 := by rw [HW2.out]; exact setCell_disk HD1.out (H.out.keep (HU1.out.sees logT_disk)).head 7 _
    have hu2 : Upd B walT w w2 := by
      rw [HW2.out]
      exact (H.out.keep (HU1.out.sees logT_disk)).updHead (upd_disk_wal HU1.out) rfl 7 _
    have k3 := hl2.field 3 (.int .i64 ((L.epoch : Int) + 1)) bv rv (.slice none 0 0) { L with epoch := L.epoch + 1 } (by rfl) hl2.bytes hl2.recs hl2.wait hl2.apart ⟨L2.n2, L2.nmax, hep, L2.fits, L2.few, L2.waits, L2.long⟩
    have k4 := k3.field 4 (.slice none 0 0) (.slice none 0 0) rv (.slice none 0 0) { L with epoch := L.epoch + 1, bytes := [] } rfl ⟨none, 0, rfl, .inl rfl⟩ k3.recs k3.wait k3.apart ⟨L2.n2, L2.nmax, hep, Nat.zero_le _, L2.few, L2.waits, L2.long⟩
    have k5 := k4.field 5 (.slice none 0 0) (.slice none 0 0) (.slice none 0 0) (.slice none 0 0) (Log.reset L) rfl k4.bytes (World.ownsRow_nil _ _ _ _) k4.wait (fun g hg => by cases hg) ⟨L2.n2, L2.nmax, hep, Nat.zero_le _, Nat.zero_le _, L2.waits, L2.long⟩
    exact ⟨rfl, setCell_disk (setCell_disk (setCell_disk hd2 hl2.head 3 _) k3.head 4 _) k4.head 5 _, fun _ => ⟨_, _, k5, HW.out, HLO.out, Nat.le_refl _⟩, k4.updHead (k3.updHead (hl2.updHead hu2 rfl 3 _) rfl 4 _) rfl 5 _⟩
  · have hb : (x != 0) = true := by simpa using hx
    have hlose : ∀ w1, Upd B diskT w w1 → Calls Tryz.prog 96 #[.pointer (some ⟨p, 0, none⟩), .int .i64 x] w1 (LosePost B w1 p db bv rv (.slice none 0 0) L x) := fun w1 hu => log_lose (H.out.keep (hu.sees logT_disk)) x
    go_enter Tryz.func84, Tryz.ntmps84
    go_wp2_with (first
      | (go_at_call 93; refine hup.mono ?_; rintro e w' ⟨rfl, rfl⟩)
      | (go_at_call 98; refine hwr.mono ?_; rintro e w1 ⟨rfl, hd1, hu1⟩; have HD1 := Lib.hid hd1; have HU1 := Lib.hid hu1; clear hd1 hu1)
      | (go_at_call 96; refine (hlose _ HU1.out).mono ?_; rintro e w2 ⟨rfl, hl2, b, hw2⟩; have HW2 := Lib.hid hw2; clear hl2 hw2))
    go_ret
    have hk := H.out.keep (HU1.out.sees logT_disk)
    refine ⟨rfl, ?_, fun h => absurd h hx, ?_⟩
    · rw [HW2.out]; exact setCell_disk HD1.out hk.head 7 _
    · rw [HW2.out]; exact hk.updHead (upd_disk_wal HU1.out) rfl 7 _
end Go.Proofs.YthbbammibdhohaaGreatDoor

namespace Go.Rgn
open Go
section
variable {P : Program} {ops : Array Oper} {Q : Exit → Act → World → Prop} {S : World → Prop} {c : Nat → Bool}

def anyC (P : Program) (ops : Array Oper) (Q : Exit → Act → World → Prop) (S : World → Prop) (c : Nat → Bool) : Nat → Array Bool → Act → World → Prop
  | 0, lst, a, w => Region.ready .any ops lst = [] ∧ Q .normal a w
  | f + 1, lst, a, w => (Region.ready .any ops lst = [] → Q .normal a w) ∧
      ∀ i, i ∈ Region.ready .any ops lst → wpOp P ops Q i (fun a' w' => (c i = true → S w') ∧ anyC P ops Q S c f (lst.setIfInBounds i true) a' w') a w

theorem any_of_anyC : ∀ (f : Nat) (lst : Array Bool) (a : Act) (w : World), anyC P ops Q S c f lst a w → wpAny P .any ops Q f lst a w := by
  intro f
  induction f with
  | zero => intro lst a w h; exact h
  | succ f ih => intro lst a w h; exact ⟨h.1, fun i hi => wpOp_mono (fun a' w' hk => ih _ a' w' hk.2) (h.2 i hi)⟩

/-- each operation not yet taken but i is named by c, or waits for i by an edge of its own -/
def waitB (ops : Array Oper) (c : Nat → Bool) (lst : Array Bool) (i : Nat) : Bool :=
  (List.range ops.size).all fun j => j == i || lst.getD j true || c j || match ops[j]? with
    | some o => o.after.any fun e => Region.binds .any e && e.on == i
    | none => false
theorem waitB_spec {lst : Array Bool} {i : Nat} (hT : waitB ops c lst i = true) {j : Nat} {oj : Oper} (hj : ops[j]? = some oj) (hne : j ≠ i) (hu : lst.getD j true = false) (hno : ∀ e ∈ oj.after, Region.binds .any e = true → e.on ≠ i) : c j = true := by
  have hjs := (Array.getElem?_eq_some_iff.1 hj).1
  have h1 := List.all_eq_true.1 hT j (List.mem_range.2 hjs)
  rw [hj, hu] at h1
  simp only [Bool.or_eq_true, beq_iff_eq, hne, false_or, Bool.false_eq_true] at h1
  rcases h1 with h1 | h1
  · exact h1
  · obtain ⟨e, he, hb⟩ := Array.any_eq_true'.1 h1
    rw [Bool.and_eq_true, beq_iff_eq] at hb
    exact absurd hb.2 (hno e he hb.1)

theorem anyC_first {S' : World → Prop} {i : Nat} {oi : Oper} {v : Value} (hi : ops[i]? = some oi) (hsel : ∀ (j : Nat) (o : Oper) cs b, ops[j]? = some o → o.op ≠ .select cs b)
    (hQ : ∀ c a w, Q (.panic c) (a.put oi.dst v) w → Q (.panic c) a w) (hSS : ∀ w, S' w → c i = true → S w) (f : Nat) : ∀ (lst : Array Bool) (a : Act) (w : World),
      (∀ j oj, ops[j]? = some oj → j ≠ i → lst.getD j true = false → (∀ e ∈ oj.after, Region.binds .any e = true → e.on ≠ i) → oi.apart ops oj = true) →
      (∀ j oj, ops[j]? = some oj → j ≠ i → lst.getD j true = false → (∀ e ∈ oj.after, Region.binds .any e = true → e.on ≠ i) → ∀ w', (c j = true → S w') → S' w') →
      i ∈ Region.ready .any ops lst → YieldsIf P ops S' oi v a → S' w →
      anyC P ops Q S c f (lst.setIfInBounds i true) (a.put oi.dst v) w → anyC P ops Q S c (f + 1) lst a w := by
  induction f with
  | zero =>
    intro lst a w _ _ hr hy hS H
    refine ⟨fun h => absurd hr (by rw [h]; exact List.not_mem_nil), fun j hj => ?_⟩
    by_cases e : j = i
    · subst e; exact hy.wpOp hi hS ⟨hSS w hS, H⟩
    · exact absurd (ready_mono hj e) (by rw [H.1]; exact List.not_mem_nil)
  | succ f ih =>
    intro lst a w hfree hkeep hr hy hS H
    refine ⟨fun h => absurd hr (by rw [h]; exact List.not_mem_nil), fun j hj => ?_⟩
    by_cases e : j = i
    · subst e; exact hy.wpOp hi hS ⟨hSS w hS, H⟩
    obtain ⟨hju, oj, hoj, hall⟩ := mem_ready.1 hj
    have hno := done_of_waits (j := j) (mem_ready.1 hr).1 hall
    have h2 := wpOp_putIf (S := S') hoj (hfree j oj hoj e hju hno) (fun cs b => hsel i oi cs b hi) (fun cs b => hsel j oj cs b hoj) hQ hy (H.2 j (ready_mono hj e))
    refine wpOp_mono (fun a' w' hk => ?_) h2
    obtain ⟨hy', hs', hk'⟩ := hk
    have hun' : ∀ k, (lst.setIfInBounds j true).getD k true = false → lst.getD k true = false := by
      intro k hun
      by_cases hjk : j = k
      · subst hjk; exact hju
      · rw [getD_set_ne true hjk] at hun; exact hun
    refine ⟨hs', ih (lst.setIfInBounds j true) a' w' (fun k ok hk hki hun hnk => hfree k ok hk hki (hun' k hun) hnk) (fun k ok hk hki hun hnk => hkeep k ok hk hki (hun' k hun) hnk) (ready_mono hr (Ne.symm e)) hy' (hkeep j oj hoj e hju hno w' hs') ?_⟩
    rw [Array.setIfInBounds_comm _ _ e]; exact hk'

/-- a path of binding edges leads from j to i through operations not yet taken -/
def pathB (ops : Array Oper) (lst : Array Bool) (i : Nat) : Nat → Nat → Bool
  | 0, _ => false
  | f + 1, j => match ops[j]? with
    | some o => o.after.any fun e => Region.binds .any e && (e.on == i || (!(lst.getD e.on true) && pathB ops lst i f e.on))
    | none => false
theorem path_ready {lst : Array Bool} {i j : Nat} {oj : Oper} (hi : lst.getD i true = false) (hj : ops[j]? = some oj) (hall : ∀ e ∈ oj.after, Region.binds .any e = true → lst.getD e.on false = true) (f : Nat) : pathB ops lst i f j = false := by
  cases f with
  | zero => rfl
  | succ f =>
    unfold pathB
    rw [hj]
    rw [Array.any_eq_false']
    intro e he hh
    rw [Bool.and_eq_true, Bool.or_eq_true] at hh
    obtain ⟨hb, hh⟩ := hh
    rcases hh with hh | hh
    · exact done_of_waits (j := j) hi hall e he hb (beq_iff_eq.1 hh)
    · rw [Bool.and_eq_true] at hh
      have h1 := hall e he hb
      have h2 := hh.1
      rcases Nat.lt_or_ge e.on lst.size with hl | hl
      · simp only [Array.getD_eq_getD_getElem?, Array.getElem?_eq_getElem hl, Option.getD_some] at h1 h2
        rw [h1] at h2; cases h2
      · simp [Array.getElem?_eq_none hl] at h1
theorem path_set {lst : Array Bool} {i j : Nat} (hno : ∀ f, pathB ops lst i f j = false) : ∀ (f k : Nat), pathB ops lst i f k = true → pathB ops (lst.setIfInBounds j true) i f k = true := by
  intro f
  induction f with
  | zero => intro k h; cases h
  | succ f ih =>
    intro k h
    unfold pathB at h ⊢
    split at h
    · rename_i o ho
      obtain ⟨e, he, hh⟩ := Array.any_eq_true'.1 h
      refine Array.any_eq_true'.2 ⟨e, he, ?_⟩
      rw [Bool.and_eq_true, Bool.or_eq_true] at hh ⊢
      refine ⟨hh.1, ?_⟩
      rcases hh.2 with h1 | h1
      · exact .inl h1
      · refine .inr ?_
        rw [Bool.and_eq_true] at h1 ⊢
        have hne : j ≠ e.on := fun e' => by rw [← e', hno f] at h1; cases h1.2
        exact ⟨by rw [getD_set_ne true hne]; exact h1.1, ih _ h1.2⟩
    · cases h
theorem anyC_firstP {i : Nat} {oi : Oper} {v : Value} (hi : ops[i]? = some oi) (hsel : ∀ (j : Nat) (o : Oper) cs b, ops[j]? = some o → o.op ≠ .select cs b)
    (hQ : ∀ c a w, Q (.panic c) (a.put oi.dst v) w → Q (.panic c) a w) (f : Nat) : ∀ (lst : Array Bool) (a : Act) (w : World),
      (∀ j oj, ops[j]? = some oj → j ≠ i → lst.getD j true = false → (∀ e ∈ oj.after, Region.binds .any e = true → e.on ≠ i) → oi.apart ops oj = true) →
      (∀ j oj, ops[j]? = some oj → j ≠ i → lst.getD j true = false → c j = true ∨ ∃ g, pathB ops lst i g j = true) →
      i ∈ Region.ready .any ops lst → YieldsIf P ops S oi v a → S w →
      anyC P ops Q S c f (lst.setIfInBounds i true) (a.put oi.dst v) w → anyC P ops Q S c (f + 1) lst a w := by
  induction f with
  | zero =>
    intro lst a w _ _ hr hy hS H
    refine ⟨fun h => absurd hr (by rw [h]; exact List.not_mem_nil), fun j hj => ?_⟩
    by_cases e : j = i
    · subst e; exact hy.wpOp hi hS ⟨fun _ => hS, H⟩
    · exact absurd (ready_mono hj e) (by rw [H.1]; exact List.not_mem_nil)
  | succ f ih =>
    intro lst a w hfree hkeep hr hy hS H
    refine ⟨fun h => absurd hr (by rw [h]; exact List.not_mem_nil), fun j hj => ?_⟩
    by_cases e : j = i
    · subst e; exact hy.wpOp hi hS ⟨fun _ => hS, H⟩
    obtain ⟨hju, oj, hoj, hall⟩ := mem_ready.1 hj
    have hiu := (mem_ready.1 hr).1
    have hno := done_of_waits (j := j) hiu hall
    have hnp := fun g => path_ready hiu hoj hall g
    have hcj : c j = true := (hkeep j oj hoj e hju).resolve_right fun ⟨g, hg⟩ => by rw [hnp g] at hg; cases hg
    have h2 := wpOp_putIf (S := S) hoj (hfree j oj hoj e hju hno) (fun cs b => hsel i oi cs b hi) (fun cs b => hsel j oj cs b hoj) hQ hy (H.2 j (ready_mono hj e))
    refine wpOp_mono (fun a' w' hk => ?_) h2
    obtain ⟨hy', hs', hk'⟩ := hk
    have hun' : ∀ k, (lst.setIfInBounds j true).getD k true = false → lst.getD k true = false := by
      intro k hun
      by_cases hjk : j = k
      · subst hjk; exact hju
      · rw [getD_set_ne true hjk] at hun; exact hun
    refine ⟨hs', ih (lst.setIfInBounds j true) a' w' (fun k ok hk hki hun hnk => hfree k ok hk hki (hun' k hun) hnk)
      (fun k ok hk hki hun => (hkeep k ok hk hki (hun' k hun)).imp id fun ⟨g, hg⟩ => ⟨g, path_set hnp g k hg⟩) (ready_mono hr (Ne.symm e)) hy' (hs' hcj) ?_⟩
    rw [Array.setIfInBounds_comm _ _ e]; exact hk'
def keepB (ops : Array Oper) (c : Nat → Bool) (lst : Array Bool) (i : Nat) : Bool :=
  (List.range ops.size).all fun j => j == i || lst.getD j true || c j || pathB ops lst i ops.size j
theorem keepB_spec {lst : Array Bool} {i : Nat} (hT : keepB ops c lst i = true) {j : Nat} {oj : Oper} (hj : ops[j]? = some oj) (hne : j ≠ i) (hu : lst.getD j true = false) : c j = true ∨ ∃ g, pathB ops lst i g j = true := by
  have h1 := List.all_eq_true.1 hT j (List.mem_range.2 (Array.getElem?_eq_some_iff.1 hj).1)
  rw [hu] at h1
  simp only [Bool.or_eq_true, beq_iff_eq, hne, false_or, Bool.false_eq_true] at h1
  exact h1.imp id fun h => ⟨_, h⟩
/-- take operation i first: it reads under S; what is left is named by c or waits for i -/
theorem anyC_takeP (i d : Nat) {oi : Oper} {v : Value} {f : Nat} {lst : Array Bool} {a : Act} {w : World} (hw : keepB ops c lst i = true) (hs : Region.noSelect ops = true) (hi : ops[i]? = some oi) (hd : oi.dst = some d)
    (hf : Region.free .any ops lst i = true) (hr : (Region.ready .any ops lst).contains i = true)
    (hQ : ∀ c a v w, Q (.panic c) (Act.put a (some d) v) w → Q (.panic c) a w) (hS : S w) (hy : YieldsIf P ops S oi v a)
    (h : anyC P ops Q S c f (lst.setIfInBounds i true) (a.put (some d) v) w) : anyC P ops Q S c (f + 1) lst a w :=
  anyC_firstP hi (Region.noSelect_spec hs) (fun c a w => by rw [hd]; exact hQ c a _ w) f lst a w (Region.free_spec hi hf) (fun j oj hj hne hu => keepB_spec hw hj hne hu) (by simpa using hr) hy hS (by rw [hd]; exact h)
/-- take operation i first: it reads under S -/
theorem anyC_take (i d : Nat) {oi : Oper} {v : Value} {f : Nat} {lst : Array Bool} {a : Act} {w : World} (hw : waitB ops c lst i = true) (hs : Region.noSelect ops = true) (hi : ops[i]? = some oi) (hd : oi.dst = some d)
    (hf : Region.free .any ops lst i = true) (hr : (Region.ready .any ops lst).contains i = true)
    (hQ : ∀ c a v w, Q (.panic c) (Act.put a (some d) v) w → Q (.panic c) a w) (hS : S w) (hy : YieldsIf P ops S oi v a)
    (h : anyC P ops Q S c f (lst.setIfInBounds i true) (a.put (some d) v) w) : anyC P ops Q S c (f + 1) lst a w :=
  anyC_first hi (Region.noSelect_spec hs) (fun c a w => by rw [hd]; exact hQ c a _ w) (fun _ h _ => h) f lst a w (Region.free_spec hi hf) (fun j oj hj hne hu hno w' hcs => hcs (waitB_spec hw hj hne hu hno)) (by simpa using hr) hy hS (by rw [hd]; exact h)
/-- take operation i first: its value hangs on no world -/
theorem anyC_pure (i d : Nat) {oi : Oper} {v : Value} {f : Nat} {lst : Array Bool} {a : Act} {w : World} (hc : c i = false) (hs : Region.noSelect ops = true) (hi : ops[i]? = some oi) (hd : oi.dst = some d)
    (hf : Region.free .any ops lst i = true) (hr : (Region.ready .any ops lst).contains i = true)
    (hQ : ∀ c a v w, Q (.panic c) (Act.put a (some d) v) w → Q (.panic c) a w) (hy : YieldsIf P ops (fun _ => True) oi v a)
    (h : anyC P ops Q S c f (lst.setIfInBounds i true) (a.put (some d) v) w) : anyC P ops Q S c (f + 1) lst a w :=
  anyC_first hi (Region.noSelect_spec hs) (fun c a w => by rw [hd]; exact hQ c a _ w) (fun _ _ hci => by rw [hc] at hci; cases hci) f lst a w (Region.free_spec hi hf) (fun _ _ _ _ _ _ _ _ => trivial) (by simpa using hr) hy trivial (by rw [hd]; exact h)
theorem anyC_one (i : Nat) (d : Option Tmp) (op : Op) (ty : TypeId) {oi : Oper} {f : Nat} {lst : Array Bool} {a : Act} {w : World} (hr : Region.ready .any ops lst = [i]) (hi : ops[i]? = some oi) (hg : oi.guard = none) (hd : oi.dst = d) (hop : oi.op = op) (hty : oi.type = ty)
    (h : (Oper.mk d op ty oi.pos oi.after none).wp P a w (fun a' w' => (c i = true → S w') ∧ anyC P ops Q S c f (lst.setIfInBounds i true) a' w') Q) : anyC P ops Q S c (f + 1) lst a w := by
  refine ⟨fun h0 => absurd (hr.symm.trans h0) (List.cons_ne_nil _ _), fun j hj => ?_⟩
  rw [hr] at hj
  obtain rfl := List.mem_singleton.1 hj
  subst hd; subst hop; subst hty
  unfold wpOp
  simp only [hi, Region.wanted, hg, if_true]
  refine .inl ?_
  have e : Oper.mk oi.dst oi.op oi.type oi.pos oi.after none = oi := by cases oi; simp_all
  rw [e] at h
  exact h
theorem wpOp_of (i : Nat) (d : Option Tmp) (op : Op) (ty : TypeId) {oi : Oper} {a : Act} {w : World} {K : Act → World → Prop} (hi : ops[i]? = some oi) (hg : oi.guard = none) (hd : oi.dst = d) (hop : oi.op = op) (hty : oi.type = ty)
    (h : (Oper.mk d op ty oi.pos oi.after none).wp P a w K Q) : wpOp P ops Q i K a w := by
  subst hd; subst hop; subst hty
  unfold wpOp
  simp only [hi, Region.wanted, hg, if_true]
  refine .inl ?_
  have e : Oper.mk oi.dst oi.op oi.type oi.pos oi.after none = oi := by cases oi; simp_all
  rw [e] at h
  exact h
/-- two may come up: both ways -/
theorem anyC_two (i j : Nat) {f : Nat} {lst : Array Bool} {a : Act} {w : World} (hr : Region.ready .any ops lst = [i, j])
    (h1 : wpOp P ops Q i (fun a' w' => (c i = true → S w') ∧ anyC P ops Q S c f (lst.setIfInBounds i true) a' w') a w)
    (h2 : wpOp P ops Q j (fun a' w' => (c j = true → S w') ∧ anyC P ops Q S c f (lst.setIfInBounds j true) a' w') a w) : anyC P ops Q S c (f + 1) lst a w := by
  refine ⟨fun h0 => absurd (hr.symm.trans h0) (List.cons_ne_nil _ _), fun k hk => ?_⟩
  rw [hr] at hk
  rcases List.mem_cons.1 hk with rfl | hk
  · exact h1
  · rw [List.mem_singleton] at hk; subst hk; exact h2
theorem anyC_done {f : Nat} {lst : Array Bool} {a : Act} {w : World} (hr : Region.ready .any ops lst = []) (h : Q .normal a w) : anyC P ops Q S c f lst a w := by
  cases f with
  | zero => exact ⟨hr, h⟩
  | succ f => exact ⟨fun _ => h, fun i hi => by rw [hr] at hi; cases hi⟩
theorem wp_region_C (S : World → Prop) (c : Nat → Bool) {id : Nat} {a : Act} {w : World} (hm : P.follows .mixedOrders = true)
    (h : anyC P ops Q S c ops.size (Array.replicate ops.size false) a { w with drawn := w.drawn + 1 }) : (Code.region id ops true).wp P Q a w :=
  wp_region_any hm (any_of_anyC _ _ _ _ h)
end
end Go.Rgn

namespace Go.Proofs.YthbbammibdhohaaGreatDoor
open Go.RowKit Aq Go.Rgn

def syncAll (L : Log) (r : Bs) : Bs := L.bytes ++ frameB r
def syncActs (L : Log) (r : Bs) : List DAct := layActs L.bytes.length (syncAll L r) ++ [.F, .W 0 (headB L.epoch (syncAll L r).length), .F]
def Log.sync (L : Log) (r : Bs) : Log := { L with bytes := syncAll L r, recs := L.recs ++ [r], wait := [] }
theorem frame_len (r : Bs) : (frameB r).length = 8 + r.length := by simp [frameB, sumB, num_len]; omega
def SyncInv (w : World) (v0 : Value) (w1 : World) (n : Nat) (all : Bs) (u v : Value) (wr : World) : Prop :=
  (v = .int .i64 0 ∧ u = v0 ∧ wr = w1) ∨ (v = .int .i64 1 ∧ wr.ownsRow w.heap.size 5 1 u n (all.map byt) ∧ Below w.heap.size w wr)
theorem strCells_eq (s : ByteArray) : Lib.strCells s = s.data.toList.map byt := by rfl
theorem owns_below {B : Nat} {w w' : World} {e size n : Nat} {v : Value} {xs : List Value} (h : w.ownsRow B e size v n xs) (hb : Below w.heap.size w w') : w'.ownsRow B e size v n xs := ownsRow_sees (T := fun _ => true) h (Below.sees hb) rfl
theorem rowIs_low {B C : Nat} {w : World} {e : Nat} {v : Value} {xs : List Value} (h : RowIs C w e v xs) (hB : B ≤ C) : RowIs B w e v xs :=
  let ⟨a, c, hv, h⟩ := h; ⟨a, c, hv, h.imp id fun ⟨g, cur, ha, hg, r⟩ => ⟨g, cur, ha, Nat.le_trans hB hg, r⟩⟩
theorem owns_cap {B : Nat} {w : World} {e n c : Nat} {a : Option Addr} {xs : List Value} (h : w.ownsRow B e 1 (.slice a n c) n xs) : n ≤ c := by
  rcases h.2 with ⟨hv, rfl⟩ | ⟨g, cap, cur, hv, _, _, hn, _⟩
  · exact Nat.zero_le _
  · injection hv with _ _ h3; rw [h3]; exact hn
theorem act_pend (D : Disk) (a : DAct) : (D.act a).1.pend.length ≤ D.pend.length + 1 := by
  cases a with
  | W i s => exact write_pend D i s
  | F =>
    show D.flush.1.pend.length ≤ _
    unfold Disk.flush
    have h := (Disk.does_eq D).2
    split
    · exact Nat.le_succ _
    split
    · exact Nat.zero_le _
    · rw [h]; exact Nat.le_succ _
theorem run_pend (l : List DAct) : ∀ D : Disk, (D.run l).1.pend.length ≤ D.pend.length + l.length := by
  induction l with
  | nil => intro D; exact Nat.le_refl _
  | cons a l ih =>
    intro D
    have h1 := act_pend D a
    have h2 := ih (D.act a).1
    simp only [Disk.run, List.length_cons]
    split <;> omega
theorem layActs_len (old : Nat) (all : Bs) : (layActs old all).length ≤ (all.length + 63) / 64 := by simp [layActs]
def HeldS (p wg : Nat) (rv : Value) (wc : Nat) (r : Bs) (w : World) : Prop := w.cell? ⟨p, 5, none⟩ = some rv ∧ w.cell? ⟨p, 6, none⟩ = some (.slice (some ⟨wg, 0, none⟩) 1 wc) ∧ w.cell? ⟨wg, 0, none⟩ = some (tx r)
theorem LogIs.ne_rec {B : Nat} {w : World} {p db : Nat} {bv rv wv : Value} {L : Log} (h : LogIs B w p db bv rv wv L) : some p ≠ rv.ownBlock := by
  rcases h.recs.2 with ⟨rfl, _⟩ | ⟨g, cap, cur, rfl, _, hg, _⟩
  · simp [Value.ownBlock]
  · simp only [Value.ownBlock, ne_eq, Option.some.injEq]; intro e; subst e; have := h.head; rw [this] at hg; injection hg with hg; injection hg with _ ht; cases ht
def strT : Nat → Bool := fun t => t == 9
theorem LogIs.grownRec {B : Nat} {w w' : World} {p db : Nat} {bv rv wv : Value} {L : Log} (h : LogIs B w p db bv rv wv L) (hg : w.grownBy w' rv.ownBlock) :
    Upd B strT w w' ∧ w'.heap[p]? = some (.cells (logCells db L.n L.epoch bv rv wv L.lost) tLog (0, 0)) := by
  refine ⟨(Upd.refl B strT w).grown hg (fun k o hk ho => ?_), (hg.block p (lt_of_some h.head) h.ne_rec).trans h.head⟩
  rcases h.recs.2 with ⟨rfl, _⟩ | ⟨g, cap, cur, rfl, hB, hgg, _⟩
  · simp [Value.ownBlock] at hk
  · simp only [Value.ownBlock, Option.some.injEq] at hk; subst hk; rw [hgg] at ho; injection ho with ho; subst ho; exact ⟨hB, rfl⟩
theorem LogIs.synced {B : Nat} {w w' : World} {p db : Nat} {bv rv wv : Value} {L : Log} {D : Disk} (h : LogIs B w p db bv rv wv L) (hd : DiskAt B w db D) (hg : w.grownBy w' rv.ownBlock) (r all : Bs) (v' av : Value)
    (hown : w'.ownsRow B 9 1 v' (L.recs.length + 1) (txs L.recs ++ [tx r])) (hrow : RowIs B w 5 av (all.map byt)) (hok : (Log.sync L r).Ok) (hall : syncAll L r = all) :
    let w1 := ((w'.setCell ⟨p, 4, none⟩ av).setCell ⟨p, 5, none⟩ v').setCell ⟨p, 6, none⟩ (.slice none 0 0)
    LogIs B w1 p db av v' (.slice none 0 0) (Log.sync L r) ∧ DiskAt B w1 db D ∧ Upd B walT w w1 := by
  obtain ⟨hu, hh⟩ := h.grownRec hg
  have hd' : DiskAt B w' db D := hd.keep (hu.sees fun t ht => by
    simp only [diskT, Bool.or_eq_true, beq_iff_eq] at ht
    rcases ht with (rfl | rfl) | rfl <;> rfl)
  have hrow' : RowIs B w' 5 av (all.map byt) := hrow.sees (T := fun t => t == 5) (hu.sees fun t ht => by rw [beq_iff_eq] at ht; subst ht; rfl) rfl
  have h4 := heap_setCell_same w' p 4 _ _ av hh
  have h5 := heap_setCell_same _ p 5 _ _ v' h4
  have h6 := heap_setCell_same _ p 6 _ _ (.slice none 0 0) h5
  refine ⟨⟨h.hp, h6, ?_, ?_, World.ownsRow_nil _ _ _ _, (fun g _ hv => by cases hv), hok⟩, setCell_disk (setCell_disk (setCell_disk hd' hh 4 _) h4 5 _) h5 6 _, ?_⟩
  · rw [show (Log.sync L r).bytes = all from hall]
    exact ((hrow'.setCell_tag (p := ⟨p, 4, none⟩) hh (by decide) _).setCell_tag (p := ⟨p, 5, none⟩) h4 (by decide) _).setCell_tag (p := ⟨p, 6, none⟩) h5 (by decide) _
  · have e : txs (Log.sync L r).recs = txs L.recs ++ [tx r] := by simp [Log.sync, txs]
    rw [e, show (Log.sync L r).recs.length = L.recs.length + 1 by simp [Log.sync]]
    exact ownsRow_setCell_tag (ownsRow_setCell_tag (ownsRow_setCell_tag hown (p := ⟨p, 4, none⟩) hh (by decide) _) (p := ⟨p, 5, none⟩) h4 (by decide) _) (p := ⟨p, 6, none⟩) h5 (by decide) _
  · have hu' : Upd B walT w w' := hu.mono (Nat.le_refl _) (fun t ht => by simp only [strT, beq_iff_eq] at ht; subst ht; rfl)
    exact ((hu'.setCell (p := ⟨p, 4, none⟩) _ hh h.hp rfl).setCell (p := ⟨p, 5, none⟩) _ h4 h.hp rfl).setCell (p := ⟨p, 6, none⟩) _ h5 h.hp rfl
set_option maxHeartbeats 2000000 in
set_option maxRecDepth 100000 in
theorem log_Sync {B : Nat} {w : World} {p db : Nat} {bv rv wv : Value} {L : Log} {D : Disk} (h : LogIs B w p db bv rv wv L) (r : Bs) (hw : L.wait = [r]) (hlo : L.lost = false) (hfew : L.recs.length ≤ L.bytes.length)
    (hd : DiskAt B w db D) (hp : D.pend.length < 2147483648) (hfit : L.bytes.length + (8 + r.length) ≤ 64 * (L.n - 1)) (hH : HalfAt w) (hB : 0 < B) :
    Calls Tryz.prog 58 #[.pointer (some ⟨p, 0, none⟩)] w (WalPost B w p db (D.run (syncActs L r)) (Log.sync L r)) := by
  have hup := log_up h.c0 h.c7
  rw [hlo] at hup
  simp only [Bool.false_eq_true, if_false] at hup
  have h4 := h.c4; have h5 := h.c5; have h6 := h.c6
  have hBs : B ≤ w.heap.size := Nat.le_trans h.hp (Nat.le_of_lt (lt_of_some h.head))
  have hok := h.ok
  -- what waits
  obtain ⟨wg, wc, hwv, hwg, hwgl⟩ : ∃ wg wc, wv = .slice (some ⟨wg, 0, none⟩) 1 wc ∧ w.cell? ⟨wg, 0, none⟩ = some (tx r) ∧ wg < w.heap.size := by
    have h1 := RowIs.of_owns h.wait
    rw [hw] at h1
    obtain ⟨a, c, hv, h1⟩ := h1
    rcases h1 with h1 | ⟨g, cur, hg, _, hh, hc⟩
    · cases h1
    · exact ⟨g, c, by rw [hv, hg]; rfl, cellAt hh 0 _ (hc 0 (tx r) rfl), lt_of_some hh⟩
  subst hwv
  obtain ⟨ba, bc, hbv⟩ := h.bytes.shape
  have hclone := clone_bytes ba (L.bytes.map byt).length bc (L.bytes.map byt) (by rw [← hbv]; exact h.bytes) (by have := hok.fits; have := hok.nmax; simp; omega) (byt_one _)
  rw [hbv] at h4
  rw [List.length_map] at h4 hclone
  have hr64 : r.length ≤ 65536 := hok.long r (by rw [hw]; exact List.mem_singleton.2 rfl)
  have hframe : ∀ w1, Below w.heap.size w w1 → Calls Tryz.prog 95 #[tx r] w1 (NumPost w1 (frameB r)) := fun w1 hb =>
    wal_frame w1 (hH.below hb (by omega)) (Below.lt hb (by omega)) ⟨r.toArray⟩ hr64
  obtain ⟨all, hall⟩ : ∃ all, all = syncAll L r := ⟨_, rfl⟩
  have hlen : all.length = L.bytes.length + (8 + r.length) := by rw [hall, syncAll, List.length_append, frame_len]
  obtain ⟨i0, hin, hz0, hz1, hz2⟩ := info_parts Tryz.info_u8b
  obtain ⟨i1, hin1, hy0, hy1, hy2⟩ := info_parts Tryz.info_str
  have HIN := Lib.hid hin; have HZ0 := Lib.hid hz0; have HZ1 := Lib.hid hz1; have HZ2 := Lib.hid hz2
  have HIN1 := Lib.hid hin1; have HY0 := Lib.hid hy0; have HY1 := Lib.hid hy1; have HY2 := Lib.hid hy2
  have H := Lib.hid h; have HW := Lib.hid hw; have HLO := Lib.hid hlo; have HBV := Lib.hid hbv; have HOK := Lib.hid hok; have HALL := Lib.hid hall; have HLEN := Lib.hid hlen; have HD := Lib.hid hd; have HWG := Lib.hid hwg
  clear hin hz0 hz1 hz2 hin1 hy0 hy1 hy2 h hw hlo hbv hok hall hlen hd
  obtain ⟨R, hR⟩ : ∃ R, R = D.run (syncActs L r) := ⟨_, rfl⟩
  rw [← hR]
  have HR := Lib.hid hR; clear hR
  go_enter Tryz.func58, Tryz.ntmps58
  go_wp2_with (first
    | (go_at_call 93; refine hup.mono ?_; rintro e w' ⟨rfl, rfl⟩)
    | (go_at_call 94; refine hclone.mono ?_; rintro e w1 ⟨v0, rfl, hown, hb⟩; have hl1 := H.out.keep (Below.sees hb); have h16 := hl1.c6; have HO1 := Lib.hid hown; have HB1 := Lib.hid hb; have HL1 := Lib.hid hl1; clear hown hb hl1))
  go_loopw [4, 30] (fun u v wr => SyncInv w v0 w1 all.length all u v wr) (fun _ v _ => 1 - (intOf v).toNat)
  case atStart => exact .inl ⟨rfl, rfl, rfl⟩
  case round =>
    rcases hrel with ⟨rfl, rfl, rfl⟩ | ⟨rfl, hown, hb⟩
    · have hwg1 : wr.cell? ⟨wg, 0, none⟩ = some (tx r) := (HB1.out.cell (p := ⟨wg, 0, none⟩) hwgl).trans HWG.out
      obtain ⟨va, vc, rfl⟩ := owns_shape HO1.out
      have hb1 := HB1.out
      have hq : L.bytes.length + (⟨(frameB r).toArray⟩ : ByteArray).size ≤ 4294967296 := by show _ + (frameB r).length ≤ _; rw [frame_len]; have := HOK.out.nmax; omega
      have HQ1 : Hid (L.bytes.length + (⟨(frameB r).toArray⟩ : ByteArray).size ≤ maxLen) := Nat.le_trans hq (by decide)
      have HQ2 : Hid (L.bytes.length + (⟨(frameB r).toArray⟩ : ByteArray).size ≤ 140737488355328) := Nat.le_trans hq (by decide)
      clear hq
      have hb15 : L.bytes.length + (frameB r).length ≤ 4294967296 := by rw [frame_len]; have := HOK.out.nmax; omega
      go_wp2_with (first
        | (go_at_call 95; refine (hframe _ hb1).mono ?_; rintro e w2 ⟨rfl, hb2⟩; have HB2 := Lib.hid hb2; have HO2 := Lib.hid (owns_below HO1.out hb2); clear hb2)
        | (at_builtin; go_must (refine Lib.wpList_append_own_string _ rfl (.tmp 34) (.tmp 36) 122 9 rfl w.heap.size 5 i0 Tryz.underlying122 Tryz.underlying9 HIN.out HZ0.out HZ1.out HZ2.out _ _ _ rfl HO2.out ⟨(frameB r).toArray⟩ rfl HQ1.out HQ2.out (Nat.le_trans hb1.size HB2.out.size) ?_); intro v' w3 hown3 hgrow3 _; have HO3 := Lib.hid hown3; have HG3 := Lib.hid hgrow3; clear hown3 hgrow3))
      go_roundw
      case rel =>
        refine .inr ⟨rfl, ?_, ?_⟩
        · have h3 := HO3.out
          rw [strCells_eq, ← List.map_append] at h3
          rw [HLEN.out, HALL.out]
          rw [show (⟨(frameB r).toArray⟩ : ByteArray).size = 8 + r.length from frame_len r] at h3
          exact h3
        · exact (hb1.trans (HB2.out.mono hb1.size)).grown HG3.out (Nat.le_trans hb1.size HB2.out.size) (fun k hk => (owns_block HO2.out hk).1)
      case measure => decide
    · obtain ⟨aa, ac, rfl⟩ := owns_shape hown
      have hcap := owns_cap hown
      have hl2 := H.out.keep (Below.sees hb)
      have hd2 : DiskAt B wr db D := HD.out.keep (Below.sees hb)
      have hrow : RowIs B wr 5 (.slice aa all.length ac) (all.map byt) := rowIs_low (RowIs.of_owns hown) hBs
      have hmax : all.length ≤ 4194304 := by have := HLEN.out; have := HOK.out.nmax; omega
      have hlay := log_lay hl2 hd2 aa ac all hrow hcap (by omega) (by have := HLEN.out; omega) (by omega)
      obtain ⟨r1, hr1⟩ : ∃ r1, r1 = D.run (layActs L.bytes.length all ++ [.F]) := ⟨_, rfl⟩
      rw [← hr1] at hlay
      have HR1 := Lib.hid hr1; have HL2 := Lib.hid hl2; have HROW := Lib.hid hrow; have HBL := Lib.hid hb
      clear hr1 hl2 hd2 hrow hb hown hcap
      obtain ⟨D1, x⟩ := r1
      go_wp2_with (first
        | (go_at_call 97; refine hlay.mono ?_; rintro e w2 ⟨rfl, hd2, hu2⟩; have HD2 := Lib.hid hd2; have HU2 := Lib.hid hu2; clear hd2 hu2))
      have hRR : R = if x = 0 then D1.run [.W 0 (headB L.epoch all.length), .F] else (D1, x) := by
        have e : syncActs L r = (layActs L.bytes.length all ++ [.F]) ++ [.W 0 (headB L.epoch all.length), .F] := by rw [syncActs, ← HALL.out]; simp
        rw [HR.out, e, Disk.run_append, ← HR1.out]
      have HRR := Lib.hid hRR; clear hRR
      have hl3 := HL2.out.keep (HU2.out.sees logT_disk)
      have HL3 := Lib.hid hl3; clear hl3
      by_cases hx : x = 0
      · subst hx
        have hlose := log_lose HL3.out 0
        have hRR := HRR.out
        rw [if_pos rfl] at hRR
        have hpd : D1.pend.length < 4294967296 := by
          have h1 := run_pend (layActs L.bytes.length all ++ [.F]) D
          rw [← HR1.out, List.length_append] at h1
          have h2 := layActs_len L.bytes.length all
          have h3 : D1.pend.length ≤ D.pend.length + ((layActs L.bytes.length all).length + 1) := h1
          omega
        have hub : Upd B walT w w2 := upd_disk_wal ((Upd.of_below HBL.out).trans HU2.out)
        have hBl : Below B w w2 := hub.below hBs
        have hH2 : HalfAt w2 := fun t ht => (hBl.cell (p := ⟨0, t, none⟩) hB).trans (hH t ht)
        have HUB := Lib.hid hub; have HH2 := Lib.hid hH2
        have hBs2 : B ≤ w2.heap.size := Nat.le_trans hBs hub.size
        clear hub hBl hH2
        obtain ⟨r2, hr2⟩ : ∃ r2, r2 = D1.run [.W 0 (headB L.epoch all.length), .F] := ⟨_, rfl⟩
        rw [← hr2] at hRR
        obtain ⟨D2, y⟩ := r2
        have HRR2 := Lib.hid hRR; have HR2 := Lib.hid hr2
        clear hRR hr2
        go_wp2_with (first
          | (go_at_call 96; refine hlose.mono ?_; rintro e w3 ⟨rfl, hl4, b, hw3⟩; rw [loseIf_zero HLO.out] at hl4; have h33 := hl4.c3; have HW3 := Lib.hid hw3; have HL4 := Lib.hid hl4; clear hl4 hw3))
        have hl4 := HL4.out
        have hd3 : DiskAt B w3 db D1 := by rw [HW3.out]; exact setCell_disk HD2.out HL3.out.head 7 _
        have hu3 : Upd B walT w w3 := by rw [HW3.out]; exact HL3.out.updHead HUB.out rfl 7 _
        have hH3 : HalfAt w3 := fun t ht => ((hu3.below hBs).cell (p := ⟨0, t, none⟩) hB).trans (hH t ht)
        have hwr := log_write hl4 hd3 hpd hH3 hB (Nat.le_trans hBs hu3.size) L.epoch all.length (by have := HOK.out.epoch; omega) (by omega)
        rw [← HR2.out] at hwr
        have HU3 := Lib.hid hu3
        clear hl4 hd3 hu3 hH3
        go_wp2_with (first
          | (go_at_call 98; refine hwr.mono ?_; rintro e w4 ⟨rfl, hd4, hu4⟩; have HD4 := Lib.hid hd4; have HU4 := Lib.hid hu4; clear hd4 hu4))
        have hl5 := HL4.out.keep (HU4.out.sees logT_disk)
        have HL5 := Lib.hid hl5; clear hl5
        by_cases hy : y = 0
        · subst hy
          have hlose2 := log_lose HL5.out 0
          go_wp2_with (first
            | (go_at_call 96; refine hlose2.mono ?_; rintro e w5 ⟨rfl, hl6, b2, hw5⟩; rw [loseIf_zero HLO.out] at hl6; have HW5 := Lib.hid hw5; have HL6 := Lib.hid hl6; clear hl6 hw5))
          have hl6 := HL6.out
          have hd5 : DiskAt B w5 db D2 := by rw [HW5.out]; exact setCell_disk HD4.out HL5.out.head 7 _
          have hu5 : Upd B walT w w5 := by rw [HW5.out]; exact HL5.out.updHead (HU3.out.trans (upd_disk_wal HU4.out)) rfl 7 _
          have hw5 : LogIs B w5.drew p db bv rv (.slice (some ⟨wg, 0, none⟩) 1 wc) L := hl6.keep (Below.sees ((Below.refl _ w5).drew))
          have hd5' : DiskAt B w5.drew db D2 := hd5.keep (Below.sees ((Below.refl _ w5).drew))
          have hS0 : HeldS p wg rv wc r w5.drew := by
            refine ⟨hw5.c5, hw5.c6, ?_⟩
            have h1 := RowIs.of_owns hw5.wait
            rw [HW.out] at h1
            obtain ⟨g, hg, hc⟩ := h1.cell (t := 0) (u := tx r) rfl
            injection hg with hg; injection hg with hg; subst hg
            exact hc
          have HSROW : Sees B (fun t => t == 5) wr w5.drew := by
            have n1 : ∀ t, (t == 5) = true → diskT t = false := fun t ht => by rw [beq_iff_eq] at ht; subst ht; rfl
            have n2 : ∀ (wa : World) (b : Bool), LogIs B wa p db bv rv (.slice (some ⟨wg, 0, none⟩) 1 wc) L → Sees B (fun t => t == 5) wa (wa.setCell ⟨p, 7, none⟩ (.bool b)) := fun wa b hl k o _ hk ht => by
              rw [heap_setCell_other _ _ _ _ (fun e => ?_)]; exact hk
              have e : k = p := e
              subst e; rw [hl.head] at hk; injection hk with hk; subst hk; cases ht
            have s1 := HU2.out.sees n1 (B' := B)
            have s2 := n2 w2 b HL3.out
            rw [← HW3.out] at s2
            have s3 := HU4.out.sees n1 (B' := B)
            have s4 := n2 w4 b2 HL5.out
            rw [← HW5.out] at s4
            intro k o hB hk ht
            exact s4 k o hB (s3 k o hB (s2 k o hB (s1 k o hB hk ht) ht) ht) ht
          have hrow5 : RowIs B w5.drew 5 (.slice aa all.length ac) (all.map byt) := HROW.out.sees (T := fun t => t == 5) HSROW rfl
          have hok5 : (Log.sync L r).Ok := by
            have ho := HOK.out
            refine ⟨ho.n2, ho.nmax, ho.epoch, ?_, ?_, Nat.zero_le _, (fun x hx => by cases hx)⟩
            · rw [show (Log.sync L r).bytes = all from HALL.out.symm, HLEN.out]; exact hfit
            · show (L.recs ++ [r]).length ≤ _
              rw [List.length_append]
              have := ho.fits; have := ho.nmax
              show L.recs.length + 1 ≤ _; omega
          have hsy := fun v' w' h1 h2 => hw5.synced (w' := w') hd5' h2 r all v' (.slice aa all.length ac) h1 hrow5 hok5 HALL.out.symm
          have hgr := fun w' h2 => hw5.grownRec (w' := w') h2
          have hrec := hw5.recs
          have hnews : ∀ (t : Nat) (u : Value), [tx r][t]? = some u → w5.drew.cell? ((⟨wg, 0, none⟩ : Addr).add t) = some u := by
            intro t u hu
            match t, hu with
            | 0, hu =>
              simp only [List.getElem?_cons_zero, Option.some.injEq] at hu
              subst hu
              rw [Addr.add_here]; exact hS0.2.2
          have hm1 : L.recs.length + 1 ≤ maxLen := by have := HOK.out.few; unfold maxLen; omega
          have hm2 : (L.recs.length + 1) * 16 ≤ 140737488355328 := by have := HOK.out.few; omega
          have hm3 : B ≤ w5.drew.heap.size := Nat.le_trans hBs hu5.size
          refine wp_region_C (HeldS p wg rv wc r) (fun i => i == 7 || i == 11) (by kernel_rfl) ?_
          change anyC _ _ _ _ _ 22 _ _ w5.drew
          refine anyC_pure 0 60 (by decide) (by kernel_rfl) rfl rfl (by kernel_rfl) (by kernel_rfl) (fun _ _ _ _ h => h) (yi_move _ _ rfl rfl rfl) ?_
          simp only [Act.put, act_eval_tmp, act_eval_const, List.setIfInBounds_toArray, List.set_cons_succ, List.set_cons_zero, List.getD_cons_succ, List.getD_cons_zero]
          refine anyC_pure 1 61 (by decide) (by kernel_rfl) rfl rfl (by kernel_rfl) (by kernel_rfl) (fun _ _ _ _ h => h) (yi_move _ _ rfl rfl rfl) ?_
          simp only [Act.put, act_eval_tmp, act_eval_const, List.setIfInBounds_toArray, List.set_cons_succ, List.set_cons_zero, List.getD_cons_succ, List.getD_cons_zero]
          refine anyC_pure 2 62 (by decide) (by kernel_rfl) rfl rfl (by kernel_rfl) (by kernel_rfl) (fun _ _ _ _ h => h) (yi_move _ _ rfl rfl rfl) ?_
          simp only [Act.put, act_eval_tmp, act_eval_const, List.setIfInBounds_toArray, List.set_cons_succ, List.set_cons_zero, List.getD_cons_succ, List.getD_cons_zero]
          refine anyC_pure 3 63 (by decide) (by kernel_rfl) rfl rfl (by kernel_rfl) (by kernel_rfl) (fun _ _ _ _ h => h) (yi_move _ _ rfl rfl rfl) ?_
          simp only [Act.put, act_eval_tmp, act_eval_const, List.setIfInBounds_toArray, List.set_cons_succ, List.set_cons_zero, List.getD_cons_succ, List.getD_cons_zero]
          refine anyC_pure 4 64 (by decide) (by kernel_rfl) rfl rfl (by kernel_rfl) (by kernel_rfl) (fun _ _ _ _ h => h) (yi_move _ _ rfl rfl rfl) ?_
          simp only [Act.put, act_eval_tmp, act_eval_const, List.setIfInBounds_toArray, List.set_cons_succ, List.set_cons_zero, List.getD_cons_succ, List.getD_cons_zero]
          refine anyC_pure 5 65 (by decide) (by kernel_rfl) rfl rfl (by kernel_rfl) (by kernel_rfl) (fun _ _ _ _ h => h) (yi_nilCheck _ _ rfl rfl rfl) ?_
          simp only [Act.put, act_eval_tmp, act_eval_const, List.setIfInBounds_toArray, List.set_cons_succ, List.set_cons_zero, List.getD_cons_succ, List.getD_cons_zero]
          refine anyC_pure 6 66 (by decide) (by kernel_rfl) rfl rfl (by kernel_rfl) (by kernel_rfl) (fun _ _ _ _ h => h) (yi_field 124 5 _ _ _ 5 rfl rfl rfl (by kernel_rfl)) ?_
          simp only [Act.put, act_eval_tmp, act_eval_const, List.setIfInBounds_toArray, List.set_cons_succ, List.set_cons_zero, List.getD_cons_succ, List.getD_cons_zero]
          refine anyC_pure 8 68 (by decide) (by kernel_rfl) rfl rfl (by kernel_rfl) (by kernel_rfl) (fun _ _ _ _ h => h) (yi_move _ _ rfl rfl rfl) ?_
          simp only [Act.put, act_eval_tmp, act_eval_const, List.setIfInBounds_toArray, List.set_cons_succ, List.set_cons_zero, List.getD_cons_succ, List.getD_cons_zero]
          refine anyC_pure 9 69 (by decide) (by kernel_rfl) rfl rfl (by kernel_rfl) (by kernel_rfl) (fun _ _ _ _ h => h) (yi_nilCheck _ _ rfl rfl rfl) ?_
          simp only [Act.put, act_eval_tmp, act_eval_const, List.setIfInBounds_toArray, List.set_cons_succ, List.set_cons_zero, List.getD_cons_succ, List.getD_cons_zero]
          refine anyC_pure 10 70 (by decide) (by kernel_rfl) rfl rfl (by kernel_rfl) (by kernel_rfl) (fun _ _ _ _ h => h) (yi_field 124 6 _ _ _ 6 rfl rfl rfl (by kernel_rfl)) ?_
          simp only [Act.put, act_eval_tmp, act_eval_const, List.setIfInBounds_toArray, List.set_cons_succ, List.set_cons_zero, List.getD_cons_succ, List.getD_cons_zero]
          refine anyC_takeP 7 67 (by kernel_rfl) (by kernel_rfl) rfl rfl (by kernel_rfl) (by kernel_rfl) (fun _ _ _ _ h => h) hS0 (yi_load 91 _ ⟨p, 5, none⟩ rv rfl rfl rfl (by kernel_rfl) (fun w hw => hw.1)) ?_
          simp only [Act.put, act_eval_tmp, act_eval_const, List.setIfInBounds_toArray, List.set_cons_succ, List.set_cons_zero, List.getD_cons_succ, List.getD_cons_zero]
          refine anyC_takeP 11 71 (by kernel_rfl) (by kernel_rfl) rfl rfl (by kernel_rfl) (by kernel_rfl) (fun _ _ _ _ h => h) hS0 (yi_load 91 _ ⟨p, 6, none⟩ (.slice (some ⟨wg, 0, none⟩) 1 wc) rfl rfl rfl (by kernel_rfl) (fun w hw => hw.2.1)) ?_
          simp only [Act.put, act_eval_tmp, act_eval_const, List.setIfInBounds_toArray, List.set_cons_succ, List.set_cons_zero, List.getD_cons_succ, List.getD_cons_zero]
          refine anyC_one 12 (some 72) _ 91 (by kernel_rfl) rfl rfl rfl rfl rfl ?_
          refine wp_append_own' (.tmp 67) (.tmp 71) 91 rfl B 9 i1 _ 1 16 Tryz.underlying91 HIN1.out HY0.out HY1.out HY2.out rfl (by decide) rv _ _ rfl hrec ⟨wg, 0, none⟩ 1 wc [tx r] rfl rfl hnews (by intro u hu; rw [List.mem_singleton.1 hu]; rfl) hm1 hm2 hm3 ?_
          intro v' w6 hown' hgrow
          obtain ⟨hl7, hd7, hu7⟩ := hsy v' w6 hown' hgrow
          obtain ⟨_, hh⟩ := hgr w6 hgrow
          have hh4 := heap_setCell_same w6 p 4 _ _ (.slice aa all.length ac) hh
          have hh5 := heap_setCell_same _ p 5 _ _ v' hh4
          refine ⟨fun h => absurd h (by decide), ?_⟩
          simp only [Act.put, act_eval_tmp, act_eval_const, List.setIfInBounds_toArray, List.set_cons_succ, List.set_cons_zero, List.getD_cons_succ, List.getD_cons_zero]
          refine anyC_pure 13 73 (by decide) (by kernel_rfl) rfl rfl (by kernel_rfl) (by kernel_rfl) (fun _ _ _ _ h => h) (yi_nilCheck _ _ rfl rfl rfl) ?_
          simp only [Act.put, act_eval_tmp, act_eval_const, List.setIfInBounds_toArray, List.set_cons_succ, List.set_cons_zero, List.getD_cons_succ, List.getD_cons_zero]
          refine anyC_pure 14 74 (by decide) (by kernel_rfl) rfl rfl (by kernel_rfl) (by kernel_rfl) (fun _ _ _ _ h => h) (yi_field 124 4 _ _ _ 4 rfl rfl rfl (by kernel_rfl)) ?_
          simp only [Act.put, act_eval_tmp, act_eval_const, List.setIfInBounds_toArray, List.set_cons_succ, List.set_cons_zero, List.getD_cons_succ, List.getD_cons_zero]
          refine anyC_one 15 none _ 0 (by kernel_rfl) rfl rfl rfl rfl rfl ?_
          refine wp_store_cell 122 _ _ rfl ⟨p, 4, none⟩ rfl (.slice aa all.length ac) bv rfl rfl (by kernel_rfl) (cellAt hh 4 _ rfl) (freeAt hh 4) ⟨fun h => absurd h (by decide), ?_⟩
          simp only [Act.put, act_eval_tmp, act_eval_const, List.setIfInBounds_toArray, List.set_cons_succ, List.set_cons_zero, List.getD_cons_succ, List.getD_cons_zero]
          refine anyC_pure 16 75 (by decide) (by kernel_rfl) rfl rfl (by kernel_rfl) (by kernel_rfl) (fun _ _ _ _ h => h) (yi_nilCheck _ _ rfl rfl rfl) ?_
          simp only [Act.put, act_eval_tmp, act_eval_const, List.setIfInBounds_toArray, List.set_cons_succ, List.set_cons_zero, List.getD_cons_succ, List.getD_cons_zero]
          refine anyC_pure 17 76 (by decide) (by kernel_rfl) rfl rfl (by kernel_rfl) (by kernel_rfl) (fun _ _ _ _ h => h) (yi_field 124 5 _ _ _ 5 rfl rfl rfl (by kernel_rfl)) ?_
          simp only [Act.put, act_eval_tmp, act_eval_const, List.setIfInBounds_toArray, List.set_cons_succ, List.set_cons_zero, List.getD_cons_succ, List.getD_cons_zero]
          refine anyC_one 18 none _ 0 (by kernel_rfl) rfl rfl rfl rfl rfl ?_
          refine wp_store_cell 91 _ _ rfl ⟨p, 5, none⟩ rfl v' rv rfl (ownsRow_oneCell hown') (by kernel_rfl) (cellAt hh4 5 _ rfl) (freeAt hh4 5) ⟨fun h => absurd h (by decide), ?_⟩
          simp only [Act.put, act_eval_tmp, act_eval_const, List.setIfInBounds_toArray, List.set_cons_succ, List.set_cons_zero, List.getD_cons_succ, List.getD_cons_zero]
          refine anyC_pure 19 77 (by decide) (by kernel_rfl) rfl rfl (by kernel_rfl) (by kernel_rfl) (fun _ _ _ _ h => h) (yi_nilCheck _ _ rfl rfl rfl) ?_
          simp only [Act.put, act_eval_tmp, act_eval_const, List.setIfInBounds_toArray, List.set_cons_succ, List.set_cons_zero, List.getD_cons_succ, List.getD_cons_zero]
          refine anyC_pure 20 78 (by decide) (by kernel_rfl) rfl rfl (by kernel_rfl) (by kernel_rfl) (fun _ _ _ _ h => h) (yi_field 124 6 _ _ _ 6 rfl rfl rfl (by kernel_rfl)) ?_
          simp only [Act.put, act_eval_tmp, act_eval_const, List.setIfInBounds_toArray, List.set_cons_succ, List.set_cons_zero, List.getD_cons_succ, List.getD_cons_zero]
          refine anyC_one 21 none _ 0 (by kernel_rfl) rfl rfl rfl rfl rfl ?_
          refine wp_store_cell 91 _ _ rfl ⟨p, 6, none⟩ rfl (.slice none 0 0) (.slice (some ⟨wg, 0, none⟩) 1 wc) rfl rfl (by kernel_rfl) (cellAt hh5 6 _ rfl) (freeAt hh5 6) ⟨fun h => absurd h (by decide), ?_⟩
          simp only [Act.put, act_eval_tmp, act_eval_const, List.setIfInBounds_toArray, List.set_cons_succ, List.set_cons_zero, List.getD_cons_succ, List.getD_cons_zero]
          refine anyC_done (by kernel_rfl) ?_
          have HF := Lib.hid hl7; have HF2 := Lib.hid hd7; have HF3 := Lib.hid hu7; have HU5 := Lib.hid hu5
          clear hl7 hd7 hu7 hu5 hown' hgrow hh hh4 hh5 hsy hgr hrec hnews hm1 hm2 hm3 hok5 hrow5 hS0 hd5' hw5 hl6 hd5
          go_wp2
          go_ret
          rw [HRR2.out]
          refine ⟨rfl, HF2.out, fun _ => ⟨_, _, HF.out, rfl, HLO.out, ?_⟩, (HU5.out.drew).trans HF3.out⟩
          show (L.recs ++ [r]).length ≤ (syncAll L r).length
          rw [← HALL.out, HLEN.out, List.length_append]
          show L.recs.length + 1 ≤ _; omega
        · have hlose2 := log_lose HL5.out y
          have hb2 : (y != 0) = true := by simpa using hy
          go_wp2_with (first
            | (go_at_call 96; refine hlose2.mono ?_; rintro e w5 ⟨rfl, hl6, b2, hw5⟩; have HW5 := Lib.hid hw5; clear hl6 hw5))
          go_ret
          have hupd := HL5.out.updHead (HU3.out.trans (upd_disk_wal HU4.out)) rfl 7 (.bool b2)
          rw [HRR2.out]
          refine ⟨rfl, ?_, fun h => absurd h hy, ?_⟩
          · rw [HW5.out]; exact setCell_disk HD4.out HL5.out.head 7 _
          · rw [HW5.out]; exact hupd
      · have hRR := HRR.out
        rw [if_neg hx] at hRR
        have hlose := log_lose HL3.out x
        have hb2 : (x != 0) = true := by simpa using hx
        go_wp2_with (first
          | (go_at_call 96; refine hlose.mono ?_; rintro e w3 ⟨rfl, hl4, b, hw3⟩; have HW3 := Lib.hid hw3; clear hl4 hw3))
        go_ret
        have hupd := HL3.out.updHead (upd_disk_wal ((Upd.of_below HBL.out).trans HU2.out)) rfl 7 (.bool b)
        rw [hRR]
        refine ⟨rfl, ?_, fun h => absurd h hx, ?_⟩
        · rw [HW3.out]; exact setCell_disk HD2.out HL3.out.head 7 _
        · rw [HW3.out]; exact hupd
end Go.Proofs.YthbbammibdhohaaGreatDoor

namespace Go.Proofs.YthbbammibdhohaaGreatDoor
open Go.RowKit Aq Go.Rgn

def UnPost (w : World) (r : Bs) (k : Nat) (e : Ending) (w' : World) : Prop := e = .returned (.tuple #[tx r, .int .i64 (k : Int), .bool true]) ∧ Below w.heap.size w w'
set_option maxHeartbeats 2000000 in
set_option maxRecDepth 100000 in
theorem wal_unframe (w : World) (hH : HalfAt w) (hB : 0 < w.heap.size) (b : ByteArray) (r rest : Bs) (hb : b.data.toList = frameB r ++ rest) (hr : r.length ≤ 65536) (hbs : b.size ≤ 4294967296) :
    Calls Tryz.prog 79 #[.string b] w (UnPost w r (8 + r.length)) := by
  have hsz : b.size = 8 + r.length + rest.length := by
    have : b.data.toList.length = b.size := rfl
    rw [← this, hb, List.length_append, frame_len]
  have e1 : (b.extract 0 4).data.toList = num r.length 4 := by
    rw [Lib.extract_data, hb, List.drop_zero]
    show (frameB r ++ rest).take 4 = _
    have : (num r.length 4).length = 4 := num_len _ _
    rw [frameB, List.append_assoc, List.append_assoc, List.take_append_of_le_length (by omega), List.take_of_length_le (by omega)]
  have hv : val (b.extract 0 4).data.toList = r.length := by rw [e1]; exact val_num 4 _ (by omega)
  have hval := wal_value w (b.extract 0 4) (by rw [ByteArray.size_extract]; omega)
  rw [hv] at hval
  have g1 : ¬ ((b.size : Int) < 8) := by omega
  have g2 : (4 : Int) ≤ (b.size : Int) := by omega
  have g3 : ¬ (65536 < (r.length : Int)) := by omega
  have g4 : ¬ ((b.size : Int) - 8 < (r.length : Int)) := by omega
  have g5 : (8 : Int) + (r.length : Int) ≤ (b.size : Int) := by omega
  have g6 : (8 : Int) ≤ 8 + (r.length : Int) := by omega
  go_enter Tryz.func79, Tryz.ntmps79
  go_wp2_with (first
    | (go_at_call 77; refine hval.mono ?_; rintro e w' ⟨rfl, rfl⟩))
  have hw1 : IntKind.i64.wrap (r.length : Int) = (r.length : Int) := wraps_i64 _ (by omega) (by omega)
  have hw2 : IntKind.i64.wrap (8 + (r.length : Int)) = 8 + (r.length : Int) := wraps_i64 _ (by omega) (by omega)
  have g7 : ¬ ((b.size : Int) < 4) := by omega
  have g8 : ¬ ((b.size : Int) < 8) := by omega
  have g9 : (8 : Int) ≤ (b.size : Int) := by omega
  have hlen : min 4 b.size + r.length ≤ 9223372036854775807 := by omega
  have hlen2 : min 4 b.size + (min (8 + r.length) b.size - 8) ≤ 9223372036854775807 := by omega
  have hx4 : (b.extract 4 8).data.toList = sumB (num r.length 4 ++ r) := by
    rw [Lib.extract_data, hb, frameB]
    have h1 : (num r.length 4).length = 4 := num_len _ _
    have h2 : (sumB (num r.length 4 ++ r)).length = 4 := num_len _ _
    rw [List.append_assoc, List.append_assoc, List.drop_append_of_le_length (by omega), List.drop_of_length_le (by omega), List.nil_append, List.take_append_of_le_length (by omega), List.take_of_length_le (by omega)]
  have hxr : (b.extract 8 (8 + r.length)).data.toList = r := by
    rw [Lib.extract_data, hb, frameB]
    have h1 : (num r.length 4).length = 4 := num_len _ _
    have h2 : (sumB (num r.length 4 ++ r)).length = 4 := num_len _ _
    rw [List.append_assoc, List.drop_left' (by rw [List.length_append]; omega), List.take_append_of_le_length (by omega), List.take_of_length_le (by omega)]
  have hsum := wal_sum w.drew hH hB (b.extract 0 4 ++ b.extract 8 (8 + r.length)) (by simp only [ByteArray.size_append, ByteArray.size_extract]; omega)
  rw [data_app, e1, hxr] at hsum
  obtain ⟨l4, hl4⟩ : ∃ l4, l4 = sumB (num r.length 4 ++ r) := ⟨_, rfl⟩
  rw [← hl4] at hsum hx4
  have HX4 := Lib.hid hx4; have HXR := Lib.hid hxr; have HE1 := Lib.hid e1
  have heq : l4 = (b.extract 4 8).toList := by
    rw [Lib.toList_data, hx4]
  clear hx4 hxr e1 hl4 hb
  have HSZ := Lib.hid hsz
  clear hsz
  refine wp_region_C (fun _ => True) (fun i => i == 8) (by kernel_rfl) ?_
  change anyC _ _ _ _ _ 15 _ _ w.drew
  have hT : True := trivial
  refine anyC_pure 0 28 (by decide) (by kernel_rfl) rfl rfl (by kernel_rfl) (by kernel_rfl) (fun _ _ _ _ h => h) (yi_move _ _ rfl rfl rfl) ?_
  simp only [Act.put, act_eval_tmp, act_eval_const, List.setIfInBounds_toArray, List.set_cons_succ, List.set_cons_zero, List.getD_cons_succ, List.getD_cons_zero]
  refine anyC_pure 1 29 (by decide) (by kernel_rfl) rfl rfl (by kernel_rfl) (by kernel_rfl) (fun _ _ _ _ h => h) (yi_move _ _ rfl rfl rfl) ?_
  simp only [Act.put, act_eval_tmp, act_eval_const, List.setIfInBounds_toArray, List.set_cons_succ, List.set_cons_zero, List.getD_cons_succ, List.getD_cons_zero]
  refine anyC_pure 2 30 (by decide) (by kernel_rfl) rfl rfl (by kernel_rfl) (by kernel_rfl) (fun _ _ _ _ h => h) (yi (v := .int .i64 (r.length : Int)) rfl (fun w _ => by go_simp)) ?_
  simp only [Act.put, act_eval_tmp, act_eval_const, List.setIfInBounds_toArray, List.set_cons_succ, List.set_cons_zero, List.getD_cons_succ, List.getD_cons_zero]
  refine anyC_pure 3 31 (by decide) (by kernel_rfl) rfl rfl (by kernel_rfl) (by kernel_rfl) (fun _ _ _ _ h => h) (yi (v := .int .i64 (8 + r.length : Int)) rfl (fun w _ => by go_simp)) ?_
  simp only [Act.put, act_eval_tmp, act_eval_const, List.setIfInBounds_toArray, List.set_cons_succ, List.set_cons_zero, List.getD_cons_succ, List.getD_cons_zero]
  refine anyC_pure 4 32 (by decide) (by kernel_rfl) rfl rfl (by kernel_rfl) (by kernel_rfl) (fun _ _ _ _ h => h) (yi_move _ _ rfl rfl rfl) ?_
  simp only [Act.put, act_eval_tmp, act_eval_const, List.setIfInBounds_toArray, List.set_cons_succ, List.set_cons_zero, List.getD_cons_succ, List.getD_cons_zero]
  refine anyC_pure 5 33 (by decide) (by kernel_rfl) rfl rfl (by kernel_rfl) (by kernel_rfl) (fun _ _ _ _ h => h) (yi (v := .string (b.extract 0 4)) rfl (fun w _ => by go_simp)) ?_
  simp only [Act.put, act_eval_tmp, act_eval_const, List.setIfInBounds_toArray, List.set_cons_succ, List.set_cons_zero, List.getD_cons_succ, List.getD_cons_zero]
  refine anyC_pure 6 34 (by decide) (by kernel_rfl) rfl rfl (by kernel_rfl) (by kernel_rfl) (fun _ _ _ _ h => h) (yi_move _ _ rfl rfl rfl) ?_
  simp only [Act.put, act_eval_tmp, act_eval_const, List.setIfInBounds_toArray, List.set_cons_succ, List.set_cons_zero, List.getD_cons_succ, List.getD_cons_zero]
  refine anyC_pure 7 35 (by decide) (by kernel_rfl) rfl rfl (by kernel_rfl) (by kernel_rfl) (fun _ _ _ _ h => h) (yi (v := .string (b.extract 0 4 ++ b.extract 8 (8 + r.length))) rfl (fun w _ => by go_simp)) ?_
  simp only [Act.put, act_eval_tmp, act_eval_const, List.setIfInBounds_toArray, List.set_cons_succ, List.set_cons_zero, List.getD_cons_succ, List.getD_cons_zero]
  refine anyC_pure 9 37 (by decide) (by kernel_rfl) rfl rfl (by kernel_rfl) (by kernel_rfl) (fun _ _ _ _ h => h) (yi_move _ _ rfl rfl rfl) ?_
  simp only [Act.put, act_eval_tmp, act_eval_const, List.setIfInBounds_toArray, List.set_cons_succ, List.set_cons_zero, List.getD_cons_succ, List.getD_cons_zero]
  refine anyC_pure 10 38 (by decide) (by kernel_rfl) rfl rfl (by kernel_rfl) (by kernel_rfl) (fun _ _ _ _ h => h) (yi (v := .string (b.extract 4 8)) rfl (fun w _ => by go_simp)) ?_
  simp only [Act.put, act_eval_tmp, act_eval_const, List.setIfInBounds_toArray, List.set_cons_succ, List.set_cons_zero, List.getD_cons_succ, List.getD_cons_zero]
  refine anyC_one 8 (some 36) _ 9 (by kernel_rfl) rfl rfl rfl rfl rfl ?_
  refine wp_callFn 109 #[.string (b.extract 0 4 ++ b.extract 8 (8 + r.length))] _ (by kernel_rfl) hsum ?_
  rintro _ w1 ⟨rfl, hb1⟩
  have HB1 := Lib.hid hb1; clear hb1
  refine ⟨_, rfl, fun _ => trivial, ?_⟩
  simp only [Act.put, act_eval_tmp, act_eval_const, List.setIfInBounds_toArray, List.set_cons_succ, List.set_cons_zero, List.getD_cons_succ, List.getD_cons_zero]
  refine anyC_pure 11 39 (by decide) (by kernel_rfl) rfl rfl (by kernel_rfl) (by kernel_rfl) (fun _ _ _ _ h => h) (yi (v := .bool true) rfl (fun w _ => by go_simp)) ?_
  simp only [Act.put, act_eval_tmp, act_eval_const, List.setIfInBounds_toArray, List.set_cons_succ, List.set_cons_zero, List.getD_cons_succ, List.getD_cons_zero]
  refine anyC_pure 12 2 (by decide) (by kernel_rfl) rfl rfl (by kernel_rfl) (by kernel_rfl) (fun _ _ _ _ h => h) (yi_assign _ _ rfl rfl rfl) ?_
  simp only [Act.put, act_eval_tmp, act_eval_const, List.setIfInBounds_toArray, List.set_cons_succ, List.set_cons_zero, List.getD_cons_succ, List.getD_cons_zero]
  refine anyC_pure 13 3 (by decide) (by kernel_rfl) rfl rfl (by kernel_rfl) (by kernel_rfl) (fun _ _ _ _ h => h) (yi_assign _ _ rfl rfl rfl) ?_
  simp only [Act.put, act_eval_tmp, act_eval_const, List.setIfInBounds_toArray, List.set_cons_succ, List.set_cons_zero, List.getD_cons_succ, List.getD_cons_zero]
  refine anyC_pure 14 4 (by decide) (by kernel_rfl) rfl rfl (by kernel_rfl) (by kernel_rfl) (fun _ _ _ _ h => h) (yi_assign _ _ rfl rfl rfl) ?_
  simp only [Act.put, act_eval_tmp, act_eval_const, List.setIfInBounds_toArray, List.set_cons_succ, List.set_cons_zero, List.getD_cons_succ, List.getD_cons_zero]
  refine anyC_done (by kernel_rfl) ?_
  go_wp2
  go_ret3
  have hv : Value.string (b.extract 8 (8 + r.length)) = tx r := by rw [str_tx, HXR.out]
  exact ⟨congrArg (fun v => Ending.returned (.tuple #[v, .int .i64 (8 + r.length : Int), .bool true])) hv, ((Below.refl _ w).drew).trans HB1.out⟩
end Go.Proofs.YthbbammibdhohaaGreatDoor
