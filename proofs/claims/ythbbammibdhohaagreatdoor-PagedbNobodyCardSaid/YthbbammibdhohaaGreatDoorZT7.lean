/- A transaction's Free. Conditions as stated. A map of pages' bytes in memory; two rising lists that tell the same are one. No condition. A map's keys, sorted, by the library's contracts. No condition. A transaction's record. Conditions as stated. A transaction's Commit: the ways on which nothing is written. Conditions as stated. -/
import Derived.Test.YthbbammibdhohaaGreatDoorIter
import Derived.Test.YthbbammibdhohaaGreatDoorZT3
set_option linter.unusedSimpArgs false
set_option linter.unusedVariables false
namespace Go.Proofs.YthbbammibdhohaaGreatDoor
open Go.RowKit Aq Go.Rgn Go.Maps

theorem wp_put_leaf {o : Oper} {a : Act} {w : World} {K : Act → World → Prop} {Q : Exit → Act → World → Prop} (m x v : Operand) (hop : o.op = Op.mapUpdate 65 m x v)
    (b : Nat) (l : List (Nat × Lf)) (hm : a.eval m = .map (some b)) (h : LeafMap w b l) (i : Nat) (hi : i < 2147483648) (hx : a.eval x = .int .i64 (i : Int)) (p : Lf) (hv : a.eval v = leafV p) (hl : l.length < 2147483648)
    (hK : ∀ w', LeafMap w' b (putL i p l) → w.mapTurned w' b → K (a.put o.dst undef) w') : o.wp Tryz.prog a w K Q := by
  obtain ⟨w', hrun, r1, r2⟩ := h.store Tryz.keyI Tryz.underlying65 (by unfold maxLen; omega) (keyOf_nat i hi) (leafR_mk p)
  unfold Oper.wp
  simp [execOp, hop, hm, hx, hv, hrun, Result.andThen]
  rw [mapD_put] at r1
  have r3 := owns_tight r1
  rw [mapD_size] at r3
  exact hK w' r3 r2
set_option maxHeartbeats 1000000 in
set_option maxRecDepth 100000 in
theorem txf_no {w : World} {v : Value} {id : Int} {r : Lf × Int} (hc : r.2 ≠ 0) (h : Calls Tryz.prog 52 #[v, .int .i64 id] w (LeafPost w r)) :
    Calls Tryz.prog 28 #[v, .int .i64 id] w (ErrPost w r.2) := by
  obtain ⟨⟨q, b⟩, c⟩ := r
  have h2 : Calls Tryz.prog 52 #[v, .int .i64 id] w fun e w' => e = .returned (.tuple #[.agg #[int' q, tx b], .int .i64 c]) ∧ Below w.heap.size w w' := h
  clear h
  have h0 : c ≠ 0 := hc
  have hb : (c != 0) = true := by simpa using h0
  clear hc
  go_enter Tryz.func28, Tryz.ntmps28
  go_wp2_with (first
    | (go_at_call 52; go_must (refine h2.mono ?_; rintro e w1 ⟨rfl, hb1⟩; have HB1 := Lib.hid hb1; clear hb1)))
  go_ret
  exact ⟨rfl, HB1.out.alloc HB1.out.size _⟩
theorem there_id {V : Nat → Lf} {tm : Meta} {l : List (Nat × Lf)} {id : Int} (hhi : tm.high < 2147483648) (ht : (thereS V tm l id).2 = 0) : ∃ i : Nat, id = (i : Int) ∧ 1 ≤ i ∧ i < tm.high ∧ i < 2147483648 := by
  unfold thereS at ht
  split at ht
  · cases ht
  · unfold getS at ht
    split at ht
    · cases ht
    · exact ⟨id.toNat, by omega, by omega, by omega, by omega⟩
def HeldT (W : World) (w : World) : Prop := Below W.heap.size W w
set_option maxHeartbeats 2000000 in
set_option maxRecDepth 100000 in
theorem tx_Free {B C : Nat} {w : World} {t mb x db p log : Nat} {m tm : Meta} {mk sp : Bool} {l : List (Nat × Lf)} {D : Disk} (h : TxNow B C w t mb x db p log m tm mk sp l D) (V : Nat → Lf) (hon : TxOn D log V tm l) (hhi : tm.high < 2147483648) (id : Int)
    (hH : HalfAt w) (hB : 0 < w.heap.size) (hl : l.length < 2147483648) (hfr : tm.free < 2147483648) (hct : tm.count < 2147483648) (ht : (thereS V tm l id).2 = 0) :
    Calls Tryz.prog 28 #[.pointer (some ⟨t, 0, none⟩), .int .i64 id] w (TurnPost B C w t mb x db p log m { tm with free := id.toNat, count := tm.count + 1 } true sp (putL id.toNat (255, num tm.free 4) l) D (.int .i64 0)) := by
  have hth := tx_there h V hon hhi id hH hB
  obtain ⟨i, rfl, _, _, hi⟩ := there_id hhi ht
  obtain ⟨⟨⟨q, b⟩, c⟩, hr⟩ : ∃ r, r = thereS V tm l (i : Int) := ⟨_, rfl⟩
  rw [← hr] at hth ht
  have h0 : c = 0 := ht
  subst h0
  have h2 : Calls Tryz.prog 52 #[.pointer (some ⟨t, 0, none⟩), .int .i64 (i : Int)] w fun e w' => e = .returned (.tuple #[.agg #[int' q, tx b], .int .i64 0]) ∧ Below w.heap.size w w' := hth
  have hnum := fun w1 => pagedb_number w1 tm.free (by omega)
  obtain ⟨z, hz⟩ : ∃ z, z = num tm.free 4 := ⟨_, rfl⟩
  rw [← hz] at hnum
  rw [← hz]
  have H := Lib.hid h
  have HNUM := Lib.hid hnum
  have g3 : (tm.count : Int) ≤ 2147483647 := by omega
  clear h hth hon hH ht hr hz hnum
  simp only [Int.toNat_natCast]
  go_enter Tryz.func28, Tryz.ntmps28
  go_wp2_with (first
    | (go_at_call 52; go_must (refine h2.mono ?_; rintro e w1 ⟨rfl, hb1⟩; have HB1 := Lib.hid hb1; clear hb1)))
  obtain ⟨W, hW⟩ : ∃ W, W = w1.alloc (.cells #[int' q, tx b] 101) := ⟨_, rfl⟩
  rw [← hW]
  have hbW : Below w.heap.size w W := by rw [hW]; exact HB1.out.alloc HB1.out.size _
  have hNW := H.out.below hbW
  have HBW := Lib.hid hbW; have HNW := Lib.hid hNW
  clear hW hbW hNW
  have hS0 : HeldT W W.drew := (Below.refl _ W).drew
  refine wp_region_C (HeldT W) (fun i => i == 3 || i == 9 || i == 10 || i == 11) (by kernel_rfl) ?_
  change anyC _ _ _ _ _ 13 _ _ W.drew
  refine anyC_pure 0 16 (by decide) (by kernel_rfl) rfl rfl (by kernel_rfl) (by kernel_rfl) (fun _ _ _ _ h => h) (yi_move _ _ rfl rfl rfl) ?_
  simp only [Act.put, act_eval_tmp, act_eval_const, List.setIfInBounds_toArray, List.set_cons_succ, List.set_cons_zero, List.getD_cons_succ, List.getD_cons_zero]
  refine anyC_pure 1 17 (by decide) (by kernel_rfl) rfl rfl (by kernel_rfl) (by kernel_rfl) (fun _ _ _ _ h => h) (yi_nilCheck _ _ rfl rfl rfl) ?_
  simp only [Act.put, act_eval_tmp, act_eval_const, List.setIfInBounds_toArray, List.set_cons_succ, List.set_cons_zero, List.getD_cons_succ, List.getD_cons_zero]
  refine anyC_pure 2 18 (by decide) (by kernel_rfl) rfl rfl (by kernel_rfl) (by kernel_rfl) (fun _ _ _ _ h => h) (yi_field 67 2 _ _ _ 8 rfl rfl rfl (by kernel_rfl)) ?_
  simp only [Act.put, act_eval_tmp, act_eval_const, List.setIfInBounds_toArray, List.set_cons_succ, List.set_cons_zero, List.getD_cons_succ, List.getD_cons_zero]
  refine anyC_pure 4 20 (by decide) (by kernel_rfl) rfl rfl (by kernel_rfl) (by kernel_rfl) (fun _ _ _ _ h => h) (yi_move _ _ rfl rfl rfl) ?_
  simp only [Act.put, act_eval_tmp, act_eval_const, List.setIfInBounds_toArray, List.set_cons_succ, List.set_cons_zero, List.getD_cons_succ, List.getD_cons_zero]
  refine anyC_pure 5 21 (by decide) (by kernel_rfl) rfl rfl (by kernel_rfl) (by kernel_rfl) (fun _ _ _ _ h => h) (yi_move _ _ rfl rfl rfl) ?_
  simp only [Act.put, act_eval_tmp, act_eval_const, List.setIfInBounds_toArray, List.set_cons_succ, List.set_cons_zero, List.getD_cons_succ, List.getD_cons_zero]
  refine anyC_pure 6 22 (by decide) (by kernel_rfl) rfl rfl (by kernel_rfl) (by kernel_rfl) (fun _ _ _ _ h => h) (yi_nilCheck _ _ rfl rfl rfl) ?_
  simp only [Act.put, act_eval_tmp, act_eval_const, List.setIfInBounds_toArray, List.set_cons_succ, List.set_cons_zero, List.getD_cons_succ, List.getD_cons_zero]
  refine anyC_pure 7 23 (by decide) (by kernel_rfl) rfl rfl (by kernel_rfl) (by kernel_rfl) (fun _ _ _ _ h => h) (yi_field 67 1 _ _ _ 1 rfl rfl rfl (by kernel_rfl)) ?_
  simp only [Act.put, act_eval_tmp, act_eval_const, List.setIfInBounds_toArray, List.set_cons_succ, List.set_cons_zero, List.getD_cons_succ, List.getD_cons_zero]
  refine anyC_pure 8 24 (by decide) (by kernel_rfl) rfl rfl (by kernel_rfl) (by kernel_rfl) (fun _ _ _ _ h => h) (yi_field 60 2 _ _ _ 5 rfl rfl rfl (by kernel_rfl)) ?_
  simp only [Act.put, act_eval_tmp, act_eval_const, List.setIfInBounds_toArray, List.set_cons_succ, List.set_cons_zero, List.getD_cons_succ, List.getD_cons_zero]
  refine anyC_takeP 3 19 (by kernel_rfl) (by kernel_rfl) rfl rfl (by kernel_rfl) (by kernel_rfl) (fun _ _ _ _ h => h) hS0 (yi_load 65 _ ⟨t, 8, none⟩ (.map (some mb)) rfl rfl rfl (by kernel_rfl) (fun wx hx => (HNW.out.below hx).tx.c8)) ?_
  simp only [Act.put, act_eval_tmp, act_eval_const, List.setIfInBounds_toArray, List.set_cons_succ, List.set_cons_zero, List.getD_cons_succ, List.getD_cons_zero]
  refine anyC_takeP 9 25 (by kernel_rfl) (by kernel_rfl) rfl rfl (by kernel_rfl) (by kernel_rfl) (fun _ _ _ _ h => h) hS0 (yi_load 3 _ ⟨t, 6, none⟩ (int' tm.free) rfl rfl rfl (by kernel_rfl) (fun wx hx => (HNW.out.below hx).tx.c6)) ?_
  simp only [Act.put, act_eval_tmp, act_eval_const, List.setIfInBounds_toArray, List.set_cons_succ, List.set_cons_zero, List.getD_cons_succ, List.getD_cons_zero]
  refine anyC_one 10 (some 26) _ 9 (by kernel_rfl) rfl rfl rfl rfl rfl ?_
  refine wp_callFn 63 #[int' tm.free] _ (by kernel_rfl) (HNUM.out _) ?_
  rintro _ w2 ⟨rfl, hb2⟩
  have hS1 : HeldT W w2 := Below.trans hS0 (hb2.mono hS0.size)
  clear hS0 hb2
  refine ⟨_, rfl, fun _ => hS1, ?_⟩
  simp only [Act.put, act_eval_tmp, act_eval_const, List.setIfInBounds_toArray, List.set_cons_succ, List.set_cons_zero, List.getD_cons_succ, List.getD_cons_zero]
  refine anyC_takeP 11 27 (by kernel_rfl) (by kernel_rfl) rfl rfl (by kernel_rfl) (by kernel_rfl) (fun _ _ _ _ h => h) hS1 (yi (v := .agg #[.int .i64 255, tx z]) rfl (fun w _ => by go_simp)) ?_
  simp only [Act.put, act_eval_tmp, act_eval_const, List.setIfInBounds_toArray, List.set_cons_succ, List.set_cons_zero, List.getD_cons_succ, List.getD_cons_zero]
  refine anyC_one 12 none _ 0 (by kernel_rfl) rfl rfl rfl rfl rfl ?_
  refine wp_put_leaf (.tmp 19) (.tmp 20) (.tmp 27) rfl mb l rfl (HNW.out.below hS1).tx.map i hi rfl (255, z) rfl hl ?_
  intro w3 hm3 ht3
  refine ⟨fun h => absurd h (by decide), ?_⟩
  simp only [Act.put, act_eval_tmp, act_eval_const, List.setIfInBounds_toArray, List.set_cons_succ, List.set_cons_zero, List.getD_cons_succ, List.getD_cons_zero]
  refine anyC_done (by kernel_rfl) ?_
  have hN2 := (HNW.out.below hS1).tx
  have k3 := hN2.turned ht3 hm3
  have u3 : Upd C txT w w3 := (Upd.of_below (HBW.out.trans (Below.mono hS1 HBW.out.size))).trans (turned_upd ht3 hN2.hmb rfl)
  have c6 := k3.c6; have c7 := k3.c7; have c9 := k3.c9
  have f6 := k3.fr 6; have f7 := k3.fr 7; have f9 := k3.fr 9
  have K3 := Lib.hid k3; have U3 := Lib.hid u3
  clear hS1 hm3 ht3 hN2 k3 u3
  go_wp2
  go_ret
  have e1 : Value.int .i64 ((tm.count : Int) + 1) = int' (tm.count + 1) := rfl
  have k4 : TxIs C (w3.setCell ⟨t, 6, none⟩ (int' i)) t x mb { tm with free := i } mk sp (putL i (255, z) l) := K3.out.field 6 (int' i) rfl
  have k5 : TxIs C ((w3.setCell ⟨t, 6, none⟩ (int' i)).setCell ⟨t, 7, none⟩ (.int .i64 ((tm.count : Int) + 1))) t x mb { tm with free := i, count := tm.count + 1 } mk sp (putL i (255, z) l) := k4.field 7 _ rfl
  have k6 : TxIs C (((w3.setCell ⟨t, 6, none⟩ (int' i)).setCell ⟨t, 7, none⟩ (.int .i64 ((tm.count : Int) + 1))).setCell ⟨t, 9, none⟩ (.bool true)) t x mb { tm with free := i, count := tm.count + 1 } true sp (putL i (255, z) l) := k5.field 9 _ rfl
  have u6 := k5.upd (k4.upd (K3.out.upd U3.out rfl 6 (int' i)) rfl 7 (.int .i64 ((tm.count : Int) + 1))) rfl 9 (.bool true)
  exact ⟨rfl, H.out.turn u6 k6, u6⟩
end Go.Proofs.YthbbammibdhohaaGreatDoor

namespace Go.Proofs.YthbbammibdhohaaGreatDoor
open Go.RowKit Aq Go.Rgn Go.Maps

theorem getL_head {α : Type} {x : Nat × α} {l : List (Nat × α)} : getL x.1 (x :: l) = some x.2 := by rw [getL_cons, if_pos rfl]
theorem rises_ext {α : Type} : ∀ {l m : List (Nat × α)}, Rises l → Rises m → (∀ i, getL i l = getL i m) → l = m := by
  intro l
  induction l with
  | nil =>
    intro m _ _ h
    cases m with
    | nil => rfl
    | cons y m => have := h y.1; rw [getL_head] at this; cases this
  | cons x l ih =>
    intro m hl hm h
    cases m with
    | nil => have := h x.1; rw [getL_head] at this; cases this
    | cons y m =>
      obtain ⟨hx, hl2⟩ := List.pairwise_cons.1 hl
      obtain ⟨hy, hm2⟩ := List.pairwise_cons.1 hm
      have e1 : x.1 = y.1 := by
        have h1 := h x.1
        rw [getL_head] at h1
        have h2 := h y.1
        rw [getL_head] at h2
        rcases List.mem_cons.1 (getL_mem h1.symm) with h3 | h3
        · rw [← h3]
        · have h4 : y.1 < x.1 := hy _ h3
          rcases List.mem_cons.1 (getL_mem h2) with h5 | h5
          · rw [← h5]
          · have h6 : x.1 < y.1 := hx _ h5
            omega
      have e2 : x = y := by
        have h1 := h x.1
        rw [getL_head, e1, getL_head] at h1
        injection h1 with h1
        exact Prod.ext e1 h1
      subst e2
      congr 1
      refine ih hl2 hm2 fun i => ?_
      by_cases hi : x.1 = i
      · subst hi
        have n1 : getL x.1 l = none := getL_none.2 fun z hz => by have := hx z hz; omega
        have n2 : getL x.1 m = none := getL_none.2 fun z hz => by have := hy z hz; omega
        rw [n1, n2]
      · have := h i
        rw [getL_cons, getL_cons, if_neg hi, if_neg hi] at this
        exact this
theorem getL_map {α β : Type} (f : Nat → α → β) (i : Nat) (l : List (Nat × α)) : getL i (l.map fun p => (p.1, f p.1 p.2)) = (getL i l).map (f i) := by
  induction l with
  | nil => rfl
  | cons x l ih =>
    rw [List.map_cons, getL_cons, getL_cons, ih]
    by_cases h : x.1 = i
    · simp [h]
    · simp [h]
theorem rises_map {α β : Type} (f : Nat → α → β) {l : List (Nat × α)} (h : Rises l) : Rises (l.map fun p => (p.1, f p.1 p.2)) := by
  unfold Rises
  rw [List.pairwise_map]
  exact h
theorem putL_front {α : Type} (i : Nat) (v : α) {l : List (Nat × α)} (h : ∀ y ∈ l, i < y.1) : putL i v l = (i, v) :: l := by
  have e : (l.filter fun p => !(p.1 == i)) = l := List.filter_eq_self.2 fun y hy => by have := h y hy; simp; omega
  unfold putL
  rw [e]
  cases l with
  | nil => rfl
  | cons y l => unfold insL; rw [if_pos (h y (List.mem_cons_self ..))]
def strD (b : Bs) : DataW Nat := .lit (.string b)
def strR : Value → Option (DataW Nat × List MemPlace)
  | .string s => if s.size ≤ 65536 then some (.lit (.string s.data.toList), []) else none
  | _ => none
theorem strR_mk (b : Bs) (h : b.length ≤ 65536) : strR (tx b) = some (strD b, []) := by
  have h2 : (⟨b.toArray⟩ : ByteArray).size ≤ 65536 := h
  simp [strR, strD, h2]
theorem strR_inv {v : Value} {b : Bs} {ps : List MemPlace} (h : strR v = some (strD b, ps)) : v = tx b := by
  unfold strR at h
  split at h
  · rename_i s
    split at h
    · injection h with h
      injection h with h2 _
      unfold strD at h2
      injection h2 with h2
      injection h2 with h2
      rw [str_tx, h2]
    · cases h
  · cases h
/-- block b of w is a map of these texts -/
def StrMap (w : World) (b : Nat) (l : List (Nat × Bs)) : Prop := w.ownsMap Tryz.prog 3 strR b l.length (mapD strD l)
theorem zero_str (w : World) : (zeroValue 9).run Tryz.prog w = .ok (tx []) w := by kernel_rfl
theorem StrMap.look {w : World} {b : Nat} {l : List (Nat × Bs)} (h : StrMap w b l) (i : Nat) (hi : i < 2147483648) (v : Bs) (hv : getL i l = some v) :
    (Instr.lookup 104 (.map (some b)) (.int .i64 (i : Int)) false).run Tryz.prog w = .ok (tx v) w := by
  obtain ⟨u, ps, hrun, hu⟩ := h.lookup Tryz.keyI Tryz.underlying104 (zero_str w) (strR_mk [] (by simp)) (keyOf_nat i hi)
  rw [mapD_at, hv] at hu
  rw [hrun, strR_inv hu]
theorem StrMap.made (w : World) : StrMap (w.alloc (.map #[] 0)) w.heap.size [] := World.ownsMap_made w _ _ _
theorem wpList_put_str {ops : Array Oper} {rest : List Oper} {o : Oper} {a : Act} {w : World} {Q : Exit → Act → World → Prop} (hg : o.guard = none) (m x v : Operand) (hop : o.op = Op.mapUpdate 104 m x v)
    (b : Nat) (l : List (Nat × Bs)) (hm : a.eval m = .map (some b)) (h : StrMap w b l) (i : Nat) (hi : i < 2147483648) (hx : a.eval x = .int .i64 (i : Int)) (p : Bs) (hv : a.eval v = tx p) (hp : p.length ≤ 65536) (hl : l.length < 2147483648)
    (hK : ∀ w', StrMap w' b (putL i p l) → w.mapTurned w' b → wpList Tryz.prog ops Q rest (a.put o.dst undef) w') : wpList Tryz.prog ops Q (o :: rest) a w := by
  refine wpList_plain hg fun K' hK' => ?_
  obtain ⟨w', hrun, r1, r2⟩ := h.store Tryz.keyI Tryz.underlying104 (by unfold maxLen; omega) (keyOf_nat i hi) (strR_mk p hp)
  unfold Oper.wp
  simp [execOp, hop, hm, hx, hv, hrun, Result.andThen]
  rw [mapD_put] at r1
  have r3 := owns_tight r1
  rw [mapD_size] at r3
  exact hK' _ _ (hK w' r3 r2)
theorem StrMap.same {w w' : World} {b : Nat} {l : List (Nat × Bs)} (h : StrMap w b l) (he : w'.heap[b]? = w.heap[b]?) : StrMap w' b l := by
  obtain ⟨es, clock, hb, r⟩ := h
  exact ⟨es, clock, he.trans hb, r⟩
theorem StrMap.lt {w : World} {b : Nat} {l : List (Nat × Bs)} (h : StrMap w b l) : b < w.heap.size := World.ownsMap.lt h
theorem StrMap.below {w w' : World} {b : Nat} {l : List (Nat × Bs)} (h : StrMap w b l) (hb : Below w.heap.size w w') : StrMap w' b l := h.same (hb.block b h.lt)
theorem StrMap.grown {w w' : World} {b : Nat} {l : List (Nat × Bs)} {row : Option Nat} (h : StrMap w b l) (hg : w.grownBy w' row) (hne : some b ≠ row) : StrMap w' b l := World.ownsMap.kept h hg hne
/-- the pages that a transaction's record bears -/
def sealLf (i : Nat) (p : Lf) : Bs := sealPage i p.1 p.2
def sealsOf (l : List (Nat × Lf)) : List Pg := l.map fun p => (p.1, sealLf p.1 p.2)
def pagesOf (tm : Meta) (mk : Bool) (l : List (Nat × Lf)) : List Pg := if mk then (0, sealPage 0 1 (metaB tm)) :: sealsOf l else sealsOf l
structure LeavesOk (l : List (Nat × Lf)) : Prop where
  rises : Rises l
  ids : ∀ y ∈ l, 1 ≤ y.1 ∧ y.1 < 2147483648
  ok : ∀ y ∈ l, LeafOk y.2
theorem sealLf_len {i : Nat} {p : Lf} (h : LeafOk p) : (sealLf i p).length = 512 := sealPage_len _ _ _ h.2.2
end Go.Proofs.YthbbammibdhohaaGreatDoor

namespace Go.Proofs.YthbbammibdhohaaGreatDoor
open Go.RowKit Aq Go.Rgn Go.Maps Go.Sort Go.Shelf

theorem sortsA (m : Nat) : AnyZI.SortsIn Tryz.prog Tryz.sortedA_ren Fence.wide m :=
  ⟨fun blk off cap ss W hH hblk hsz => callsIn_wide.2 (AnyM.slices_Sort_int Tryz.sortA blk off cap ss W hH hblk hsz),
   fun p cap W => callsIn_wide.2 (AnyM.slices_Sort_int_none Tryz.sortA p cap W)⟩
theorem keys_call (mb : Nat) (W : World) : Calls Tryz.prog 92 #[.map (some mb)] W fun e w' => e = .returned (.func (.func 124) #[] #[.pointer (some ⟨W.heap.size, 0, none⟩)]) ∧ w' = W.alloc (.cells #[.map (some mb)] 104) :=
  callsIn_wide.1 (AnyZI.keys_in Tryz.keysA Fence.wide 5 trivial rfl (some mb) W)
theorem keys_of_map (l : List (Nat × Bs)) : intKeys (mapD strD l) = l.map fun p => (p.1 : Int) := by
  unfold mapD intKeys
  simp only [List.map_map]
  rfl
theorem sorted_same {l : List Int} (h : l.Pairwise (· < ·)) : l.mergeSort (fun x y => decide (x ≤ y)) = l :=
  List.mergeSort_of_pairwise (h.imp fun {a b} hab => by simp; omega)
set_option maxHeartbeats 1000000 in
theorem sorted_call (ib : Nat) (l : List (Nat × Bs)) (w : World) (hown : StrMap w ib l) (hr : Rises l) (hl : l.length ≤ 2147483648) :
    Calls Tryz.prog 91 #[.func (.func 124) #[] #[.pointer (some ⟨w.heap.size, 0, none⟩)]] (w.alloc (.cells #[.map (some ib)] 104)) fun e w' => ∃ v, e = .returned v ∧
      w'.ownsRow w.heap.size 3 1 v l.length (l.map fun p => int' p.1) ∧ Below w.heap.size w w' := by
  have hbl := hown.lt
  have hsz : Maps.size (mapD strD l) = l.length := mapD_size strD l
  have hseq : SeqGives Fence.wide 2 Tryz.prog 124 #[.pointer (some ⟨w.heap.size, 0, none⟩)] encZ (fun ss => ss.Perm (intKeys (mapD strD l))) (Maps.size (mapD strD l)) (w.alloc (.cells #[.map (some ib)] 104)) :=
    AnyZI.keys_gives (ρ := Tryz.keysA_ren) { Tryz.keysA with } Fence.wide _ trivial rfl (by omega) w.heap.size ib l.length (mapD strD l) _ (by simp) (by simp) (by
      obtain ⟨es, clock, hb, Ft, hs, hD⟩ := hown
      exact ⟨es, clock, (Below.heap_alloc _ _ ib hbl).trans hb, Ft, hs, hD⟩)
  have cS := AnyZI.sorted_in Tryz.sortedA Fence.wide 5 trivial trivial trivial trivial rfl (by omega) (sortsA _) (enters_of Tryz.func123 (by kernel_rfl) rfl) 124 #[.pointer (some ⟨w.heap.size, 0, none⟩)] trivial (enters_of Tryz.func124 (by kernel_rfl) rfl) _ _ (by rw [hsz]; unfold maxLen; omega) (by rw [hsz]; omega) _ hseq
  change CallsIn _ _ Tryz.prog 91 _ _ _ at cS
  refine (callsIn_wide.1 cS).mono fun e w' h => ?_
  obtain ⟨v, ss, he, hS, hrow, _, hb⟩ := h
  have hp : ss.mergeSort (fun x y => decide (x ≤ y)) = l.map fun p => (p.1 : Int) := by
    have h1 : ss.mergeSort leI = (intKeys (mapD strD l)).mergeSort leI := mergeSort_of_perm_i hS
    have h2 : ss.mergeSort (fun x y => decide (x ≤ y)) = (intKeys (mapD strD l)).mergeSort (fun x y => decide (x ≤ y)) := h1
    rw [h2, keys_of_map, sorted_same]
    rw [List.pairwise_map]
    exact hr.imp fun {a b} h => by omega
  rw [hp] at hrow
  have hlen : ss.length = l.length := by
    have h1 := hS.length_eq
    rw [keys_of_map, List.length_map] at h1
    exact h1
  rw [hlen, List.map_map] at hrow
  have hB : Below w.heap.size w (w.alloc (.cells #[.map (some ib)] 104)) := (Below.refl _ w).alloc (Nat.le_refl _) _
  exact ⟨v, he, ownsRow_low hrow (by simp), hB.trans (hb.mono hB.size)⟩
end Go.Proofs.YthbbammibdhohaaGreatDoor

namespace Go.Proofs.YthbbammibdhohaaGreatDoor
open Go.RowKit Aq Go.Rgn Go.Maps

def RecInv1 (w : World) (mb ib r : Nat) (l : List (Nat × Lf)) (wr : World) : Prop :=
  ∃ (left : Lit → Bool) (cnt : Nat) (I : List Pg), wr.ranges Tryz.prog 3 leafR mb r l.length (mapD leafD l) left cnt ∧ StrMap wr ib I ∧ Rises I ∧
    (∀ i : Nat, getL i I = if left (.int .i64 (i : Int)) then none else (getL i l).map (sealLf i)) ∧ I.length + cnt ≤ l.length ∧ Below w.heap.size w wr
theorem below_of_grown {w w' : World} (h : w.grownBy w' none) {B : Nat} (hB : B ≤ w.heap.size) : Below B w w' := ⟨h.os, h.tape, h.output, h.size, fun k hk => h.block k (Nat.lt_of_lt_of_le hk hB) (by simp)⟩
theorem grown_of_below {w w' : World} (h : Below w.heap.size w w') : w.grownBy w' none := ⟨h.os, h.tape, h.output, h.size, fun k hk _ => h.block k hk⟩
theorem lt_of_map {w : World} {b : Nat} {l : List (Nat × Lf)} (h : LeafMap w b l) : b < w.heap.size := World.ownsMap.lt h
theorem below_next {B r : Nat} {w w' w2 : World} (h : Below B w w') (hg : w'.grownBy w2 (some r)) (hr : B ≤ r) (hB : B ≤ w'.heap.size := by assumption) : Below B w w2 := h.grown hg hB (fun k hk => by injection hk with hk; omega)
theorem pages_ok (tm : Meta) {mk : Bool} {l : List (Nat × Lf)} (h : LeavesOk l) (hl : l.length ≤ 65536) {J : List Pg} (hJ : J = pagesOf tm mk l) : Rises J ∧ J.length ≤ 65537 ∧ ∀ y ∈ J, y.1 < 2147483648 ∧ y.2.length = 512 := by
  have hr : Rises (sealsOf l) := rises_map sealLf h.rises
  have hn : (sealsOf l).length = l.length := by rw [sealsOf, List.length_map]
  have hi : ∀ y ∈ sealsOf l, 1 ≤ y.1 ∧ y.1 < 2147483648 ∧ y.2.length = 512 := fun y hy => by
    obtain ⟨p, hp, rfl⟩ := List.mem_map.1 hy
    exact ⟨(h.ids p hp).1, (h.ids p hp).2, sealLf_len (h.ok p hp)⟩
  subst hJ
  cases mk
  · exact ⟨hr, by show (sealsOf l).length ≤ _; omega, fun y hy => (hi y hy).2⟩
  · refine ⟨List.pairwise_cons.2 ⟨fun y hy => (hi y hy).1, hr⟩, by show (sealsOf l).length + 1 ≤ _; omega, fun y hy => ?_⟩
    rcases List.mem_cons.1 hy with rfl | hy
    · exact ⟨by show 0 < _; omega, sealPage_len _ _ _ (by rw [metaB_len]; decide)⟩
    · exact (hi y hy).2
def recTo (J : List Pg) (j : Nat) : Bs := num J.length 4 ++ (J.take j).flatMap pgB
theorem recTo_all (J : List Pg) : recTo J J.length = recB J := by rw [recTo, List.take_length]; rfl
theorem recTo_succ (J : List Pg) (j : Nat) (hj : j < J.length) : recTo J (j + 1) = recTo J j ++ (num (J[j]).1 4 ++ (J[j]).2) := by
  rw [recTo, List.take_succ_eq_append_getElem hj, List.flatMap_append, ← List.append_assoc]; simp [recTo, pgB]
theorem recTo_len {J : List Pg} (h : ∀ y ∈ J, y.1 < 2147483648 ∧ y.2.length = 512) (j : Nat) (hj : j ≤ J.length) : (recTo J j).length = 4 + 516 * j := by
  rw [recTo, List.length_append, num_len, pgs_len (n := 2147483648) (fun y hy => h y (List.mem_of_mem_take hy)), List.length_take]; omega
def RecInv2 (w : World) (ib : Nat) (J : List Pg) (sv : Value) (u v : Value) (wr : World) : Prop :=
  ∃ j : Nat, j ≤ J.length ∧ v = .int .i64 (j : Int) ∧ u = tx (recTo J j) ∧ StrMap wr ib J ∧ RowIs 0 wr 3 sv (J.map fun p => int' p.1) ∧ Below w.heap.size w wr
def RecPost (w : World) (ps : List Pg) (e : Ending) (w' : World) : Prop := ∃ ib, e = .returned (.tuple #[tx (recB ps), .map (some ib)]) ∧ StrMap w' ib ps ∧ Below w.heap.size w w'
set_option maxHeartbeats 2000000 in
set_option maxRecDepth 100000 in
theorem tx_record {C : Nat} {w : World} {t mb x : Nat} {tm : Meta} {mk sp : Bool} {l : List (Nat × Lf)} (h : TxIs C w t x mb tm mk sp l) (hl : LeavesOk l) (hll : l.length ≤ 65536) (hm : tm.Ok) (hH : HalfAt w) (hB : 0 < w.heap.size) :
    Calls Tryz.prog 54 #[.pointer (some ⟨t, 0, none⟩)] w (RecPost w (pagesOf tm mk l)) := by
  obtain ⟨J, hJ⟩ : ∃ J, J = pagesOf tm mk l := ⟨_, rfl⟩
  rw [← hJ]
  obtain ⟨hj1, hj2, hj3⟩ := pages_ok tm hl hll hJ
  have HJ := Lib.hid hJ; have HJ1 := Lib.hid hj1; have HJ3 := Lib.hid hj3
  clear hJ hj1 hj3
  have t8 := h.c8
  have htl := lt_of_some h.head
  have hmm := @run_makeMap Tryz.prog
  have hb0 : Below w.heap.size w (w.alloc (.map #[] 0)) := (Below.refl _ w).alloc (Nat.le_refl _) _
  have hm0 : LeafMap (w.alloc (.map #[] 0)) mb l := h.map.keep (B := 0) (T := fun _ => true) (Below.sees hb0) (Nat.zero_le _) rfl
  have H := Lib.hid h; have HM0 := Lib.hid hm0; have HL := Lib.hid hl; have HLL := Lib.hid hll
  clear h hb0 hm0 hl hll
  go_enter Tryz.func54, Tryz.ntmps54
  go_wp2_with (first
    | (at_range; refine wpList_range_own _ rfl _ 65 rfl 3 101 Tryz.keyI Tryz.underlying65 leafR mb l.length (mapD leafD l) rfl HM0.out ?_; intro w0 hrg0 hg0 hs0; have HRG0 := Lib.hid hrg0; have HG0 := Lib.hid hg0; clear hrg0 hg0 hs0))
  go_frame
  have hr1 : (w.alloc (.map #[] 0)).heap.size = w.heap.size + 1 := by simp
  generalize (w.alloc (.map #[] 0)).heap.size = r at HRG0 hr1 ⊢
  have hb00 : Below w.heap.size w w0 := ((Below.refl _ w).alloc (Nat.le_refl _) (.map #[] 0)).trans (below_of_grown HG0.out (by simp))
  have hi0 : StrMap w0 w.heap.size [] := (StrMap.made w).grown HG0.out (by simp)
  have hmb := (HM0.out : LeafMap _ mb l)
  have hmbl : mb < w.heap.size := lt_of_map H.out.map
  have HB0 := Lib.hid hb00; have HI0 := Lib.hid hi0; have HR1 := Lib.hid hr1
  clear hb00 hi0 hr1 hmb t8
  go_loopw [5] (fun _ wr => RecInv1 w mb w.heap.size r l wr) (fun _ wr => wr.rangeLeft mb r)
  case atStart =>
    refine ⟨_, _, [], HRG0.out, HI0.out, List.Pairwise.nil, fun i => ?_, ?_, HB0.out⟩
    · rw [mapD_has, getL_nil]
      cases getL i l <;> rfl
    · rw [mapD_size]; simp
  case round =>
    obtain ⟨left, cnt, I, hrg, hI, hIr, hIg, hIl, hbr⟩ := hrel
    have HRG := Lib.hid hrg; have HI := Lib.hid hI; have HIR := Lib.hid hIr; have HIG := Lib.hid hIg; have HIL := Lib.hid hIl; have HBR := Lib.hid hbr
    clear hrg hI hIr hIg hIl hbr
    go_wp2_with (first
      | (at_next; refine wpList_next_ranges _ rfl _ rfl 3 Tryz.keyI leafR (Value.int .i64) (fun c : Lf => .agg #[int' c.1, tx c.2]) (fun key kl hk => by obtain ⟨x, hx, _⟩ := Maps.keyOf_int_inv Tryz.underlying3 hk; exact ⟨x, hx⟩) (fun v y hv => by obtain ⟨p, hp, _⟩ := leafR_shape hv; exact ⟨p, hp⟩) mb r l.length (mapD leafD l) left cnt rfl HRG.out ?_ ?_))
    · intro hc0 hl0
      have hIs : I = sealsOf l := rises_ext HIR.out (rises_map sealLf HL.out.rises) fun i => by
        rw [HIG.out i, hl0]
        show (getL i l).map (sealLf i) = getL i (l.map fun p => (p.1, sealLf p.1 p.2))
        rw [getL_map]
      have hIm : StrMap wr w.heap.size (sealsOf l) := by rw [← hIs]; exact HI.out
      have hN := H.out.keep (Below.sees HBR.out)
      have n9 := hN.c9
      have HN := Lib.hid hN; have HIM := Lib.hid hIm
      have hH2 := hH.below HBR.out hB
      have hB2 : 0 < wr.heap.size := Nat.lt_of_lt_of_le hB HBR.out.size
      clear hl0 hc0 hIs hIm hN HRG HI HIR HIG HIL
      have hlen : (sealsOf l).length ≤ 65536 := by rw [sealsOf, List.length_map]; exact HLL.out
      have HN5 : Hid (∀ w1, Calls Tryz.prog 63 #[.int .i64 (J.length : Int)] w1 (NumPost w1 (num J.length 4))) := fun w1 => pagedb_number w1 J.length (by omega)
      cases mk
      · have HIM2 : Hid (StrMap wr w.heap.size J) := by rw [HJ.out]; exact HIM.out
        clear HIM
        go_wp2_with (first
          | (at_len; have _tk := HIM2; refine wpList_len_own _ rfl _ 104 rfl 3 9 Tryz.underlying104 strR w.heap.size J.length (mapD strD J) rfl HIM2.out ?_; rw [mapD_size])
          | (go_at_call 63; go_must (refine (HN5.out _).mono ?_; rintro e w5 ⟨rfl, hb5⟩; have hJ5 := StrMap.below HIM2.out hb5; have HJ5 := Lib.hid hJ5; have HB5 := Lib.hid hb5; clear hb5 hJ5 HIM2))
          | (go_at_call 92; go_must (refine (keys_call _ _).mono ?_; rintro e w6 ⟨rfl, rfl⟩; have HS6 := Lib.hid (sorted_call w.heap.size J w5 HJ5.out HJ1.out (by omega))))
          | (go_at_call 91; go_must (refine HS6.out.mono ?_; rintro e w7 ⟨sv, rfl, hown7, hb7⟩; obtain ⟨sa, sc, rfl⟩ := owns_shape hown7; have HO7 := Lib.hid hown7; have HJ7 := Lib.hid (HJ5.out.below hb7); have HB7 : Hid (Below w.heap.size w w7) := HBR.out.trans ((HB5.out.trans (hb7.mono HB5.out.size)).mono HBR.out.size); clear hown7 hb7)))
        go_loopw [7, 53] (fun u v wr2 => RecInv2 w w.heap.size J (.slice sa J.length sc) u v wr2) (fun _ v _ => J.length - (intOf v).toNat)
        case atStart => exact ⟨0, Nat.zero_le _, rfl, by rw [recTo]; simp, HJ7.out, rowIs_low (RowIs.of_owns HO7.out) (Nat.zero_le _), HB7.out⟩
        case round =>
          obtain ⟨j, hj, rfl, rfl, hJj, hrw, hbj⟩ := hrel
          by_cases hjl : j < J.length
          · obtain ⟨g, rfl, hcj⟩ := hrw.cell (t := j) (u := int' (J[j]).1) (by rw [List.getElem?_map, List.getElem?_eq_getElem hjl]; rfl)
            obtain ⟨y, hy⟩ : ∃ y, y = J[j] := ⟨_, rfl⟩
            rw [← hy] at hcj
            have hyk := HJ3.out y (by rw [hy]; exact List.getElem_mem _)
            have hgy : getL y.1 J = some y.2 := getL_of_mem HJ1.out (by rw [hy]; exact List.getElem_mem _)
            have hlk : ∀ wx, HeldT wr wx → (Instr.lookup 104 (.map (some w.heap.size)) (.int .i64 (y.1 : Int)) false).run Tryz.prog wx = .ok (tx y.2) wx := fun wx hx => (hJj.below hx).look y.1 hyk.1 y.2 hgy
            have hnum := fun w1 => pagedb_number w1 y.1 (by omega)
            have hst : recTo J (j + 1) = recTo J j ++ (num y.1 4 ++ y.2) := by rw [recTo_succ J j hjl, ← hy]
            have hl3 : (recTo J j).length ≤ 40000000 := by rw [recTo_len HJ3.out j hj]; omega
            have hl1 : (num y.1 4).length = 4 := num_len _ _
            obtain ⟨z1, hz1⟩ : ∃ z, z = num y.1 4 := ⟨_, rfl⟩
            obtain ⟨z3, hz3⟩ : ∃ z, z = recTo J j := ⟨_, rfl⟩
            rw [← hz1] at hnum hst hl1
            rw [← hz3] at hst hl3
            have k1 : ¬ (9223372036854775807 < z1.length + y.2.length) := by omega
            have k2 : ¬ (9223372036854775807 < z3.length + (z1.length + y.2.length)) := by omega
            have k3 : ¬ (9223372036854775807 < z3.length + (z1 ++ y.2).length) := by rw [List.length_append]; omega
            have a1 : (⟨z1.toArray⟩ ++ ⟨y.2.toArray⟩ : ByteArray) = ⟨(z1 ++ y.2).toArray⟩ := by rw [ByteArray.ext_iff, ← Array.toList_inj, data_app]
            have a2 : (⟨z3.toArray⟩ ++ ⟨(z1 ++ y.2).toArray⟩ : ByteArray) = ⟨(z3 ++ (z1 ++ y.2)).toArray⟩ := by rw [ByteArray.ext_iff, ← Array.toList_inj, data_app]
            have g1 : (j : Int) < (J.length : Int) := by omega
            have HLK := Lib.hid hlk; have HNUM := Lib.hid hnum; have HST := Lib.hid hst; have HBJ := Lib.hid hbj; have HJJ := Lib.hid hJj; have HRW := Lib.hid hrw
            rw [← hz3]
            clear hlk hnum hst hbj hJj hrw hz1 hz3 hgy hyk hy hl1 hl3
            go_wp2
            have hS0 : HeldT wr wr.drew := (Below.refl _ wr).drew
            refine wp_region_C (HeldT wr) (fun i => i == 2 || i == 5) (by kernel_rfl) ?_
            change anyC _ _ _ _ _ 9 _ _ wr.drew
            refine anyC_pure 0 57 (by decide) (by kernel_rfl) rfl rfl (by kernel_rfl) (by kernel_rfl) (fun _ _ _ _ h => h) (yi_move _ _ rfl rfl rfl) ?_
            simp only [Act.put, act_eval_tmp, act_eval_const, List.setIfInBounds_toArray, List.set_cons_succ, List.set_cons_zero, List.getD_cons_succ, List.getD_cons_zero]
            refine anyC_pure 1 58 (by decide) (by kernel_rfl) rfl rfl (by kernel_rfl) (by kernel_rfl) (fun _ _ _ _ h => h) (yi_move _ _ rfl rfl rfl) ?_
            simp only [Act.put, act_eval_tmp, act_eval_const, List.setIfInBounds_toArray, List.set_cons_succ, List.set_cons_zero, List.getD_cons_succ, List.getD_cons_zero]
            refine anyC_pure 3 60 (by decide) (by kernel_rfl) rfl rfl (by kernel_rfl) (by kernel_rfl) (fun _ _ _ _ h => h) (yi_move _ _ rfl rfl rfl) ?_
            simp only [Act.put, act_eval_tmp, act_eval_const, List.setIfInBounds_toArray, List.set_cons_succ, List.set_cons_zero, List.getD_cons_succ, List.getD_cons_zero]
            refine anyC_pure 4 61 (by decide) (by kernel_rfl) rfl rfl (by kernel_rfl) (by kernel_rfl) (fun _ _ _ _ h => h) (yi_move _ _ rfl rfl rfl) ?_
            simp only [Act.put, act_eval_tmp, act_eval_const, List.setIfInBounds_toArray, List.set_cons_succ, List.set_cons_zero, List.getD_cons_succ, List.getD_cons_zero]
            refine anyC_takeP 5 62 (by kernel_rfl) (by kernel_rfl) rfl rfl (by kernel_rfl) (by kernel_rfl) (fun _ _ _ _ h => h) hS0 (yi (v := tx y.2) rfl (fun wx hx => by have h := HLK.out wx hx; go_simp)) ?_
            simp only [Act.put, act_eval_tmp, act_eval_const, List.setIfInBounds_toArray, List.set_cons_succ, List.set_cons_zero, List.getD_cons_succ, List.getD_cons_zero]
            refine anyC_one 2 (some 59) _ 9 (by kernel_rfl) rfl rfl rfl rfl rfl ?_
            refine wp_callFn 63 #[int' y.1] _ (by kernel_rfl) (HNUM.out _) ?_
            rintro _ w8 ⟨rfl, hb8⟩
            have hS1 : HeldT wr w8 := Below.trans hS0 (hb8.mono hS0.size)
            clear hS0 hb8
            refine ⟨_, rfl, fun _ => hS1, ?_⟩
            simp only [Act.put, act_eval_tmp, act_eval_const, List.setIfInBounds_toArray, List.set_cons_succ, List.set_cons_zero, List.getD_cons_succ, List.getD_cons_zero]
            refine anyC_pure 6 63 (by decide) (by kernel_rfl) rfl rfl (by kernel_rfl) (by kernel_rfl) (fun _ _ _ _ h => h) (yi (v := tx (z1 ++ y.2)) rfl (fun w _ => by go_simp)) ?_
            simp only [Act.put, act_eval_tmp, act_eval_const, List.setIfInBounds_toArray, List.set_cons_succ, List.set_cons_zero, List.getD_cons_succ, List.getD_cons_zero]
            refine anyC_pure 7 64 (by decide) (by kernel_rfl) rfl rfl (by kernel_rfl) (by kernel_rfl) (fun _ _ _ _ h => h) (yi (v := tx (z3 ++ (z1 ++ y.2))) rfl (fun w _ => by go_simp)) ?_
            simp only [Act.put, act_eval_tmp, act_eval_const, List.setIfInBounds_toArray, List.set_cons_succ, List.set_cons_zero, List.getD_cons_succ, List.getD_cons_zero]
            refine anyC_pure 8 7 (by decide) (by kernel_rfl) rfl rfl (by kernel_rfl) (by kernel_rfl) (fun _ _ _ _ h => h) (yi_assign _ _ rfl rfl rfl) ?_
            simp only [Act.put, act_eval_tmp, act_eval_const, List.setIfInBounds_toArray, List.set_cons_succ, List.set_cons_zero, List.getD_cons_succ, List.getD_cons_zero]
            refine anyC_done (by kernel_rfl) ?_
            have HS1 := Lib.hid hS1
            clear hS1 k1 k2 k3 a1 a2
            go_wp2
            go_roundw
            case rel => exact ⟨j + 1, hjl, congrArg (Value.int .i64) (by omega), by rw [HST.out], HJJ.out.below HS1.out, RowIs.sees (T := fun _ => true) HRW.out (Below.sees HS1.out) rfl, HBJ.out.trans (Below.mono HS1.out HBJ.out.size)⟩
            case measure => simp [intOf]; omega
          · obtain rfl : j = J.length := by omega
            have HBJ := Lib.hid hbj; have HJJ := Lib.hid hJj
            clear hbj hJj hrw
            go_wp2
            go_ret2
            exact ⟨w.heap.size, congrArg (fun l => Ending.returned (.tuple #[tx l, .map (some w.heap.size)])) (recTo_all J), HJJ.out, HBJ.out⟩
      · have hbody : ∀ w1, Calls Tryz.prog 90 #[.agg #[int' tm.r0, int' tm.r1, int' tm.r2, int' tm.r3, int' tm.high, int' tm.free, int' tm.count]] w1 (NumPost w1 (metaB tm)) := fun w1 => meta_body w1 tm hm
        have hseal : ∀ w1, Below wr.heap.size wr w1 → Calls Tryz.prog 89 #[.int .i64 0, .int .i64 1, tx (metaB tm)] w1 fun e w' => e = .returned (.tuple #[tx (sealPage 0 1 (metaB tm)), .int .i64 0]) ∧ Below w1.heap.size w1 w' := fun w1 hb =>
          page_Seal w1 (hH2.below hb hB2) (Nat.lt_of_lt_of_le hB2 hb.size) 0 1 ⟨(metaB tm).toArray⟩ (by decide) (by decide) (by decide) (by show (metaB tm).length ≤ _; rw [metaB_len]; decide)
        have hzl : (sealPage 0 1 (metaB tm)).length = 512 := sealPage_len _ _ _ (by rw [metaB_len]; decide)
        have hput : putL 0 (sealPage 0 1 (metaB tm)) (sealsOf l) = J := by
          rw [HJ.out]
          exact putL_front 0 _ fun y hy => by
            obtain ⟨p, hp, rfl⟩ := List.mem_map.1 hy
            exact (HL.out.ids p hp).1
        obtain ⟨z, hz⟩ : ∃ z, z = sealPage 0 1 (metaB tm) := ⟨_, rfl⟩
        obtain ⟨z2, hz2⟩ : ∃ z, z = metaB tm := ⟨_, rfl⟩
        rw [← hz] at hseal hzl hput
        rw [← hz2] at hseal hbody
        have hzl2 : z.length ≤ 65536 := by omega
        have hil2 : (sealsOf l).length < 2147483648 := by omega
        have HLD : Hid (∀ j v, [int' tm.r0, int' tm.r1, int' tm.r2, int' tm.r3, int' tm.high, int' tm.free, int' tm.count][j]? = some v → wr.cell? ⟨t, 1 + j, none⟩ = some v) := fun j v hv => by
          refine cellAt HN.out.head (1 + j) v ?_
          match j, hv with
          | 0, hv => exact hv
          | 1, hv => exact hv
          | 2, hv => exact hv
          | 3, hv => exact hv
          | 4, hv => exact hv
          | 5, hv => exact hv
          | 6, hv => exact hv
          | j + 7, hv => simp at hv
        have HSE := Lib.hid hseal; have HPU := Lib.hid hput
        clear hz hz2 hseal hput hzl
        go_wp2_with (first
          | (with_reducible refine wpList_load_mid rfl 60 (.tmp 40) rfl t 1 rfl [int' tm.r0, int' tm.r1, int' tm.r2, int' tm.r3, int' tm.high, int' tm.free, int' tm.count] (by kernel_rfl) HLD.out ?_)
          | (go_at_call 90; go_must (refine (hbody _).mono ?_; rintro e w3 ⟨rfl, hb3⟩; have HB3 := Lib.hid hb3; clear hb3))
          | (go_at_call 89; go_must (refine (HSE.out _ HB3.out).mono ?_; rintro e w4 ⟨rfl, hb4⟩; have hb34 := HB3.out.trans (hb4.mono HB3.out.size); have HB34 := Lib.hid hb34; clear hb4 hb34))
          | (at_mapUpdate; go_must (refine wpList_put_str rfl (.tmp 37) (.const (.int .i64 0)) (.tmp 44) rfl w.heap.size (sealsOf l) rfl (HIM.out.below HB34.out) 0 (by decide) rfl z rfl hzl2 hil2 ?_; intro w9 hm9 ht9; have hb9 : Below w.heap.size w w9 := (HBR.out.trans (HB34.out.mono HBR.out.size)).grown ht9.grown (Nat.le_trans HBR.out.size HB34.out.size) (fun k hk => by injection hk with hk; omega); rw [HPU.out] at hm9; have HIM2 : Hid (StrMap w9 w.heap.size J) := hm9; have HB4 := Lib.hid hb9; clear hm9 ht9 hb9))
          | (at_len; have _tk := HIM2; refine wpList_len_own _ rfl _ 104 rfl 3 9 Tryz.underlying104 strR w.heap.size J.length (mapD strD J) rfl HIM2.out ?_; rw [mapD_size])
          | (go_at_call 63; go_must (refine (HN5.out _).mono ?_; rintro e w5 ⟨rfl, hb5⟩; have hJ5 := StrMap.below HIM2.out hb5; have HJ5 := Lib.hid hJ5; have HB5 := Lib.hid hb5; clear hb5 hJ5 HIM2))
          | (go_at_call 92; go_must (refine (keys_call _ _).mono ?_; rintro e w6 ⟨rfl, rfl⟩; have HS6 := Lib.hid (sorted_call w.heap.size J w5 HJ5.out HJ1.out (by omega))))
          | (go_at_call 91; go_must (refine HS6.out.mono ?_; rintro e w7 ⟨sv, rfl, hown7, hb7⟩; obtain ⟨sa, sc, rfl⟩ := owns_shape hown7; have HO7 := Lib.hid hown7; have HJ7 := Lib.hid (HJ5.out.below hb7); have HB7 : Hid (Below w.heap.size w w7) := HB4.out.trans ((HB5.out.trans (hb7.mono HB5.out.size)).mono HB4.out.size); clear hown7 hb7)))
        go_loopw [7, 53] (fun u v wr2 => RecInv2 w w.heap.size J (.slice sa J.length sc) u v wr2) (fun _ v _ => J.length - (intOf v).toNat)
        case atStart => exact ⟨0, Nat.zero_le _, rfl, by rw [recTo]; simp, HJ7.out, rowIs_low (RowIs.of_owns HO7.out) (Nat.zero_le _), HB7.out⟩
        case round =>
          obtain ⟨j, hj, rfl, rfl, hJj, hrw, hbj⟩ := hrel
          by_cases hjl : j < J.length
          · obtain ⟨g, rfl, hcj⟩ := hrw.cell (t := j) (u := int' (J[j]).1) (by rw [List.getElem?_map, List.getElem?_eq_getElem hjl]; rfl)
            obtain ⟨y, hy⟩ : ∃ y, y = J[j] := ⟨_, rfl⟩
            rw [← hy] at hcj
            have hyk := HJ3.out y (by rw [hy]; exact List.getElem_mem _)
            have hgy : getL y.1 J = some y.2 := getL_of_mem HJ1.out (by rw [hy]; exact List.getElem_mem _)
            have hlk : ∀ wx, HeldT wr wx → (Instr.lookup 104 (.map (some w.heap.size)) (.int .i64 (y.1 : Int)) false).run Tryz.prog wx = .ok (tx y.2) wx := fun wx hx => (hJj.below hx).look y.1 hyk.1 y.2 hgy
            have hnum := fun w1 => pagedb_number w1 y.1 (by omega)
            have hst : recTo J (j + 1) = recTo J j ++ (num y.1 4 ++ y.2) := by rw [recTo_succ J j hjl, ← hy]
            have hl3 : (recTo J j).length ≤ 40000000 := by rw [recTo_len HJ3.out j hj]; omega
            have hl1 : (num y.1 4).length = 4 := num_len _ _
            obtain ⟨z1, hz1⟩ : ∃ z, z = num y.1 4 := ⟨_, rfl⟩
            obtain ⟨z3, hz3⟩ : ∃ z, z = recTo J j := ⟨_, rfl⟩
            rw [← hz1] at hnum hst hl1
            rw [← hz3] at hst hl3
            have k1 : ¬ (9223372036854775807 < z1.length + y.2.length) := by omega
            have k2 : ¬ (9223372036854775807 < z3.length + (z1.length + y.2.length)) := by omega
            have k3 : ¬ (9223372036854775807 < z3.length + (z1 ++ y.2).length) := by rw [List.length_append]; omega
            have a1 : (⟨z1.toArray⟩ ++ ⟨y.2.toArray⟩ : ByteArray) = ⟨(z1 ++ y.2).toArray⟩ := by rw [ByteArray.ext_iff, ← Array.toList_inj, data_app]
            have a2 : (⟨z3.toArray⟩ ++ ⟨(z1 ++ y.2).toArray⟩ : ByteArray) = ⟨(z3 ++ (z1 ++ y.2)).toArray⟩ := by rw [ByteArray.ext_iff, ← Array.toList_inj, data_app]
            have g1 : (j : Int) < (J.length : Int) := by omega
            have HLK := Lib.hid hlk; have HNUM := Lib.hid hnum; have HST := Lib.hid hst; have HBJ := Lib.hid hbj; have HJJ := Lib.hid hJj; have HRW := Lib.hid hrw
            rw [← hz3]
            clear hlk hnum hst hbj hJj hrw hz1 hz3 hgy hyk hy hl1 hl3
            go_wp2
            have hS0 : HeldT wr wr.drew := (Below.refl _ wr).drew
            refine wp_region_C (HeldT wr) (fun i => i == 2 || i == 5) (by kernel_rfl) ?_
            change anyC _ _ _ _ _ 9 _ _ wr.drew
            refine anyC_pure 0 57 (by decide) (by kernel_rfl) rfl rfl (by kernel_rfl) (by kernel_rfl) (fun _ _ _ _ h => h) (yi_move _ _ rfl rfl rfl) ?_
            simp only [Act.put, act_eval_tmp, act_eval_const, List.setIfInBounds_toArray, List.set_cons_succ, List.set_cons_zero, List.getD_cons_succ, List.getD_cons_zero]
            refine anyC_pure 1 58 (by decide) (by kernel_rfl) rfl rfl (by kernel_rfl) (by kernel_rfl) (fun _ _ _ _ h => h) (yi_move _ _ rfl rfl rfl) ?_
            simp only [Act.put, act_eval_tmp, act_eval_const, List.setIfInBounds_toArray, List.set_cons_succ, List.set_cons_zero, List.getD_cons_succ, List.getD_cons_zero]
            refine anyC_pure 3 60 (by decide) (by kernel_rfl) rfl rfl (by kernel_rfl) (by kernel_rfl) (fun _ _ _ _ h => h) (yi_move _ _ rfl rfl rfl) ?_
            simp only [Act.put, act_eval_tmp, act_eval_const, List.setIfInBounds_toArray, List.set_cons_succ, List.set_cons_zero, List.getD_cons_succ, List.getD_cons_zero]
            refine anyC_pure 4 61 (by decide) (by kernel_rfl) rfl rfl (by kernel_rfl) (by kernel_rfl) (fun _ _ _ _ h => h) (yi_move _ _ rfl rfl rfl) ?_
            simp only [Act.put, act_eval_tmp, act_eval_const, List.setIfInBounds_toArray, List.set_cons_succ, List.set_cons_zero, List.getD_cons_succ, List.getD_cons_zero]
            refine anyC_takeP 5 62 (by kernel_rfl) (by kernel_rfl) rfl rfl (by kernel_rfl) (by kernel_rfl) (fun _ _ _ _ h => h) hS0 (yi (v := tx y.2) rfl (fun wx hx => by have h := HLK.out wx hx; go_simp)) ?_
            simp only [Act.put, act_eval_tmp, act_eval_const, List.setIfInBounds_toArray, List.set_cons_succ, List.set_cons_zero, List.getD_cons_succ, List.getD_cons_zero]
            refine anyC_one 2 (some 59) _ 9 (by kernel_rfl) rfl rfl rfl rfl rfl ?_
            refine wp_callFn 63 #[int' y.1] _ (by kernel_rfl) (HNUM.out _) ?_
            rintro _ w8 ⟨rfl, hb8⟩
            have hS1 : HeldT wr w8 := Below.trans hS0 (hb8.mono hS0.size)
            clear hS0 hb8
            refine ⟨_, rfl, fun _ => hS1, ?_⟩
            simp only [Act.put, act_eval_tmp, act_eval_const, List.setIfInBounds_toArray, List.set_cons_succ, List.set_cons_zero, List.getD_cons_succ, List.getD_cons_zero]
            refine anyC_pure 6 63 (by decide) (by kernel_rfl) rfl rfl (by kernel_rfl) (by kernel_rfl) (fun _ _ _ _ h => h) (yi (v := tx (z1 ++ y.2)) rfl (fun w _ => by go_simp)) ?_
            simp only [Act.put, act_eval_tmp, act_eval_const, List.setIfInBounds_toArray, List.set_cons_succ, List.set_cons_zero, List.getD_cons_succ, List.getD_cons_zero]
            refine anyC_pure 7 64 (by decide) (by kernel_rfl) rfl rfl (by kernel_rfl) (by kernel_rfl) (fun _ _ _ _ h => h) (yi (v := tx (z3 ++ (z1 ++ y.2))) rfl (fun w _ => by go_simp)) ?_
            simp only [Act.put, act_eval_tmp, act_eval_const, List.setIfInBounds_toArray, List.set_cons_succ, List.set_cons_zero, List.getD_cons_succ, List.getD_cons_zero]
            refine anyC_pure 8 7 (by decide) (by kernel_rfl) rfl rfl (by kernel_rfl) (by kernel_rfl) (fun _ _ _ _ h => h) (yi_assign _ _ rfl rfl rfl) ?_
            simp only [Act.put, act_eval_tmp, act_eval_const, List.setIfInBounds_toArray, List.set_cons_succ, List.set_cons_zero, List.getD_cons_succ, List.getD_cons_zero]
            refine anyC_done (by kernel_rfl) ?_
            have HS1 := Lib.hid hS1
            clear hS1 k1 k2 k3 a1 a2
            go_wp2
            go_roundw
            case rel => exact ⟨j + 1, hjl, congrArg (Value.int .i64) (by omega), by rw [HST.out], HJJ.out.below HS1.out, RowIs.sees (T := fun _ => true) HRW.out (Below.sees HS1.out) rfl, HBJ.out.trans (Below.mono HS1.out HBJ.out.size)⟩
            case measure => simp [intOf]; omega
          · obtain rfl : j = J.length := by omega
            have HBJ := Lib.hid hbj; have HJJ := Lib.hid hJj
            clear hbj hJj hrw
            go_wp2
            go_ret2
            exact ⟨w.heap.size, congrArg (fun l => Ending.returned (.tuple #[tx l, .map (some w.heap.size)])) (recTo_all J), HJJ.out, HBJ.out⟩
    · intro x2 ck cb kl yd yp w2 cnt2 hkey hlk hv hat hrg2 hlt hg2 hs2 hen
      clear hs2
      obtain ⟨c, hc⟩ : ∃ c : Lf, c = (ck, cb) := ⟨_, rfl⟩
      obtain ⟨x3, ex, rfl, _⟩ := Maps.keyOf_int_inv Tryz.underlying3 hkey
      injection ex with _ ex
      subst ex
      have hyd : yd = leafD c := by
        have h1 := leafR_mk c
        rw [show leafR (leafV c) = leafR (.agg #[int' ck, tx cb]) from by rw [hc]; rfl, hv] at h1
        injection h1 with h1
        injection h1
      subst hyd
      obtain ⟨i, v, rfl, hgi, hlv⟩ := mapD_key leafD l x2 _ hat
      obtain rfl := leafD_inj hlv
      have hmem := getL_mem hgi
      have hid := (HL.out.ids _ hmem)
      have hok := (HL.out.ok _ hmem)
      have hi2 : i < 2147483648 := hid.2
      have hb2 : Below w.heap.size w w2 := below_next HBR.out hg2 (by have := HR1.out; omega) HBR.out.size
      have hI2 : StrMap w2 w.heap.size I := HI.out.grown hg2 (by have := HR1.out; simp; omega)
      have hsl : ∀ w3, Below w2.heap.size w2 w3 → Calls Tryz.prog 89 #[.int .i64 (i : Int), int' v.1, tx v.2] w3 (SealPost w3 i v.1 v.2) := fun w3 hb3 =>
        page_Seal w3 (hH.below (hb2.trans (hb3.mono hb2.size)) hB) (Nat.lt_of_lt_of_le hB (Nat.le_trans hb2.size hb3.size)) i v.1 ⟨v.2.toArray⟩ hi2 hok.1 hok.2.1 hok.2.2
      have hslen : (sealPage i v.1 v.2).length = 512 := sealPage_len _ _ _ hok.2.2
      obtain ⟨z, hz⟩ : ∃ z, z = sealPage i v.1 v.2 := ⟨_, rfl⟩
      have hsl2 : ∀ w3, Below w2.heap.size w2 w3 → Calls Tryz.prog 89 #[.int .i64 (i : Int), int' v.1, tx v.2] w3 fun e w' => e = .returned (.tuple #[tx z, .int .i64 0]) ∧ Below w3.heap.size w3 w' := fun w3 hb3 => by rw [hz]; exact hsl w3 hb3
      rw [← hz] at hslen
      have hcv : ck = v.1 ∧ cb = v.2 := by rw [hc]; exact ⟨rfl, rfl⟩
      obtain ⟨rfl, rfl⟩ := hcv
      have hen2 : (Instr.entry (.pointer (some ⟨r, 0, none⟩))).run Tryz.prog w2 = .ok (.tuple #[.int .i64 (i : Int), .agg #[int' v.1, tx v.2]]) w2 := hen
      have HSL := Lib.hid hsl2; have HZ : Hid (z = sealLf i v) := hz
      have HRG2 := Lib.hid hrg2; have HB2 := Lib.hid hb2; have HI2 := Lib.hid hI2; have HGI := Lib.hid hgi; have HLT := Lib.hid hlt; have HLK := Lib.hid hlk
      have hil : I.length < 2147483648 := by have := HIL.out; have := HLL.out; omega
      have hz2 : z.length ≤ 65536 := by omega
      clear hkey hv hat hlv hc hrg2 hlt hg2 hen hsl hsl2 hz hslen hid hok hmem hb2 hI2 hgi hlk
      go_wp2_with (first
        | (with_reducible refine wpList_store_new rfl 101 (.tmp 6) (.tmp 20) rfl 101 _ rfl [int' v.1, tx v.2] rfl (by kernel_rfl) rfl (leafOne v) ?_)
        | (go_at_call 89; go_must (refine (HSL.out _ ((Below.refl _ w2).alloc (Nat.le_refl _) _)).mono ?_; rintro e w3 ⟨rfl, hb3⟩; have hb23 : Below w2.heap.size w2 w3 := ((Below.refl _ w2).alloc (Nat.le_refl _) (.cells #[int' v.1, tx v.2] 101)).trans (hb3.mono (by simp)); have HB23 := Lib.hid hb23; clear hb3 hb23))
        | (at_mapUpdate; go_must (refine wpList_put_str rfl (.tmp 22) (.tmp 23) (.tmp 30) rfl w.heap.size I rfl (HI2.out.below HB23.out) i hi2 rfl z rfl hz2 hil ?_; intro w4 hm4 ht4; have HM4 := Lib.hid hm4; have HT4 := Lib.hid ht4; clear hm4 ht4)))
      have hrg4 : w4.ranges Tryz.prog 3 leafR mb r l.length (mapD leafD l) (fun z => left z && !z.sameKey (.int .i64 (i : Int))) cnt2 := (HRG2.out.kept (grown_of_below HB23.out) (by simp) (by simp)).kept HT4.out.grown (by simp; omega) (by have := HR1.out; simp; omega)
      have HRG4 := Lib.hid hrg4
      clear hrg4
      go_frame
      go_roundw
      case rel =>
        refine ⟨_, cnt2, _, HRG4.out, HM4.out, rises_putL HIR.out, fun j => ?_, ?_, ?_⟩
        · rw [getL_putL, sameI, HIG.out j]
          by_cases hij : i = j
          · subst hij
            rw [if_pos rfl, HGI.out, HZ.out]; simp
          · have e : (j == i) = false := by simp; omega
            rw [if_neg hij, e]; simp
        · have h1 := putL_len_le i z I
          have h2 := HIL.out; have h3 := HLT.out
          omega
        · exact (HB2.out.trans (HB23.out.mono HB2.out.size)).grown HT4.out.grown (Nat.le_trans HB2.out.size HB23.out.size) (fun k hk => by injection hk with hk; omega)
      case measure => rw [HRG4.out.left_eq, HRG.out.left_eq]; exact HLT.out
end Go.Proofs.YthbbammibdhohaaGreatDoor

namespace Go.Proofs.YthbbammibdhohaaGreatDoor
open Go.RowKit Aq Go.Rgn Go.Maps

set_option maxHeartbeats 400000 in
set_option maxRecDepth 100000 in
theorem tx_Commit_shut {w : World} {v : Value} (h : Shut w v) : Calls Tryz.prog 20 #[v] w fun e w' => e = .returned (.int .i64 1) ∧ w = w' := by
  have hup := tx_up_shut h
  clear h
  go_enter Tryz.func20, Tryz.ntmps20
  go_wp2_with (first
    | (go_at_call 53; refine hup.mono ?_; rintro e w' ⟨rfl, rfl⟩))
  go_ret
  exact ⟨rfl, rfl⟩
/-- what a commit answers that writes nothing -/
def commitNo (log : Nat) (tm : Meta) (mk sp : Bool) (l : List (Nat × Lf)) : Option Int :=
  if sp then some 9 else if pagesOf tm mk l = [] then some 0
  else if 65536 < (recB (pagesOf tm mk l)).length ∨ 64 * (log - 1) < (recB (pagesOf tm mk l)).length + 8 then some 7 else none
def NoPost (B : Nat) (w : World) (x db p log : Nat) (m : Meta) (c : Int) (e : Ending) (w' : World) : Prop := e = .returned (.int .i64 c) ∧ DbIs B w' x db p log m (.pointer none) false ∧ Upd B dbT w w'
theorem sealsOf_nil {l : List (Nat × Lf)} (h : sealsOf l = []) : l = [] := List.map_eq_nil_iff.1 h
set_option maxHeartbeats 2000000 in
set_option maxRecDepth 100000 in
theorem tx_Commit_no {B C : Nat} {w : World} {t mb x db p log : Nat} {m tm : Meta} {mk sp : Bool} {l : List (Nat × Lf)} {D : Disk} (h : TxNow B C w t mb x db p log m tm mk sp l D) (hl : LeavesOk l) (hll : l.length ≤ 65536) (hm : tm.Ok) (hlog1 : 1 ≤ log) (hlog : log ≤ 65536)
    (hH : HalfAt w) (hB : 0 < B) (c : Int) (hc : commitNo log tm mk sp l = some c) :
    Calls Tryz.prog 20 #[.pointer (some ⟨t, 0, none⟩)] w (NoPost B w x db p log m c) := by
  have hup := h.up
  have hend := tx_end h
  have t0 := h.tx.c0
  have hBs : B ≤ w.heap.size := Nat.le_trans h.dbi.hx (Nat.le_of_lt (lt_of_some h.dbi.head))
  obtain ⟨J, hJ⟩ : ∃ J, J = pagesOf tm mk l := ⟨_, rfl⟩
  obtain ⟨hj1, hj2, hj3⟩ := pages_ok tm hl hll hJ
  have hrl : (recB J).length = 4 + 516 * J.length := by rw [recB, List.length_append, num_len, pgs_len (n := 2147483648) hj3]
  have hrec : ∀ w1, TxIs C w1 t x mb tm mk sp l → Upd B dbT w w1 → Calls Tryz.prog 54 #[.pointer (some ⟨t, 0, none⟩)] w1 (RecPost w1 J) := fun w1 h1 hu => by
    rw [hJ]; exact tx_record h1 hl hll hm (hH.upd hu hB hBs) (Nat.lt_of_lt_of_le hB (Nat.le_trans hBs hu.size))
  have hcn : commitNo log tm mk sp l = if sp then some 9 else if J = [] then some 0 else if 65536 < (recB J).length ∨ 64 * (log - 1) < (recB J).length + 8 then some 7 else none := by rw [hJ]; rfl
  rw [hcn] at hc
  obtain ⟨z, hz⟩ : ∃ z, z = recB J := ⟨_, rfl⟩
  rw [← hz] at hc hrl
  have hrec2 : ∀ w1, TxIs C w1 t x mb tm mk sp l → Upd B dbT w w1 → Calls Tryz.prog 54 #[.pointer (some ⟨t, 0, none⟩)] w1 fun e w' => ∃ ib, e = .returned (.tuple #[tx z, .map (some ib)]) ∧ StrMap w' ib J ∧ Below w1.heap.size w1 w' := fun w1 h1 hu => by
    rw [hz]; exact hrec w1 h1 hu
  have HREC := Lib.hid hrec2; have HJN : Hid (J.length ≤ 65537) := hj2
  clear h hl hm hH hJ hj1 hj3 hrec hrec2 hcn hz
  cases sp
  · simp only [Bool.false_eq_true, if_false] at hc
    by_cases hJ0 : J = []
    · rw [if_pos hJ0] at hc
      injection hc with hc
      subst hc
      have hj0 : J.length = 0 := by rw [hJ0]; rfl
      clear hrl hj2
      go_enter Tryz.func20, Tryz.ntmps20
      go_wp2_with (first
        | (go_at_call 53; refine hup.mono ?_; rintro e w' ⟨rfl, rfl⟩)
        | (go_at_call 51; go_must (refine hend.mono ?_; rintro e w1 ⟨rfl, hdb1, htx1, hu1⟩; have HR1 := HREC.out w1 htx1 hu1; have HDB1 := Lib.hid hdb1; have HTX1 := Lib.hid htx1; have HU1 := Lib.hid hu1; clear hdb1 htx1 hu1))
        | (go_at_call 54; go_must (refine HR1.mono ?_; rintro e w2 ⟨ib, rfl, hm2, hb2⟩; have k10 := (HTX1.out.keep (Below.sees hb2)).c10; have HM2 := Lib.hid hm2; have HB2 := Lib.hid hb2; clear hm2 hb2))
        | (at_len; refine wpList_len_own _ rfl _ 104 rfl 3 9 Tryz.underlying104 strR ib J.length (mapD strD J) rfl HM2.out ?_; rw [mapD_size, hj0]))
      go_ret
      exact ⟨rfl, HDB1.out.keep (Below.sees HB2.out), HU1.out.trans (.of_below HB2.out)⟩
    · rw [if_neg hJ0] at hc
      have hj0 : J.length ≠ 0 := fun e => hJ0 (List.eq_nil_of_length_eq_zero e)
      have q1 : ((J.length : Int) == 0) = false := by simp; exact hJ0
      have q2 : ¬ (J.length : Int) = 0 := by omega
      have hc7 : c = 7 ∧ (65536 < z.length ∨ 64 * (log - 1) < z.length + 8) := by
        split at hc
        · injection hc with hc; exact ⟨hc.symm, ‹_›⟩
        · cases hc
      obtain ⟨rfl, hbig⟩ := hc7
      have q3 : (z.length : Int) ≤ 40000000 := by omega
      have q4 : (log : Int) ≤ 65536 := by omega
      have q5 : (1 : Int) ≤ (log : Int) := by omega
      have hbig2 : (65536 : Int) < (z.length : Int) ∨ (¬ ((65536 : Int) < (z.length : Int)) ∧ 64 * ((log : Int) - 1) < (z.length : Int) + 8) := by omega
      clear hrl hj2 hc hbig
      rcases hbig2 with q6 | ⟨q6, q7⟩
      all_goals
        go_enter Tryz.func20, Tryz.ntmps20
        go_wp2_with (first
          | (go_at_call 53; refine hup.mono ?_; rintro e w' ⟨rfl, rfl⟩)
          | (go_at_call 51; go_must (refine hend.mono ?_; rintro e w1 ⟨rfl, hdb1, htx1, hu1⟩; have HR1 := HREC.out w1 htx1 hu1; have HDB1 := Lib.hid hdb1; have HTX1 := Lib.hid htx1; have HU1 := Lib.hid hu1; clear hdb1 htx1 hu1))
          | (go_at_call 54; go_must (refine HR1.mono ?_; rintro e w2 ⟨ib, rfl, hm2, hb2⟩; have k10 := (HTX1.out.keep (Below.sees hb2)).c10; have kx2 := (HDB1.out.keep (Below.sees hb2)).c2; have HM2 := Lib.hid hm2; have HB2 := Lib.hid hb2; clear hm2 hb2))
          | (at_len; refine wpList_len_own _ rfl _ 104 rfl 3 9 Tryz.underlying104 strR ib J.length (mapD strD J) rfl HM2.out ?_; rw [mapD_size]))
        go_ret
        exact ⟨rfl, HDB1.out.keep (Below.sees HB2.out), HU1.out.trans (.of_below HB2.out)⟩
  · simp only [if_true] at hc
    injection hc with hc
    subst hc
    clear hrl hj2
    go_enter Tryz.func20, Tryz.ntmps20
    go_wp2_with (first
      | (go_at_call 53; refine hup.mono ?_; rintro e w' ⟨rfl, rfl⟩)
      | (go_at_call 51; go_must (refine hend.mono ?_; rintro e w1 ⟨rfl, hdb1, htx1, hu1⟩; have HR1 := HREC.out w1 htx1 hu1; have HDB1 := Lib.hid hdb1; have HTX1 := Lib.hid htx1; have HU1 := Lib.hid hu1; clear hdb1 htx1 hu1))
      | (go_at_call 54; go_must (refine HR1.mono ?_; rintro e w2 ⟨ib, rfl, hm2, hb2⟩; have k10 := (HTX1.out.keep (Below.sees hb2)).c10; have HM2 := Lib.hid hm2; have HB2 := Lib.hid hb2; clear hm2 hb2)))
    go_ret
    exact ⟨rfl, HDB1.out.keep (Below.sees HB2.out), HU1.out.trans (.of_below HB2.out)⟩
end Go.Proofs.YthbbammibdhohaaGreatDoor
