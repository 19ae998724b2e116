/- (*Disk).Write comes to the model's write. Condition: fewer than 2^32 writes are pending. (*Disk).Read comes to the model's read. No condition. (*Disk).Arm, Flush come to the model's. No condition. -/
import Derived.Test.YthbbammibdhohaaGreatDoorZR
set_option linter.unusedSimpArgs false
set_option linter.unusedVariables false
namespace Go.Proofs.YthbbammibdhohaaGreatDoor
open Go.RowKit Aq Go.Rgn

theorem Tryz.size_write : (Tryz.prog.info? 113).map (·.size) = some 65 := by kernel_rfl
theorem Tryz.agg_write : aggSize Tryz.prog 113 = some 65 := by kernel_rfl
theorem Tryz.agg_block : aggSize Tryz.prog 111 = some 64 := by kernel_rfl
theorem Tryz.size_u8 : (Tryz.prog.info? 5).map (·.size) = some 1 := by kernel_rfl
theorem Tryz.info_write : (Tryz.prog.info? 113).map (fun i => (i.zero, i.size, i.bytes)) = some (some (.agg Tryz.zeroCells113), 65, 72) := by kernel_rfl
theorem zc_write : Tryz.zeroCells113 = (Value.int .i64 0 :: List.replicate 64 (Value.int .u8 0)).toArray := by kernel_rfl

def wcI (i : Int) (l : Bs) : List Value := .int .i64 i :: l.map byt
theorem wcells_eq (i : Nat) (l : Bs) : wcells (i, l) = wcI i l := rfl
theorem wcI_len (i : Int) (l : Bs) (h : l.length = 64) : (wcI i l).length = 65 := by simp [wcI, h]
theorem wcI_one (i : Int) (l : Bs) : ∀ v ∈ wcI i l, v.oneCell' = true := by
  intro v hv; simp only [wcI, List.mem_cons, List.mem_map] at hv
  rcases hv with rfl | ⟨x, _, rfl⟩ <;> rfl
theorem pad_len {s : Bs} (h : s.length ≤ 64) : (pad s).length = 64 := by simp [pad, zeros]; omega
theorem wcI_pad (i : Int) (s : ByteArray) (h : s.size ≤ 64) : splice (wcI i (zeros 64)) 1 (firstB s s.size) = wcI i (pad s.data.toList) := by
  have hs : s.data.size = s.size := rfl
  have e : s.data.toList.take s.size = s.data.toList := List.take_of_length_le (by simp [hs])
  have : s.data.toList.length = s.size := by simp [hs]
  simp only [splice, wcI, firstB, e, pad, zeros, List.map_append, List.length_map, this, List.take_succ_cons, List.take_zero, List.map_replicate, List.cons_append, List.nil_append]
  rw [Nat.add_comm 1, List.drop_succ_cons, List.drop_replicate]

theorem DiskIs.bne {B : Nat} {w : World} {b kb : Nat} {pv : Value} {dn : Int} {D : Disk} (h : DiskIs B w b kb pv dn D) : some b ≠ pv.ownBlock ∧ some kb ≠ pv.ownBlock := by
  rcases h.pend.2 with ⟨rfl, _⟩ | ⟨g, cap, cur, rfl, _, hg, _⟩
  · simp [Value.ownBlock]
  · constructor
    · simp only [Value.ownBlock, ne_eq, Option.some.injEq]; intro e; subst e; have := h.head; rw [this] at hg; injection hg with hg; injection hg with _ ht; cases ht
    · simp only [Value.ownBlock, ne_eq, Option.some.injEq]; intro e; subst e; have := h.row; rw [this] at hg; injection hg with hg; injection hg with _ ht; cases ht
theorem Disk.does_eq (D : Disk) : D.does.1.kept = D.kept ∧ D.does.1.pend = D.pend := by unfold Disk.does; split <;> exact ⟨rfl, rfl⟩

/-- a write is appended to those that are pending -/
theorem DiskIs.appended {B : Nat} {w w' : World} {b kb : Nat} {pv v' : Value} {dn : Int} {D : Disk} (h : DiskIs B w b kb pv dn D) (i : Nat) (l : Bs) (hi : i < D.kept.length) (hl : l.length = 64)
    (hown : w'.ownsRow B tWrite 65 v' (D.pend.length + 1) (D.pend.flatMap wcells ++ wcells (i, l))) (hg : w.grownBy w' pv.ownBlock) :
    DiskIs B (w'.setCell ⟨b, 1, none⟩ v') b kb v' dn { D with pend := D.pend ++ [(i, l)] } ∧ Upd B diskT w (w'.setCell ⟨b, 1, none⟩ v') := by
  have hne := h.bne
  have hb' : w'.heap[b]? = some (.cells (diskCells kb D.kept.length pv D.down D.armed D.left dn) tDisk (0, 0)) := (hg.block b (lt_of_some h.head) hne.1).trans h.head
  have hk' : w'.heap[kb]? = some (.cells (D.kept.flatten.map byt).toArray tBlock (0, 0)) := (hg.block kb (lt_of_some h.row) hne.2).trans h.row
  have hu : Upd B diskT w w' := (Upd.refl B diskT w).grown hg (fun k o hk ho => by
    rcases h.pend.2 with ⟨rfl, _⟩ | ⟨g, cap, cur, rfl, hB, hgg, _⟩
    · simp [Value.ownBlock] at hk
    · simp only [Value.ownBlock, Option.some.injEq] at hk; subst hk; rw [hgg] at ho; injection ho with ho; subst ho; exact ⟨hB, rfl⟩)
  refine ⟨⟨h.hb, h.hkb, ?_, ?_, ?_, ?_⟩, hu.setCell (p := ⟨b, 1, none⟩) v' hb' h.hb rfl⟩
  · rw [heap_setCell_same w' b 1 _ _ v' hb']; rfl
  · exact heap_setCell_tag (p := ⟨b, 1, none⟩) hb' v' hk' (by decide)
  · simp only [List.length_append, List.length_cons, List.length_nil, List.flatMap_append, List.flatMap_cons, List.flatMap_nil, List.append_nil]
    exact ownsRow_setCell_tag hown (p := ⟨b, 1, none⟩) hb' (by decide) v'
  · refine ⟨h.ok.pos, h.ok.most, h.ok.len, fun x hx => ?_, h.ok.left⟩
    rcases List.mem_append.1 hx with hx | hx
    · exact h.ok.ats x hx
    · rw [List.mem_singleton.1 hx]; exact ⟨hi, hl⟩

/-- what the drawn statement leans on: the field, and the new write's cells -/
def HeldW (b N : Nat) (pv : Value) (cs : List Value) (w : World) : Prop := w.cell? ⟨b, 1, none⟩ = some pv ∧ ∀ j v, cs[j]? = some v → w.cell? ⟨N, 0 + j, none⟩ = some v

set_option maxHeartbeats 1000000 in
set_option maxRecDepth 100000 in
theorem write_ok {B : Nat} {w : World} {b kb : Nat} {pv : Value} {dn : Int} {D : Disk} (h : DiskIs B w b kb pv dn D) (i : Int) (s : ByteArray) (hd : D.down = false) (hi : D.is i = true) (hs : s.size ≤ 64) (hdo : D.does.2 = 0) (hp : D.pend.length < 4294967296) :
    Calls Tryz.prog 111 #[.pointer (some ⟨b, 0, none⟩), .int .i64 i, .string s] w
      (DiskPost B w b ({ D.does.1 with pend := D.pend ++ [(i.toNat, pad s.data.toList)] }, 0)) := by
  have hup := disk_up (B := B) (b := b) ⟨kb, pv, dn, h⟩
  have his := disk_is (B := B) (b := b) ⟨kb, pv, dn, h⟩ i
  have hdoes := disk_does h
  rw [hd] at hup; rw [hi] at his; rw [hdo] at hdoes
  simp only [Bool.false_eq_true, if_false] at hup
  have hs' : ¬ (64 < (s.size : Int)) := by omega
  have hz : (Tryz.zeroCells113.setIfInBounds 0 (.int .i64 i)) = (wcI i (zeros 64)).toArray := by rw [zc_write]; rfl
  have HZ := Lib.hid hz; clear hz
  have HD := Lib.hid hd; have HI := Lib.hid hi; have HDO := Lib.hid hdo; have HH := Lib.hid h
  clear hd hi hdo h
  obtain ⟨i0, hin, hz0, hz1, hz2⟩ := info_parts Tryz.info_write
  have HIN := Lib.hid hin; have HZ0 := Lib.hid hz0; have HZ1 := Lib.hid hz1; have HZ2 := Lib.hid hz2
  clear hin hz0 hz1 hz2
  go_enter Tryz.func111, Tryz.ntmps111
  go_wp2_with (first
     | (go_at_call 40; refine hup.mono ?_; rintro e w' ⟨rfl, rfl⟩)
     | (go_at_call 101; refine his.mono ?_; rintro e w' ⟨rfl, rfl⟩)
     | (go_at_call 112; refine hdoes.mono ?_; rintro e w1 ⟨rfl, hx1, hu1⟩; have X1 := Lib.hid hx1; have U1 := Lib.hid hu1; clear hx1 hu1)
     | (with_reducible refine wpList_store_new rfl 113 (.tmp 9) (.tmp 30) rfl 113 _ rfl (wcI i (zeros 64)) ?h1 ?h2 ?h3 ?h4 ?_)
     | (with_reducible refine wpList_copy_str_new rfl (.tmp 32) (.tmp 33) 122 9 rfl 5 Tryz.underlying122 Tryz.size_u8 1 64 64 rfl s rfl (wcI i (zeros 64)) 113 s.size ?k1 ?k2 (wcI i (pad s.data.toList)) ?k3 ?_))
  case h1 => exact congrArg Value.agg HZ.out
  case h2 => rw [wcI_len _ _ (by simp [zeros])]; exact Tryz.size_write
  case h3 => rw [wcI_len _ _ (by simp [zeros]), zc_write]; rfl
  case h4 => exact wcI_one _ _
  case k1 => exact Nat.min_eq_left hs
  case k2 => rw [wcI_len _ _ (by simp [zeros])]; omega
  case k3 => exact wcI_pad i s hs
  obtain ⟨dn1, h1⟩ := X1.out
  have hlen : (wcI i (pad s.data.toList)).length = 65 := wcI_len _ _ (pad_len hs)
  obtain ⟨cs, hcs⟩ : ∃ cs, cs = wcI i (pad s.data.toList) := ⟨_, rfl⟩
  rw [← hcs] at hlen ⊢
  have hS0 : ∀ (w2 : World), (∀ k o, (w1.alloc (.cells cs.toArray 113)).heap[k]? = some o → some k ≠ pv.ownBlock → w2.heap[k]? = some o) → HeldW b w1.heap.size pv cs w2 := by
    intro w2 hw2
    refine ⟨cellAt (hw2 b _ ((World.heap_alloc_old' w1 _ _ (lt_of_some h1.head)).trans h1.head) h1.bne.1) 1 pv rfl, fun j v hv => ?_⟩
    rw [Nat.zero_add]
    refine cellAt (hw2 w1.heap.size _ (heap_alloc_new w1 _) (fun e => ?_)) j v (by simpa using hv)
    exact Nat.lt_irrefl _ (h1.pend.lt _ e.symm).2
  obtain ⟨w2, hw2⟩ : ∃ w2, w2 = w1.alloc (.cells cs.toArray 113) := ⟨_, rfl⟩
  have hS2 : HeldW b w1.heap.size pv cs w2.drew := hS0 _ (fun k o hk _ => by rw [hw2]; exact hk)
  have hS3 : HeldW b w1.heap.size pv cs (w2.drew.alloc (.cells cs.toArray 113)) := hS0 _ (fun k o hk _ => by rw [World.heap_alloc_old' _ _ _ (by rw [hw2]; exact lt_of_some hk), hw2]; exact hk)
  have hbN : w1.heap.size < w2.heap.size := by rw [hw2]; simp
  rw [← hw2]
  have hagg : aggSize Tryz.prog 113 = some cs.length := by rw [hlen]; exact Tryz.agg_write
  have hpend : (w2.drew.alloc (.cells cs.toArray 113)).ownsRow B tWrite 65 pv D.does.1.pend.length (D.does.1.pend.flatMap wcells) := by
    refine World.ownsRow.alloc ?_ _
    rw [hw2]
    exact (h1.pend.alloc _).drew
  have hpl : D.does.1.pend.length < 4294967296 := by rw [(Disk.does_eq D).2]; exact hp
  have hone := wcI_one i (pad s.data.toList)
  rw [← hcs] at hone
  have hm1 : ∀ (j : Nat) (u : Value), cs[j]? = some u → (w2.drew.alloc (.cells cs.toArray 113)).cell? ((⟨w2.drew.heap.size, 0, none⟩ : Addr).add j) = some u := by
    intro j u hu; rw [Addr.add_here, Nat.zero_add]; exact cellAt (heap_alloc_new w2.drew _) j u (by simpa using hu)
  have hm2 : D.does.1.pend.length + 1 ≤ maxLen := by unfold maxLen; omega
  have hm3 : (D.does.1.pend.length + 1) * 72 ≤ 140737488355328 := by omega
  have hm4 : B ≤ (w2.drew.alloc (.cells cs.toArray 113)).heap.size := by have := h1.hb; have := lt_of_some h1.head; simp; omega
  have hdis : DiskIs B w2.drew b kb pv dn1 D.does.1 := h1.keep (by rw [hw2]; exact Below.sees (((Below.refl _ w1).alloc (Nat.le_refl _) _).drew))
  have hS5 : ∀ (v' : Value) (w' : World), w'.ownsRow B tWrite 65 v' (D.does.1.pend.length + 1) (D.does.1.pend.flatMap wcells ++ cs) → (w2.drew.alloc (.cells cs.toArray 113)).grownBy w' pv.ownBlock → HeldW b w1.heap.size pv cs w' ∧ w'.frozen? ⟨b, 1, none⟩ = false ∧ v'.oneCell' = true := by
    intro v' w' hown' hgrow
    refine ⟨hS0 w' (fun k o hk hne => ?_), ?_, ownsRow_oneCell hown'⟩
    · have hk2 : (w2.drew.alloc (.cells cs.toArray 113)).heap[k]? = some o := by rw [World.heap_alloc_old' _ _ _ (by rw [hw2]; exact lt_of_some hk), hw2]; exact hk
      rw [hgrow.block k (lt_of_some hk2) hne]; exact hk2
    · refine freeAt (cs := diskCells kb D.does.1.kept.length pv D.does.1.down D.does.1.armed D.does.1.left dn1) (t := tDisk) ?_ 1
      rw [hgrow.block b (by have := lt_of_some hdis.head; simp only [World.size_alloc]; omega) h1.bne.1, World.heap_alloc_old' _ _ _ (lt_of_some hdis.head)]
      exact hdis.head
  refine wp_region_T (HeldW b w1.heap.size pv cs) 8 (by kernel_rfl) ?_
  change anyT _ _ _ _ _ 11 _ _ w2.drew
  refine anyT_take 0 35 (by kernel_rfl) (by kernel_rfl) (by decide) rfl rfl (by kernel_rfl) (by kernel_rfl) (fun _ _ _ _ h => h) hS2 (yi_move _ _ rfl rfl rfl) ?_
  simp only [Act.put, act_eval_tmp, act_eval_const, List.setIfInBounds_toArray, List.set_cons_succ, List.set_cons_zero, List.getD_cons_succ, List.getD_cons_zero]
  refine anyT_take 1 36 (by kernel_rfl) (by kernel_rfl) (by decide) rfl rfl (by kernel_rfl) (by kernel_rfl) (fun _ _ _ _ h => h) hS2 (yi_move _ _ rfl rfl rfl) ?_
  simp only [Act.put, act_eval_tmp, act_eval_const, List.setIfInBounds_toArray, List.set_cons_succ, List.set_cons_zero, List.getD_cons_succ, List.getD_cons_zero]
  refine anyT_take 2 37 (by kernel_rfl) (by kernel_rfl) (by decide) rfl rfl (by kernel_rfl) (by kernel_rfl) (fun _ _ _ _ h => h) hS2 (yi_nilCheck _ _ rfl rfl rfl) ?_
  simp only [Act.put, act_eval_tmp, act_eval_const, List.setIfInBounds_toArray, List.set_cons_succ, List.set_cons_zero, List.getD_cons_succ, List.getD_cons_zero]
  refine anyT_take 3 38 (by kernel_rfl) (by kernel_rfl) (by decide) rfl rfl (by kernel_rfl) (by kernel_rfl) (fun _ _ _ _ h => h) hS2 (yi_field 88 1 _ _ _ 1 rfl rfl rfl (by kernel_rfl)) ?_
  simp only [Act.put, act_eval_tmp, act_eval_const, List.setIfInBounds_toArray, List.set_cons_succ, List.set_cons_zero, List.getD_cons_succ, List.getD_cons_zero]
  refine anyT_take 4 39 (by kernel_rfl) (by kernel_rfl) (by decide) rfl rfl (by kernel_rfl) (by kernel_rfl) (fun _ _ _ _ h => h) hS2 (yi_load 86 _ ⟨b, 1, none⟩ pv rfl rfl rfl (by kernel_rfl) (fun w hw => hw.1)) ?_
  simp only [Act.put, act_eval_tmp, act_eval_const, List.setIfInBounds_toArray, List.set_cons_succ, List.set_cons_zero, List.getD_cons_succ, List.getD_cons_zero]
  refine anyT_take 5 40 (by kernel_rfl) (by kernel_rfl) (by decide) rfl rfl (by kernel_rfl) (by kernel_rfl) (fun _ _ _ _ h => h) hS2 (yi_load_mid 113 _ w1.heap.size 0 cs rfl rfl rfl hagg (fun w hw => hw.2)) ?_
  simp only [Act.put, act_eval_tmp, act_eval_const, List.setIfInBounds_toArray, List.set_cons_succ, List.set_cons_zero, List.getD_cons_succ, List.getD_cons_zero]
  refine anyT_one 6 (some 41) _ 86 (by kernel_rfl) rfl rfl rfl rfl rfl ?_
  refine wp_buildSlice_one 86 113 _ rfl cs.toArray rfl _ i0 Tryz.underlying86 HIN.out HZ0.out (by rw [HZ1.out]; simp [hlen]) (by simp [hlen, zc_write, Value.cells]) (by simp [hlen]) (by simp [hlen]) ⟨fun _ => hS3, ?_⟩
  simp only [Act.put, act_eval_tmp, act_eval_const, List.setIfInBounds_toArray, List.set_cons_succ, List.set_cons_zero, List.getD_cons_succ, List.getD_cons_zero]
  refine anyT_one 7 (some 42) _ 86 (by kernel_rfl) rfl rfl rfl rfl rfl ?_
  refine wp_append_own' (.tmp 39) (.tmp 41) 86 rfl B 113 i0 _ 65 72 Tryz.underlying86 HIN.out HZ0.out HZ1.out HZ2.out (by simp [zc_write, Value.cells]) (by decide) pv _ _ rfl hpend ⟨w2.drew.heap.size, 0, none⟩ 1 1 cs rfl (by rw [hlen]) hm1 hone hm2 hm3 hm4 ?_
  intro v' w' hown' hgrow
  obtain ⟨hS4, hfz, hone'⟩ := hS5 v' w' hown' hgrow
  refine ⟨fun _ => hS4, ?_⟩
  simp only [Act.put, act_eval_tmp, act_eval_const, List.setIfInBounds_toArray, List.set_cons_succ, List.set_cons_zero, List.getD_cons_succ, List.getD_cons_zero]
  refine anyT_one 8 (some 43) _ 0 (by kernel_rfl) rfl rfl rfl rfl rfl ?_
  refine wp_nilCheck _ ⟨b, 0, none⟩ rfl rfl ⟨fun h => absurd h (by decide), ?_⟩
  simp only [Act.put, act_eval_tmp, act_eval_const, List.setIfInBounds_toArray, List.set_cons_succ, List.set_cons_zero, List.getD_cons_succ, List.getD_cons_zero]
  refine anyT_one 9 (some 44) _ 0 (by kernel_rfl) rfl rfl rfl rfl rfl ?_
  refine wp_field 88 1 _ b 0 1 rfl rfl (by kernel_rfl) ⟨fun h => absurd h (by decide), ?_⟩
  simp only [Act.put, act_eval_tmp, act_eval_const, List.setIfInBounds_toArray, List.set_cons_succ, List.set_cons_zero, List.getD_cons_succ, List.getD_cons_zero]
  refine anyT_one 10 none _ 0 (by kernel_rfl) rfl rfl rfl rfl rfl ?_
  refine wp_store_cell 86 _ _ rfl ⟨b, 1, none⟩ rfl v' pv rfl hone' (by kernel_rfl) hS4.1 hfz ⟨fun h => absurd h (by decide), ?_⟩
  simp only [Act.put, act_eval_tmp, act_eval_const, List.setIfInBounds_toArray, List.set_cons_succ, List.set_cons_zero, List.getD_cons_succ, List.getD_cons_zero]
  refine anyT_done (by kernel_rfl) ?_
  have hi := HI.out
  simp only [Disk.is, decide_eq_true_eq] at hi
  have hin' : ((i.toNat : Nat) : Int) = i := Int.toNat_of_nonneg hi.1
  have hfin := hdis.appended i.toNat (pad s.data.toList) (by rw [(Disk.does_eq D).1]; omega) (pad_len hs) (w' := w') (v' := v') (by rw [wcells_eq, hin', ← hcs]; exact hown')
    ⟨hgrow.os, hgrow.tape, hgrow.output, Nat.le_trans (by simp) hgrow.size, fun k hk hne => by
      rw [hgrow.block k (by simp only [World.size_alloc]; omega) hne, World.heap_alloc_old' _ _ _ hk]⟩
  rw [(Disk.does_eq D).2] at hfin
  have hall : Upd B diskT w w2.drew := by rw [hw2]; exact (U1.out.alloc _).drew
  have HF := Lib.hid hfin; have HA := Lib.hid hall
  clear hfin hS0 hS2 hS3 hS4 hS5 hgrow hown' hpend hdis hfz hall hin' hi hm1 hm2 hm3 hm4 hone hone'
  go_wp2
  go_ret
  exact ⟨rfl, ⟨_, _, _, HF.out.1⟩, HA.out.trans HF.out.2⟩

set_option maxHeartbeats 1000000 in
theorem write_no {B : Nat} {w : World} {b : Nat} {D : Disk} (h : DiskAt B w b D) (i : Int) (s : ByteArray) (e0 : Int)
    (hc : (D.down = true ∧ e0 = 10) ∨ (D.down = false ∧ D.is i = false ∧ e0 = 2) ∨ (D.down = false ∧ D.is i = true ∧ 64 < s.size ∧ e0 = 3)) :
    Calls Tryz.prog 111 #[.pointer (some ⟨b, 0, none⟩), .int .i64 i, .string s] w (DiskPost B w b (D, e0)) := by
  have hup := disk_up h
  have his := disk_is h i
  have H := Lib.hid h; clear h
  rcases hc with ⟨hd, rfl⟩ | ⟨hd, hi, rfl⟩ | ⟨hd, hi, hs, rfl⟩
  · rw [hd] at hup
    simp only [if_true] at hup
    have HD := Lib.hid hd; clear hd his
    go_enter Tryz.func111, Tryz.ntmps111
    go_wp2_with (first | (go_at_call 40; refine hup.mono ?_; rintro e w' ⟨rfl, rfl⟩))
    go_ret
    exact ⟨rfl, H.out, .refl _ _ _⟩
  · rw [hd] at hup; rw [hi] at his
    simp only [Bool.false_eq_true, if_false] at hup
    have HD := Lib.hid hd; have HI := Lib.hid hi; clear hd hi
    go_enter Tryz.func111, Tryz.ntmps111
    go_wp2_with (first
      | (go_at_call 40; refine hup.mono ?_; rintro e w' ⟨rfl, rfl⟩)
      | (go_at_call 101; refine his.mono ?_; rintro e w' ⟨rfl, rfl⟩))
    go_ret
    exact ⟨rfl, H.out, .refl _ _ _⟩
  · rw [hd] at hup; rw [hi] at his
    simp only [Bool.false_eq_true, if_false] at hup
    have HD := Lib.hid hd; have HI := Lib.hid hi; clear hd hi
    have hs' : 64 < (s.size : Int) := by omega
    go_enter Tryz.func111, Tryz.ntmps111
    go_wp2_with (first
      | (go_at_call 40; refine hup.mono ?_; rintro e w' ⟨rfl, rfl⟩)
      | (go_at_call 101; refine his.mono ?_; rintro e w' ⟨rfl, rfl⟩))
    go_ret
    exact ⟨rfl, H.out, .refl _ _ _⟩

set_option maxHeartbeats 1000000 in
theorem write_fell {B : Nat} {w : World} {b : Nat} {D : Disk} (h : DiskAt B w b D) (i : Int) (s : ByteArray) (hd : D.down = false) (hi : D.is i = true) (hs : s.size ≤ 64) (hdo : D.does.2 = 10) :
    Calls Tryz.prog 111 #[.pointer (some ⟨b, 0, none⟩), .int .i64 i, .string s] w (DiskPost B w b D.does) := by
  have hup := disk_up h
  have his := disk_is h i
  obtain ⟨kb, pv, dn, h⟩ := h
  have hdoes := disk_does h
  rw [hd] at hup; rw [hi] at his; rw [hdo] at hdoes
  simp only [Bool.false_eq_true, if_false] at hup
  have hs' : ¬ (64 < (s.size : Int)) := by omega
  have HD := Lib.hid hd; have HI := Lib.hid hi; have HDO := Lib.hid hdo; have HH := Lib.hid h
  clear hd hi hdo h
  go_enter Tryz.func111, Tryz.ntmps111
  go_wp2_with (first
     | (go_at_call 40; refine hup.mono ?_; rintro e w' ⟨rfl, rfl⟩)
     | (go_at_call 101; refine his.mono ?_; rintro e w' ⟨rfl, rfl⟩)
     | (go_at_call 112; refine hdoes.mono ?_; rintro e w1 ⟨rfl, hx1, hu1⟩; have X1 := Lib.hid hx1; have U1 := Lib.hid hu1; clear hx1 hu1))
  go_ret
  obtain ⟨dn1, h1⟩ := X1.out
  exact ⟨(by rw [HDO.out]; rfl), ⟨_, _, _, h1⟩, U1.out⟩

theorem Disk.does_two (D : Disk) : D.does.2 = 0 ∨ D.does.2 = 10 := by unfold Disk.does; split <;> simp
/-- WRITE: as the model's. -/
theorem disk_Write {B : Nat} {w : World} {b : Nat} {D : Disk} (h : DiskAt B w b D) (i : Int) (s : ByteArray) (hp : D.pend.length < 4294967296) :
    Calls Tryz.prog 111 #[.pointer (some ⟨b, 0, none⟩), .int .i64 i, .string s] w (DiskPost B w b (D.write i s.data.toList)) := by
  have hsz : s.data.toList.length = s.size := rfl
  unfold Disk.write
  rw [hsz]
  cases hd : D.down
  · cases hi : D.is i
    · simpa using write_no h i s 2 (.inr (.inl ⟨hd, hi, rfl⟩))
    · by_cases hs : 64 < s.size
      · simpa [hs] using write_no h i s 3 (.inr (.inr ⟨hd, hi, hs, rfl⟩))
      · rcases Disk.does_two D with h0 | h0
        · obtain ⟨kb, pv, dn, h⟩ := h
          simpa [hs, h0] using write_ok h i s hd hi (by omega) h0 hp
        · simpa [hs, h0] using write_fell h i s hd hi (by omega) h0
  · simpa using write_no h i s 10 (.inl ⟨hd, rfl⟩)
end Go.Proofs.YthbbammibdhohaaGreatDoor

namespace Go.Proofs.YthbbammibdhohaaGreatDoor
open Go.RowKit Aq Go.Rgn

theorem lastAt_snoc (i : Nat) (x : Nat × Bs) : ∀ l : List (Nat × Bs), lastAt i (l ++ [x]) = if x.1 = i then some x.2 else lastAt i l := by
  intro l
  induction l with
  | nil => simp [lastAt]
  | cons y l ih =>
    rw [List.cons_append, lastAt, ih]
    by_cases h : x.1 = i
    · simp [h]
    · simp only [h, if_false]; rfl
theorem lastAt_take (i : Nat) (p : List (Nat × Bs)) (j : Nat) (h : j < p.length) : lastAt i (p.take (j + 1)) = if p[j].1 = i then some p[j].2 else lastAt i (p.take j) := by
  rw [List.take_succ_eq_append_getElem h, lastAt_snoc]
/-- the cells of pending write j -/
theorem wcells_at (p : List (Nat × Bs)) (h : ∀ x ∈ p, x.2.length = 64) (j t : Nat) (hj : j < p.length) (v : Value) (hv : (wcells p[j])[t]? = some v) : (p.flatMap wcells)[j * 65 + t]? = some v := by
  induction p generalizing j with
  | nil => simp at hj
  | cons x p ih =>
    have hx : (wcells x).length = 65 := wcI_len _ _ (h x (by simp))
    rw [List.flatMap_cons]
    cases j with
    | zero =>
      have ht : t < 65 := by have := (List.getElem?_eq_some_iff.1 hv).1; simp only [List.getElem_cons_zero] at this; omega
      rw [Nat.zero_mul, Nat.zero_add, List.getElem?_append_left (by omega)]
      exact hv
    | succ j =>
      rw [List.getElem?_append_right (by omega), hx]
      have := ih (fun y hy => h y (by simp [hy])) j (by simpa using hj) (by simpa using hv)
      rw [← this]; congr 1; omega
theorem byt_flat (k : List Bs) (h : ∀ s ∈ k, s.length = 64) (i t : Nat) (hi : i < k.length) (c : UInt8) (hc : k[i][t]? = some c) : (k.flatten.map byt)[i * 64 + t]? = some (byt c) := by
  induction k generalizing i with
  | nil => simp at hi
  | cons x k ih =>
    have hx : x.length = 64 := h x (by simp)
    rw [List.flatten_cons, List.map_append]
    cases i with
    | zero =>
      have ht : t < 64 := by have := (List.getElem?_eq_some_iff.1 hc).1; simp only [List.getElem_cons_zero] at this; omega
      rw [Nat.zero_mul, Nat.zero_add, List.getElem?_append_left (by simp; omega)]
      simp only [List.getElem_cons_zero] at hc
      simp [hc]
    | succ i =>
      rw [List.getElem?_append_right (by simp; omega)]
      have := ih (fun y hy => h y (by simp [hy])) i (by simpa using hi) (by simpa using hc)
      rw [← this]; congr 1; simp; omega
/-- the slice of the pending writes, where there is one -/
theorem DiskIs.pendRow {B : Nat} {w : World} {b kb : Nat} {pv : Value} {dn : Int} {D : Disk} (h : DiskIs B w b kb pv dn D) (hn : 0 < D.pend.length) :
    ∃ g cap, pv = .slice (some ⟨g, 0, none⟩) D.pend.length cap ∧ D.pend.length ≤ 9223372036854775807 ∧
      ∀ j (hj : j < D.pend.length) t v, (wcells D.pend[j])[t]? = some v → w.cell? ⟨g, j * 65 + t, none⟩ = some v := by
  rcases h.pend.2 with ⟨_, h0⟩ | ⟨g, cap, cur, hv, _, hg, hc, hm, _, ht⟩
  · omega
  · refine ⟨g, cap, hv, by unfold maxLen at hm; omega, fun j hj t v hv' => cellAt hg _ _ ?_⟩
    have h1 := wcells_at D.pend (fun x hx => (h.ok.ats x hx).2) j t hj v hv'
    rw [← ht, List.getElem?_take] at h1
    split at h1
    · simpa using h1
    · cases h1
theorem DiskIs.pendLen {B : Nat} {w : World} {b kb : Nat} {pv : Value} {dn : Int} {D : Disk} (h : DiskIs B w b kb pv dn D) : (∃ a cap, pv = .slice a D.pend.length cap) ∧ D.pend.length ≤ 9223372036854775807 := by
  rcases h.pend.2 with ⟨hv, h0⟩ | ⟨g, cap, cur, hv, _, hg, hc, hm, _, ht⟩
  · exact ⟨⟨none, 0, by rw [h0]; exact hv⟩, by omega⟩
  · exact ⟨⟨_, cap, hv⟩, by unfold maxLen at hm; omega⟩

def ReadPost (w : World) (r : Bs × Int) (e : Ending) (w' : World) : Prop := e = .returned (.tuple #[tx r.1, .int .i64 r.2]) ∧ Below w.heap.size w w'

set_option maxHeartbeats 1000000 in
theorem read_no {B : Nat} {w : World} {b : Nat} {D : Disk} (h : DiskAt B w b D) (i : Int) (e0 : Int) (hc : (D.down = true ∧ e0 = 10) ∨ (D.down = false ∧ D.is i = false ∧ e0 = 2)) :
    Calls Tryz.prog 75 #[.pointer (some ⟨b, 0, none⟩), .int .i64 i] w (ReadPost w ([], e0)) := by
  have hup := disk_up h
  have his := disk_is h i
  clear h
  rcases hc with ⟨hd, rfl⟩ | ⟨hd, hi, rfl⟩
  · rw [hd] at hup
    simp only [if_true] at hup
    have HD := Lib.hid hd; clear hd his
    go_enter Tryz.func75, Tryz.ntmps75
    go_wp2_with (first | (go_at_call 40; refine hup.mono ?_; rintro e w' ⟨rfl, rfl⟩))
    go_ret2
    exact ⟨rfl, Below.refl _ _⟩
  · rw [hd] at hup; rw [hi] at his
    simp only [Bool.false_eq_true, if_false] at hup
    have HD := Lib.hid hd; have HI := Lib.hid hi; clear hd hi
    go_enter Tryz.func75, Tryz.ntmps75
    go_wp2_with (first
      | (go_at_call 40; refine hup.mono ?_; rintro e w' ⟨rfl, rfl⟩)
      | (go_at_call 101; refine his.mono ?_; rintro e w' ⟨rfl, rfl⟩))
    go_ret2
    exact ⟨rfl, Below.refl _ _⟩

theorem wcI_txt (i : Int) (l : Bs) (t : Nat) (c : UInt8) (h : l[t]? = some c) : (wcI i l).toArray[1 + t]? = some (byt c) := by
  simp only [List.getElem?_toArray, wcI, Nat.add_comm 1, List.getElem?_cons_succ, List.getElem?_map, h, Option.map_some]
theorem look_here {D : Disk} {i j : Nat} {x : Nat × Bs} (hla : lastAt i D.pend = lastAt i (D.pend.take j)) (hj0 : 0 < j) (hj : j - 1 < D.pend.length) (hx : x = D.pend[j - 1]) (hi : x.1 = i) : D.look i = x.2 := by
  have e := lastAt_take i D.pend (j - 1) hj
  rw [Nat.sub_add_cancel hj0, ← hla, ← hx, if_pos hi] at e
  simp [Disk.look, e]
theorem look_on {D : Disk} {i j : Nat} {x : Nat × Bs} (hla : lastAt i D.pend = lastAt i (D.pend.take j)) (hj0 : 0 < j) (hj : j - 1 < D.pend.length) (hx : x = D.pend[j - 1]) (hi : x.1 ≠ i) : lastAt i D.pend = lastAt i (D.pend.take (j - 1)) := by
  have e := lastAt_take i D.pend (j - 1) hj
  rw [Nat.sub_add_cancel hj0, ← hla, ← hx, if_neg hi] at e
  exact e
theorem look_kept {D : Disk} {i : Nat} (hla : lastAt i D.pend = lastAt i (D.pend.take 0)) (hi : i < D.kept.length) : D.look i = D.kept[i] := by
  rw [List.take_zero] at hla
  simp [Disk.look, hla, lastAt, List.getElem?_eq_getElem hi]

def ReadInv (w : World) (D : Disk) (i : Nat) (v : Value) (wr : World) : Prop := ∃ j : Nat, j ≤ D.pend.length ∧ v = .int .i64 ((j : Int) - 1) ∧ lastAt i D.pend = lastAt i (D.pend.take j) ∧ Below w.heap.size w wr

set_option maxHeartbeats 1000000 in
set_option maxRecDepth 100000 in
theorem read_ok {B : Nat} {w : World} {b kb : Nat} {pv : Value} {dn : Int} {D : Disk} (h : DiskIs B w b kb pv dn D) (i : Int) (hd : D.down = false) (hi : D.is i = true) :
    Calls Tryz.prog 75 #[.pointer (some ⟨b, 0, none⟩), .int .i64 i] w (ReadPost w (D.look i.toNat, 0)) := by
  have hup := disk_up (B := B) (b := b) ⟨kb, pv, dn, h⟩
  have his := disk_is (B := B) (b := b) ⟨kb, pv, dn, h⟩ i
  rw [hd] at hup; rw [hi] at his
  simp only [Bool.false_eq_true, if_false] at hup
  obtain ⟨⟨pa, pc, hpv⟩, hpl⟩ := h.pendLen
  have HPV := Lib.hid hpv
  have hc1 : w.cell? ⟨b, 1, none⟩ = some (.slice pa D.pend.length pc) := by rw [h.c1, hpv]
  have hc0 := h.c0
  have hI := hi
  simp only [Disk.is, decide_eq_true_eq] at hI
  obtain ⟨I0, I1⟩ := hI
  have hkl : D.kept.length ≤ 65536 := h.ok.most
  have HD := Lib.hid hd; have HI := Lib.hid hi; have HH := Lib.hid h
  clear hd hi h hpv
  go_enter Tryz.func75, Tryz.ntmps75
  go_wp2_with (first
    | (go_at_call 40; refine hup.mono ?_; rintro e w' ⟨rfl, rfl⟩)
    | (go_at_call 101; refine his.mono ?_; rintro e w' ⟨rfl, rfl⟩))
  go_loopw [7] (fun v wr => ReadInv w D i.toNat v wr) (fun v _ => (intOf v + 1).toNat)
  case atStart => exact ⟨D.pend.length, Nat.le_refl _, rfl, by rw [List.take_length], Below.refl _ _⟩
  case round =>
    obtain ⟨j, hj, rfl, hla, hbl⟩ := hrel
    have HLA := Lib.hid hla; have HBL := Lib.hid hbl
    have hc1r : wr.cell? ⟨b, 1, none⟩ = some (.slice pa D.pend.length pc) := (hbl.cell (p := ⟨b, 1, none⟩) (lt_of_some HH.out.head)).trans hc1
    have hc0r : wr.cell? ⟨b, 0, none⟩ = some (.slice (some ⟨kb, 0, none⟩) D.kept.length D.kept.length) := (hbl.cell (p := ⟨b, 0, none⟩) (lt_of_some HH.out.head)).trans hc0
    clear hla hbl
    by_cases hj0 : 0 < j
    · obtain ⟨g, cap, hpv, _, hcells⟩ := HH.out.pendRow (by omega)
      have hpa : pa = some ⟨g, 0, none⟩ := by have := HPV.out.symm.trans hpv; injection this
      subst hpa
      obtain ⟨x, hx⟩ : ∃ x, x = D.pend[j - 1] := ⟨_, rfl⟩
      have hcx : ∀ t v, (wcI (x.1 : Int) x.2)[t]? = some v → wr.cell? ⟨g, (j - 1) * 65 + t, none⟩ = some v := fun t v hv => by
        have h1 := hcells (j - 1) (by omega) t v (by rw [← hx]; exact hv)
        exact (HBL.out.cell (p := ⟨g, (j - 1) * 65 + t, none⟩) (World.block_lt_of_cell? _ _ h1)).trans h1
      have hxl : x.2.length = 64 := by rw [hx]; exact (HH.out.ok.ats _ (List.getElem_mem _)).2
      have hx1 := wcI_len (x.1 : Int) x.2 hxl
      have HX := Lib.hid hx; have HXL := Lib.hid hxl; have HCX := Lib.hid hcx
      clear hx hxl hcells hcx hpv
      have e1 : (((j : Int) - 1)).toNat = j - 1 := by omega
      have g1 : 0 ≤ (j : Int) - 1 := by omega
      have g2 : (j : Int) - 1 < (D.pend.length : Int) := by omega
      have hag : aggSize Tryz.prog 113 = some (wcI (x.1 : Int) x.2).length := by rw [hx1]; exact Tryz.agg_write
      have HAG := Lib.hid hag; have HX1 := Lib.hid hx1; clear hag hx1
      have hw0 : (wcI (x.1 : Int) x.2)[0]? = some (.int .i64 (x.1 : Int)) := rfl
      have hw1 : (wcI (x.1 : Int) x.2).head? = some (.int .i64 (x.1 : Int)) := rfl
      cases hxi : ((x.1 : Int) == i) with
      | true =>
        go_wp2_with (first
          | (with_reducible refine wpList_load_mid rfl 113 (.tmp 33) rfl g ((j - 1) * 65) rfl (wcI (x.1 : Int) x.2) HAG.out HCX.out ?_)
          | (with_reducible refine wpList_store_new rfl 113 (.tmp 8) (.tmp 34) rfl 113 _ rfl (wcI (x.1 : Int) x.2) rfl ?h2 ?h3 ?h4 ?_)
          | (with_reducible refine wpList_bytes_text rfl 122 9 (.tmp 40) rfl 5 Tryz.underlying122 Tryz.underlying5 Tryz.underlying9 wr.heap.size 1 64 64 rfl x.2 HXL.out ?h5 ?_))
        case h2 => rw [HX1.out]; exact Tryz.size_write
        case h3 => rw [HX1.out, zc_write]; rfl
        case h4 => exact wcI_one _ _
        case h5 => intro t c hc; exact cellAt (heap_alloc_new wr _) _ _ (wcI_txt _ _ t c hc)
        go_ret2
        have hlk := look_here HLA.out hj0 (by omega) HX.out (by have := eq_of_beq hxi; omega)
        rw [hlk]
        exact ⟨rfl, HBL.out.alloc HBL.out.size _⟩
      | false =>
        go_wp2_with (first
          | (with_reducible refine wpList_load_mid rfl 113 (.tmp 33) rfl g ((j - 1) * 65) rfl (wcI (x.1 : Int) x.2) HAG.out HCX.out ?_)
          | (with_reducible refine wpList_store_new rfl 113 (.tmp 8) (.tmp 34) rfl 113 _ rfl (wcI (x.1 : Int) x.2) rfl ?i2 ?i3 ?i4 ?_))
        case i2 => rw [HX1.out]; exact Tryz.size_write
        case i3 => rw [HX1.out, zc_write]; rfl
        case i4 => exact wcI_one _ _
        go_roundw
        case rel => exact ⟨j - 1, by omega, congrArg (Value.int .i64) (by omega), look_on HLA.out hj0 (by omega) HX.out (by have := ne_of_beq_false hxi; omega), HBL.out.alloc HBL.out.size _⟩
        case measure => simp [intOf]; omega
    · obtain rfl : j = 0 := by omega
      have hit : i.toNat < D.kept.length := by omega
      obtain ⟨l, hl⟩ : ∃ l, l = D.kept[i.toNat] := ⟨_, rfl⟩
      have hll : l.length = 64 := by rw [hl]; exact HH.out.ok.len _ (List.getElem_mem _)
      have hkc : ∀ t c, l[t]? = some c → wr.cell? ⟨kb, i.toNat * 64 + t, none⟩ = some (byt c) := fun t c hc => by
        have h1 := cellAt HH.out.row (i.toNat * 64 + t) (byt c) (by rw [List.getElem?_toArray]; exact byt_flat D.kept HH.out.ok.len i.toNat t hit c (by rw [← hl]; exact hc))
        exact (HBL.out.cell (p := ⟨kb, i.toNat * 64 + t, none⟩) (lt_of_some HH.out.row)).trans h1
      have HL := Lib.hid hl; have HLL := Lib.hid hll; have HKC := Lib.hid hkc
      clear hl hll hkc
      go_wp2_with (first
        | (with_reducible refine wpList_bytes_text rfl 122 9 (.tmp 48) rfl 5 Tryz.underlying122 Tryz.underlying5 Tryz.underlying9 kb (i.toNat * 64) 64 64 rfl l HLL.out HKC.out ?_))
      go_ret2
      have hlk := look_kept HLA.out hit
      rw [hlk, ← HL.out]
      exact ⟨rfl, HBL.out⟩

/-- READ: as the model's. -/
theorem disk_Read {B : Nat} {w : World} {b : Nat} {D : Disk} (h : DiskAt B w b D) (i : Int) :
    Calls Tryz.prog 75 #[.pointer (some ⟨b, 0, none⟩), .int .i64 i] w (ReadPost w (D.read i)) := by
  unfold Disk.read
  cases hd : D.down
  · cases hi : D.is i
    · simpa using read_no h i 2 (.inr ⟨hd, hi, rfl⟩)
    · obtain ⟨kb, pv, dn, h⟩ := h
      simpa using read_ok h i hd hi
  · simpa using read_no h i 10 (.inl ⟨hd, rfl⟩)
end Go.Proofs.YthbbammibdhohaaGreatDoor

namespace Go.Proofs.YthbbammibdhohaaGreatDoor
open Go.RowKit Aq Go.Rgn

set_option maxHeartbeats 1000000 in
theorem disk_Arm {B : Nat} {w : World} {b : Nat} {D : Disk} (h : DiskAt B w b D) (n : Int) (hn : n < 9223372036854775808) :
    Calls Tryz.prog 32 #[.pointer (some ⟨b, 0, none⟩), .int .i64 n] w (DiskPost B w b (D.arm n)) := by
  have hup := disk_up h
  have h' := Lib.hid h
  obtain ⟨kb, pv, dn, h⟩ := h
  cases hd : D.down with
  | true =>
    rw [hd] at hup
    simp only [if_true] at hup
    have e1 : D.arm n = (D, 10) := by simp [Disk.arm, hd]
    rw [e1]
    clear h e1 hd
    go_enter Tryz.func32, Tryz.ntmps32
    go_wp2_with (first | (go_at_call 40; refine hup.mono ?_; rintro e w' ⟨rfl, rfl⟩))
    go_ret
    exact ⟨rfl, h'.out, .refl _ _ _⟩
  | false =>
    rw [hd] at hup
    simp only [Bool.false_eq_true, if_false] at hup
    have h3 := h.c3; have h4 := h.c4; have f3 := h.fr 3; have f4 := h.fr 4
    have H := Lib.hid h; have HD := Lib.hid hd
    have hok : ({ D with armed := decide (0 ≤ n), left := n.toNat } : Disk).Ok := Disk.ok_of h.ok rfl rfl (by show n.toNat < _; omega)
    have HOK := Lib.hid hok
    clear h hd hok
    by_cases hn0 : 0 ≤ n
    · go_enter Tryz.func32, Tryz.ntmps32
      go_wp2_with (first | (go_at_call 40; refine hup.mono ?_; rintro e w' ⟨rfl, rfl⟩))
      go_ret
      have e1 : D.arm n = ({ D with armed := true, left := n.toNat }, 0) := by simp [Disk.arm, HD.out, hn0]
      have hok : ({ D with armed := true, left := n.toNat } : Disk).Ok := by have := HOK.out; simpa [hn0] using this
      have hnn : ((n.toNat : Nat) : Int) = n := Int.toNat_of_nonneg hn0
      have h1 := H.out.field 3 (.bool true) { D with armed := true } dn rfl rfl rfl (Disk.ok_of H.out.ok rfl rfl H.out.ok.left)
      have h2 := h1.field 4 (.int .i64 n) { D with armed := true, left := n.toNat } dn (by simp [diskCells, hnn]) rfl rfl hok
      rw [e1]
      exact ⟨rfl, ⟨_, _, _, h2⟩, h1.updHead (H.out.updHead (.refl _ _ _) 3 _) 4 _⟩
    · go_enter Tryz.func32, Tryz.ntmps32
      have hdec : decide (0 ≤ n) = false := by simpa using hn0
      go_wp2_with (first | (go_at_call 40; refine hup.mono ?_; rintro e w' ⟨rfl, rfl⟩))
      go_ret
      have e1 : D.arm n = ({ D with armed := false, left := 0 }, 0) := by
        have : n.toNat = 0 := by omega
        simp [Disk.arm, HD.out, hn0, this]
      have h1 := H.out.field 3 (.bool false) { D with armed := false } dn rfl rfl rfl (Disk.ok_of H.out.ok rfl rfl H.out.ok.left)
      have h2 := h1.field 4 (.int .i64 0) { D with armed := false, left := 0 } dn rfl rfl rfl (Disk.ok_of H.out.ok rfl rfl (by show 0 < _; omega))
      rw [e1]
      exact ⟨rfl, ⟨_, _, _, h2⟩, h1.updHead (H.out.updHead (.refl _ _ _) 3 _) 4 _⟩

theorem flat_set (k : List Bs) (h : ∀ s ∈ k, s.length = 64) (l : Bs) : ∀ i, i < k.length → l.length = 64 → splice (k.flatten.map byt) (i * 64) (l.map byt) = (k.set i l).flatten.map byt := by
  induction k with
  | nil => intro i hi; simp at hi
  | cons x k ih =>
    intro i hi hl
    have hx : x.length = 64 := h x (by simp)
    cases i with
    | zero => simp only [splice, List.flatten_cons, List.map_append, Nat.zero_mul, List.take_zero, List.nil_append, Nat.zero_add, List.set_cons_zero, List.length_map, hl]; rw [List.drop_left' (by simp [hx])]
    | succ i =>
      have := ih (fun y hy => h y (by simp [hy])) i (by simpa using hi) hl
      simp only [splice, List.flatten_cons, List.map_append, List.set_cons_succ, List.length_map, hl] at this ⊢
      rw [← this]
      have e1 : (i + 1) * 64 = (x.map byt).length + i * 64 := by simp [hx]; omega
      have e2 : (i + 1) * 64 + 64 = (x.map byt).length + (i * 64 + 64) := by simp [hx]; omega
      rw [e1, Nat.add_assoc, List.take_length_add_append, List.drop_length_add_append, List.append_assoc]
theorem flat_len (k : List Bs) (h : ∀ s ∈ k, s.length = 64) : k.flatten.length = k.length * 64 := by
  induction k with
  | nil => rfl
  | cons x k ih => rw [List.flatten_cons, List.length_append, ih (fun y hy => h y (by simp [hy])), h x (by simp), List.length_cons]; omega
theorem ownsRow_setRow_tag {B : Nat} {w : World} {e size n : Nat} {v : Value} {xs : List Value} (h : w.ownsRow B e size v n xs) {p : Nat} {cs : Array Value} {t : Nat} {fr : Nat × Nat} (hp : w.heap[p]? = some (.cells cs t fr)) (hne : t ≠ e) (u : Array Value) :
    (w.setRow p u).ownsRow B e size v n xs := by
  refine ⟨h.1, ?_⟩
  rcases h.2 with h2 | ⟨g, cap, cur, hv, hB, hg, r⟩
  · exact .inl h2
  · refine .inr ⟨g, cap, cur, hv, hB, ?_, r⟩
    rw [setRow_other w p g u (fun e' => ?_)]; exact hg
    subst e'; rw [hp] at hg; injection hg with hg; injection hg with _ ht _; exact hne ht
theorem DiskIs.stored {B : Nat} {w : World} {b kb : Nat} {pv : Value} {dn : Int} {D : Disk} (h : DiskIs B w b kb pv dn D) (i : Nat) (l : Bs) (hi : i < D.kept.length) (hl : l.length = 64) :
    DiskIs B (w.setRow kb (splice (D.kept.flatten.map byt).toArray.toList (i * 64) (l.map byt)).toArray) b kb pv dn { D with kept := D.kept.set i l } := by
  rw [show (D.kept.flatten.map byt).toArray.toList = D.kept.flatten.map byt from rfl, flat_set _ h.ok.len l i hi hl]
  refine ⟨h.hb, h.hkb, ?_, setRow_heap w kb _ _ _ _ h.row, ownsRow_setRow_tag h.pend h.row (by decide) _, ?_⟩
  · rw [setRow_other w kb b _ (fun e => ?_), h.head, List.length_set]
    subst e; have := h.head; rw [h.row] at this; injection this with this; injection this with _ ht; cases ht
  · refine ⟨by simpa using h.ok.pos, by simpa using h.ok.most, fun s hs => ?_, by simpa using h.ok.ats, h.ok.left⟩
    rcases List.mem_or_eq_of_mem_set hs with hs | rfl
    · exact h.ok.len s hs
    · exact hl
theorem apply_snoc (k : List Bs) (p : List (Nat × Bs)) (x : Nat × Bs) : apply k (p ++ [x]) = (apply k p).set x.1 x.2 := by simp [apply]
theorem apply_len (k : List Bs) (p : List (Nat × Bs)) : (apply k p).length = k.length := by
  unfold apply; induction p generalizing k with
  | nil => rfl
  | cons x p ih => rw [List.foldl_cons, ih, List.length_set]

theorem DiskIs.cleared {B : Nat} {w : World} {b kb : Nat} {pv : Value} {dn : Int} {D : Disk} (h : DiskIs B w b kb pv dn D) :
    DiskIs B (w.setCell ⟨b, 1, none⟩ (.slice none 0 0)) b kb (.slice none 0 0) dn { D with pend := [] } := by
  refine ⟨h.hb, h.hkb, ?_, ?_, World.ownsRow_nil _ _ _ _, ⟨h.ok.pos, h.ok.most, h.ok.len, (fun x hx => by cases hx), h.ok.left⟩⟩
  · rw [heap_setCell_same w b 1 _ _ _ h.head]; rfl
  · exact heap_setCell_tag (p := ⟨b, 1, none⟩) h.head _ h.row (by decide)
/-- the statement 'kept[w.at] = w.b' leans on these -/
def HeldF (b kb n N : Nat) (cs : List Value) (w : World) : Prop := w.cell? ⟨b, 0, none⟩ = some (.slice (some ⟨kb, 0, none⟩) n n) ∧ ∀ j v, cs[j]? = some v → w.cell? ⟨N, 0 + j, none⟩ = some v
def FlushInv (B : Nat) (w : World) (b kb : Nat) (pv : Value) (dn : Int) (D : Disk) (v : Value) (wr : World) : Prop :=
  ∃ j : Nat, j ≤ D.pend.length ∧ v = .int .i64 (j : Int) ∧ DiskIs B wr b kb pv dn { D with kept := apply D.kept (D.pend.take j) } ∧ Upd B diskT w wr

set_option maxHeartbeats 1000000 in
set_option maxRecDepth 100000 in
theorem flush_ok {B : Nat} {w : World} {b : Nat} {D : Disk} (h : DiskAt B w b D) (hd : D.down = false) (hdo : D.does.2 = 0) :
    Calls Tryz.prog 83 #[.pointer (some ⟨b, 0, none⟩)] w (DiskPost B w b ({ D.does.1 with kept := apply D.kept D.pend, pend := [] }, 0)) := by
  have hup := disk_up h
  rw [hd] at hup
  simp only [Bool.false_eq_true, if_false] at hup
  obtain ⟨kb, pv, dn, h⟩ := h
  have hdoes := disk_does h
  rw [hdo] at hdoes
  obtain ⟨hk, hp⟩ := Disk.does_eq D
  rw [← hk, ← hp]
  generalize D.does.1 = D1 at *
  clear h hd hdo hk hp
  go_enter Tryz.func83, Tryz.ntmps83
  go_wp2_with (first
    | (go_at_call 40; refine hup.mono ?_; rintro e w' ⟨rfl, rfl⟩)
    | (go_at_call 112; refine hdoes.mono ?_; rintro e w1 ⟨rfl, ⟨dn1, hx1⟩, hu1⟩; obtain ⟨⟨pa, pc, hpv⟩, hpl⟩ := hx1.pendLen; have hc1 : w1.cell? ⟨b, 1, none⟩ = some (.slice pa D1.pend.length pc) := (by rw [hx1.c1, hpv]); have HPV := Lib.hid hpv; have X1 := Lib.hid hx1; have U1 := Lib.hid hu1; clear hx1 hu1 hpv))
  go_loopw [22] (fun v wr => FlushInv B w1 b kb pv dn1 D1 v wr) (fun v _ => D1.pend.length - (intOf v).toNat)
  case atStart => exact ⟨0, Nat.zero_le _, rfl, by simpa [apply] using X1.out, .refl _ _ _⟩
  case round =>
    obtain ⟨j, hj, rfl, hdi, hup1⟩ := hrel
    have hc1r : wr.cell? ⟨b, 1, none⟩ = some (.slice pa D1.pend.length pc) := by rw [hdi.c1, HPV.out]
    have hf1r := hdi.fr 1
    have HDI := Lib.hid hdi; have HUP := Lib.hid hup1
    clear hup1
    by_cases hjl : j < D1.pend.length
    · obtain ⟨g, cap, hpv, _, hcells⟩ := hdi.pendRow (by exact Nat.lt_of_le_of_lt (Nat.zero_le _) hjl)
      have hpa : pa = some ⟨g, 0, none⟩ := by have := HPV.out.symm.trans hpv; injection this
      subst hpa
      obtain ⟨x, hx⟩ : ∃ x, x = D1.pend[j] := ⟨_, rfl⟩
      have hcx : ∀ t v, (wcI (x.1 : Int) x.2)[t]? = some v → wr.cell? ⟨g, j * 65 + t, none⟩ = some v := fun t v hv => hcells j hjl t v (by show (wcells D1.pend[j])[t]? = some v; rw [← hx]; exact hv)
      have hxo := X1.out.ok.ats x (by rw [hx]; exact List.getElem_mem _)
      have hx1 := wcI_len (x.1 : Int) x.2 hxo.2
      have hag : aggSize Tryz.prog 113 = some (wcI (x.1 : Int) x.2).length := by rw [hx1]; exact Tryz.agg_write
      have HSZ : Hid ((Tryz.prog.info? 113).map (·.size) = some (wcI (x.1 : Int) x.2).length) := by rw [hx1]; exact Tryz.size_write
      have HZL : Hid ((wcI (x.1 : Int) x.2).length = Tryz.zeroCells113.size) := by rw [hx1, zc_write]; rfl
      have HX := Lib.hid hx; have HXO := Lib.hid hxo; have HCX := Lib.hid hcx; have HAG := Lib.hid hag; have HX1 := Lib.hid hx1
      clear hx hxo hcells hcx hpv hag hx1 hdi
      have g2 : (j : Int) < (D1.pend.length : Int) := by omega
      go_wp2_with (first
        | (with_reducible refine wpList_load_mid rfl 113 (.tmp 24) rfl g (j * 65) rfl (wcI (x.1 : Int) x.2) HAG.out HCX.out ?_)
        | (with_reducible refine wpList_store_new rfl 113 (.tmp 6) (.tmp 25) rfl 113 _ rfl (wcI (x.1 : Int) x.2) rfl HSZ.out HZL.out (wcI_one _ _) ?_))
      obtain ⟨w2, hw2⟩ : ∃ w2, w2 = wr.alloc (.cells (wcI (x.1 : Int) x.2).toArray 113) := ⟨_, rfl⟩
      rw [← hw2]
      have hd2 : DiskIs B w2.drew b kb pv dn1 { D1 with kept := apply D1.kept (D1.pend.take j) } := HDI.out.keep (by rw [hw2]; exact Below.sees (((Below.refl _ wr).alloc (Nat.le_refl _) _).drew))
      have hN : w2.drew.heap[wr.heap.size]? = some (.cells (wcI (x.1 : Int) x.2).toArray 113 (0, 0)) := by rw [hw2]; exact heap_alloc_new wr _
      have hS2 : HeldF b kb D1.kept.length wr.heap.size (wcI (x.1 : Int) x.2) w2.drew := ⟨by rw [hd2.c0]; simp [apply_len], fun t v hv => by rw [Nat.zero_add]; exact cellAt hN t v (by simpa using hv)⟩
      have hst := hd2.stored x.1 x.2 (by show x.1 < (apply _ _).length; rw [apply_len]; exact HXO.out.1) HXO.out.2
      have hgo := Upd.setRow (T := diskT) (HUP.out.trans (Upd.of_below (w' := w2.drew) (by rw [hw2]; exact ((Below.refl _ wr).alloc (Nat.le_refl _) _).drew))) (splice ((apply D1.kept (D1.pend.take j)).flatten.map byt).toArray.toList (x.1 * 64) (x.2.map byt)).toArray hd2.row hd2.hkb rfl
      have hS3 : HeldF b kb D1.kept.length wr.heap.size (wcI (x.1 : Int) x.2) (w2.drew.setRow kb (splice ((apply D1.kept (D1.pend.take j)).flatten.map byt).toArray.toList (x.1 * 64) (x.2.map byt)).toArray) := by
        refine ⟨by rw [hst.c0]; simp [apply_len], fun t v hv => ?_⟩
        rw [Nat.zero_add]
        refine cellAt (t := 113) (fr := (0, 0)) (cs := (wcI (x.1 : Int) x.2).toArray) ?_ t v (by simpa using hv)
        rw [setRow_other _ _ _ _ (fun e => ?_)]; exact hN
        have h1 := hd2.row; rw [← e, hN] at h1; injection h1 with h1; injection h1 with _ ht; cases ht
      have hagb : aggSize Tryz.prog 111 = some (x.2.map byt).length := by rw [List.length_map, HXO.out.2]; exact Tryz.agg_block
      have hfit : x.1 * 64 + (x.2.map byt).length ≤ ((apply D1.kept (D1.pend.take j)).flatten.map byt).toArray.size := by
        have := flat_len _ hd2.ok.len
        have h3 := HXO.out.1
        have h4 := apply_len D1.kept (D1.pend.take j)
        simp only [List.size_toArray, List.length_map, this, HXO.out.2, h4]; omega
      obtain ⟨w3, hw3⟩ : ∃ w3, w3 = w2.drew.setRow kb (splice ((apply D1.kept (D1.pend.take j)).flatten.map byt).toArray.toList (x.1 * 64) (x.2.map byt)).toArray := ⟨_, rfl⟩
      rw [← hw3] at hS3 hgo
      have hst3 : DiskIs B w3 b kb pv dn1 { D1 with kept := (apply D1.kept (D1.pend.take j)).set x.1 x.2 } := by rw [hw3]; exact hst
      have HFI : FlushInv B w1 b kb pv dn1 D1 (.int .i64 ((j : Int) + 1)) w3 := by
        refine ⟨j + 1, by omega, congrArg (Value.int .i64) (by omega), ?_, hgo⟩
        rw [List.take_succ_eq_append_getElem hjl, apply_snoc, ← HX.out]
        exact hst3
      refine wp_region_T (HeldF b kb D1.kept.length wr.heap.size (wcI (x.1 : Int) x.2)) 10 (by kernel_rfl) ?_
      change anyT _ _ _ _ _ 10 _ _ w2.drew
      refine anyT_take 0 26 (by kernel_rfl) (by kernel_rfl) (by decide) rfl rfl (by kernel_rfl) (by kernel_rfl) (fun _ _ _ _ h => h) hS2 (yi_move _ _ rfl rfl rfl) ?_
      simp only [Act.put, act_eval_tmp, act_eval_const, List.setIfInBounds_toArray, List.set_cons_succ, List.set_cons_zero, List.getD_cons_succ, List.getD_cons_zero]
      refine anyT_take 1 27 (by kernel_rfl) (by kernel_rfl) (by decide) rfl rfl (by kernel_rfl) (by kernel_rfl) (fun _ _ _ _ h => h) hS2 (yi_nilCheck _ _ rfl rfl rfl) ?_
      simp only [Act.put, act_eval_tmp, act_eval_const, List.setIfInBounds_toArray, List.set_cons_succ, List.set_cons_zero, List.getD_cons_succ, List.getD_cons_zero]
      refine anyT_take 2 28 (by kernel_rfl) (by kernel_rfl) (by decide) rfl rfl (by kernel_rfl) (by kernel_rfl) (fun _ _ _ _ h => h) hS2 (yi_field 88 0 _ _ _ 0 rfl rfl rfl (by kernel_rfl)) ?_
      simp only [Act.put, act_eval_tmp, act_eval_const, List.setIfInBounds_toArray, List.set_cons_succ, List.set_cons_zero, List.getD_cons_succ, List.getD_cons_zero]
      refine anyT_take 3 29 (by kernel_rfl) (by kernel_rfl) (by decide) rfl rfl (by kernel_rfl) (by kernel_rfl) (fun _ _ _ _ h => h) hS2 (yi_load 85 _ ⟨b, 0, none⟩ (.slice (some ⟨kb, 0, none⟩) D1.kept.length D1.kept.length) rfl rfl rfl (by kernel_rfl) (fun w hw => hw.1)) ?_
      simp only [Act.put, act_eval_tmp, act_eval_const, List.setIfInBounds_toArray, List.set_cons_succ, List.set_cons_zero, List.getD_cons_succ, List.getD_cons_zero]
      refine anyT_take 4 30 (by kernel_rfl) (by kernel_rfl) (by decide) rfl rfl (by kernel_rfl) (by kernel_rfl) (fun _ _ _ _ h => h) hS2 (yi_field 113 0 _ _ _ 0 rfl rfl rfl (by kernel_rfl)) ?_
      simp only [Act.put, act_eval_tmp, act_eval_const, List.setIfInBounds_toArray, List.set_cons_succ, List.set_cons_zero, List.getD_cons_succ, List.getD_cons_zero]
      refine anyT_take 5 31 (by kernel_rfl) (by kernel_rfl) (by decide) rfl rfl (by kernel_rfl) (by kernel_rfl) (fun _ _ _ _ h => h) hS2 (yi_load 3 _ ⟨wr.heap.size, 0, none⟩ (.int .i64 (x.1 : Int)) rfl rfl rfl (by kernel_rfl) (fun w hw => hw.2 0 _ rfl)) ?_
      simp only [Act.put, act_eval_tmp, act_eval_const, List.setIfInBounds_toArray, List.set_cons_succ, List.set_cons_zero, List.getD_cons_succ, List.getD_cons_zero]
      refine anyT_take 6 32 (by kernel_rfl) (by kernel_rfl) (by decide) rfl rfl (by kernel_rfl) (by kernel_rfl) (fun _ _ _ _ h => h) hS2 (yi_field 113 1 _ _ _ 1 rfl rfl rfl (by kernel_rfl)) ?_
      simp only [Act.put, act_eval_tmp, act_eval_const, List.setIfInBounds_toArray, List.set_cons_succ, List.set_cons_zero, List.getD_cons_succ, List.getD_cons_zero]
      refine anyT_take 7 33 (by kernel_rfl) (by kernel_rfl) (by decide) rfl rfl (by kernel_rfl) (by kernel_rfl) (fun _ _ _ _ h => h) hS2 (yi_load_mid 111 _ wr.heap.size 1 (x.2.map byt) rfl rfl rfl hagb (fun w hw t v hv => by rw [Nat.add_comm, ← Nat.zero_add (t + 1)]; exact hw.2 (t + 1) v (by simpa [wcI] using hv))) ?_
      simp only [Act.put, act_eval_tmp, act_eval_const, List.setIfInBounds_toArray, List.set_cons_succ, List.set_cons_zero, List.getD_cons_succ, List.getD_cons_zero]
      refine anyT_take 8 34 (by kernel_rfl) (by kernel_rfl) (by decide) rfl rfl (by kernel_rfl) (by kernel_rfl) (fun _ _ _ _ h => h) hS2 (yi_index 85 111 64 _ _ kb 0 D1.kept.length D1.kept.length .i64 (x.1 : Int) rfl rfl rfl rfl Tryz.underlying85 (by kernel_rfl) (by omega) (by have := HXO.out.1; omega)) ?_
      simp only [Act.put, act_eval_tmp, act_eval_const, List.setIfInBounds_toArray, List.set_cons_succ, List.set_cons_zero, List.getD_cons_succ, List.getD_cons_zero]
      refine anyT_one 9 none _ 0 (by kernel_rfl) rfl rfl rfl rfl rfl ?_
      refine wp_store_mid 111 _ _ rfl kb (x.1 * 64) (by simp [act_eval_tmp]) (x.2.map byt) rfl 111 _ (by rw [List.length_map, HXO.out.2]; kernel_rfl) hd2.row hfit (by intro v hv; simp only [List.mem_map] at hv; obtain ⟨c, _, rfl⟩ := hv; rfl) ?_
      rw [← hw3]
      refine ⟨fun _ => hS3, ?_⟩
      simp only [Act.put, act_eval_tmp, act_eval_const, List.setIfInBounds_toArray, List.set_cons_succ, List.set_cons_zero, List.getD_cons_succ, List.getD_cons_zero]
      refine anyT_done (by kernel_rfl) ?_
      clear hgo hst hst3 hS3 hS2 hd2 hN hagb hfit hw2 hw3
      go_wp2
      go_roundw
      case rel => exact HFI
      case measure => simp [intOf]; omega
    · obtain rfl : j = D1.pend.length := by omega
      rw [List.take_length] at hdi HDI
      clear hdi
      go_wp2
      go_ret
      exact ⟨rfl, ⟨_, _, _, HDI.out.cleared⟩, U1.out.trans (HDI.out.updHead HUP.out 1 _)⟩

set_option maxHeartbeats 1000000 in
theorem flush_no {B : Nat} {w : World} {b : Nat} {D : Disk} (h : DiskAt B w b D) (hc : D.down = true ∨ (D.down = false ∧ D.does.2 = 10)) :
    Calls Tryz.prog 83 #[.pointer (some ⟨b, 0, none⟩)] w (DiskPost B w b D.flush) := by
  have hup := disk_up h
  have H := Lib.hid h
  rcases hc with hd | ⟨hd, hdo⟩
  · have e1 : D.flush = (D, 10) := by simp [Disk.flush, hd]
    rw [hd] at hup
    simp only [if_true] at hup
    rw [e1]; clear e1 hd h
    go_enter Tryz.func83, Tryz.ntmps83
    go_wp2_with (first | (go_at_call 40; refine hup.mono ?_; rintro e w' ⟨rfl, rfl⟩))
    go_ret
    exact ⟨rfl, H.out, .refl _ _ _⟩
  · have e1 : D.flush = (D.does.1, 10) := by
      unfold Disk.flush; rw [hd]; simp only [Bool.false_eq_true, if_false, hdo]; rw [if_neg (by decide), ← hdo]
    obtain ⟨kb, pv, dn, h⟩ := h
    have hdoes := disk_does h
    rw [hd] at hup; rw [hdo] at hdoes
    simp only [Bool.false_eq_true, if_false] at hup
    rw [e1]; clear e1 hd hdo h
    go_enter Tryz.func83, Tryz.ntmps83
    go_wp2_with (first
      | (go_at_call 40; refine hup.mono ?_; rintro e w' ⟨rfl, rfl⟩)
      | (go_at_call 112; refine hdoes.mono ?_; rintro e w1 ⟨rfl, hx1, hu1⟩; have X1 := Lib.hid hx1; have U1 := Lib.hid hu1; clear hx1 hu1))
    go_ret
    obtain ⟨dn1, h1⟩ := X1.out
    exact ⟨rfl, ⟨_, _, _, h1⟩, U1.out⟩
/-- FLUSH: as the model's. -/
theorem disk_Flush {B : Nat} {w : World} {b : Nat} {D : Disk} (h : DiskAt B w b D) :
    Calls Tryz.prog 83 #[.pointer (some ⟨b, 0, none⟩)] w (DiskPost B w b D.flush) := by
  cases hd : D.down
  · rcases Disk.does_two D with h0 | h0
    · have e : D.flush = ({ D.does.1 with kept := apply D.kept D.pend, pend := [] }, 0) := by simp [Disk.flush, hd, h0]
      rw [e]
      exact flush_ok h hd h0
    · exact flush_no h (.inr ⟨hd, h0⟩)
  · exact flush_no h (.inl hd)
end Go.Proofs.YthbbammibdhohaaGreatDoor
