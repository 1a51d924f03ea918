/- A tree gone through: each, Size, Groups, Sets. -/
import Derived.Test.YtckoebfmoggeoaaDoorCd
import Derived.Test.YtckoebfmoggeoaaDoorBj
namespace Go.Proofs.YtckoebfmoggeoaaDoor
set_option maxRecDepth 100000
open Go.RowKit
mutual
/-- All nodes, the first one first. -/
def preT : Tree → List Tree
  | .mk k s lo hi z kids f t => .mk k s lo hi z kids f t :: preL kids
def preL : List Tree → List Tree
  | [] => []
  | n :: l => preT n ++ preL l
end
theorem preL_snoc (l : List Tree) (n : Tree) : preL (l ++ [n]) = preL l ++ preT n := by
  induction l with
  | nil => simp [preL]
  | cons m l ih => simp only [List.cons_append, preL, ih, List.append_assoc]
theorem preL_take {l : List Tree} {i : Nat} (h : i < l.length) : preL (l.take (i + 1)) = preL (l.take i) ++ preT l[i] := by rw [List.take_succ_eq_append_getElem h, preL_snoc]
mutual
theorem pre_size : ∀ t : Tree, (preT t).length = sizeT t
  | .mk _ _ _ _ _ kids _ _ => by
    have := pre_sizeL kids
    simp only [preT, sizeT, List.length_cons]
    omega
theorem pre_sizeL : ∀ l : List Tree, (preL l).length = sizeL l
  | [] => by simp [preL, sizeL]
  | n :: l => by
    have := pre_size n
    have := pre_sizeL l
    simp only [preL, sizeL, List.length_append]
    omega
end
/-- How many of a kind. -/
def kindsN (k : Int) (l : List Tree) : Nat := (l.filter fun n => n.kind == k).length
theorem kindsN_append (k : Int) (a b : List Tree) : kindsN k (a ++ b) = kindsN k a + kindsN k b := by simp [kindsN]
mutual
theorem pre_count (k : Int) : ∀ t : Tree, kindsN k (preT t) = countT k t
  | .mk kind s lo hi z kids f t => by
    have := pre_countL k kids
    simp only [preT, countT]
    rw [show (Tree.mk kind s lo hi z kids f t :: preL kids) = [Tree.mk kind s lo hi z kids f t] ++ preL kids from rfl, kindsN_append, this]
    congr 1
    unfold kindsN
    by_cases h : kind = k
    · rw [if_pos h, List.filter_cons_of_pos (by simp [Tree.kind, h])]; rfl
    · rw [if_neg h, List.filter_cons_of_neg (by simp [Tree.kind, h])]; rfl
theorem pre_countL (k : Int) : ∀ l : List Tree, kindsN k (preL l) = countL k l
  | [] => by simp [preL, countL, kindsN]
  | n :: l => by
    have := pre_count k n
    have := pre_countL k l
    simp only [preL, countL]
    rw [kindsN_append]
    omega
end
/-- The sets of some nodes. -/
def setsN (l : List Tree) : List (Nat → Bool) := l.flatMap fun n => if n.kind = 1 then [n.set] else []
theorem setsN_append (a b : List Tree) : setsN (a ++ b) = setsN a ++ setsN b := by simp [setsN]
mutual
theorem pre_sets : ∀ t : Tree, setsN (preT t) = setsT t
  | .mk kind s lo hi z kids f t => by
    have := pre_setsL kids
    simp only [preT, setsT]
    rw [show (Tree.mk kind s lo hi z kids f t :: preL kids) = [Tree.mk kind s lo hi z kids f t] ++ preL kids from rfl, setsN_append, this]
    congr 1
    by_cases h : kind = 1 <;> simp [setsN, Tree.kind, Tree.set, h]
theorem pre_setsL : ∀ l : List Tree, setsN (preL l) = setsL l
  | [] => by simp [preL, setsL, setsN]
  | n :: l => by
    have := pre_sets n
    have := pre_setsL l
    simp only [preL, setsL]
    rw [setsN_append, this, pre_sets n]
end
/-- A call without a result: what it leaves. -/
def Leaves (w0 : World) (cb : Nat) (P : List Tree → World → Prop) (l : List Tree) (v : Ending) (w : World) : Prop := (∃ u, v = .returned u) ∧ w0.grownBy w (some cb) ∧ P l w
set_option maxHeartbeats 4000000 in
theorem each1_at {w0 : World} {cb : Nat} {S : Nat → Prop} {P : List Tree → World → Prop} (hS : ∀ k, S k → k ≠ cb)
    (hdo : ∀ (l : List Tree) (n : Tree) (b : Nat) (w' : World), w0.grownBy w' (some cb) → P l w' → TreeAt w' S n b → l.length ≤ 1000000 → Calls Tryd.prog 33 #[ptrV b, ptrV cb] w' (Leaves w0 cb P (l ++ [n])))
    {n : Tree} {b : Nat} (h : TreeAt w0 S n b) : ∀ (l : List Tree) (w' : World), w0.grownBy w' (some cb) → P l w' → l.length + sizeT n ≤ 1000000 →
    Calls Tryd.prog 31 #[ptrV b, .func (.func 33) #[] #[ptrV cb]] w' (Leaves w0 cb P (l ++ preT n)) := by
  have htree := h
  induction h with
  | @mk k set lo hi lazy kids f t b ga c A bs hSb hb hl hm hA hc hk ih =>
    intro l w' hg hP hz
    simp only [sizeT] at hz
    have HT := Lib.hid htree
    have HZ := Lib.hid (show preT (.mk k set lo hi lazy kids f t) = .mk k set lo hi lazy kids f t :: preL kids by simp only [preT])
    have HI := Lib.hid ih
    have HK := Lib.hid hk
    have HC := Lib.hid hc
    have HA := Lib.hid hA
    have HB := Lib.hid hb
    have hSbn := hS b hSb
    have HDO := Lib.hid (hdo l _ b w' hg hP (htree.only hg hS) (by omega))
    have HD := Lib.hid hdo
    have HS := Lib.hid hS
    clear htree ih hk hc hA hb hdo hg hP hS
    rename World => w'
    go_enter Tryd.func31, Tryd.ntmps31
    go_wp2_with fail
    refine HDO.out.mono ?_
    rintro v w1 ⟨⟨u, rfl⟩, hg1, hP1⟩
    have hblk1 : Blk w1 b 44 (nodeL k set lo hi lazy (.slice A kids.length c) f t) := (hg1.block b HB.out.lt (fun e => hSbn (by injection e))).trans HB.out
    have c8 : w1.cell? ⟨b, 8, none⟩ = some (.slice A kids.length c) := hblk1.cell 8
    have HG1 := Lib.hid hg1
    have HP1 := Lib.hid hP1
    clear hg1 hP1 hblk1
    go_wp2_with fail
    go_loopw [16] (fun iv wr => ∃ i : Nat, i ≤ kids.length ∧ iv = .int .i64 ((i : Nat) : Int) ∧ Hid (w0.grownBy wr (some cb)) ∧ Hid (P (l ++ [.mk k set lo hi lazy kids f t] ++ preL (kids.take i)) wr)) (fun iv _ => kids.length - (intOf iv).toNat)
    case atStart => exact ⟨0, Nat.zero_le _, rfl, HG1, Lib.hid (by simpa [preL] using HP1.out)⟩
    case round =>
      clear c8
      obtain ⟨i, hik, rfl, HG, HP⟩ := hrel
      by_cases hlt : i < kids.length
      · have hne : kids ≠ [] := by intro e; rw [e] at hlt; exact absurd hlt (Nat.not_lt_zero _)
        have hib : i < bs.length := by omega
        have hki := List.getElem?_eq_getElem hlt
        have hbi := List.getElem?_eq_getElem hib
        obtain ⟨rfl, hSg⟩ := HA.out hne
        have hcell := HC.out i _ hbi
        have hcw : wr.cell? ⟨ga, i, none⟩ = some (ptrV bs[i]) := (World.cell?_of_block (HG.out.block ga (cell_lt0 hcell) (fun e => HS.out ga hSg (by injection e)))).trans hcell
        have hsm := sizeL_mem (List.getElem_mem hlt)
        have hle := sizeL_le (l := kids) i
        have hlen : (l ++ [Tree.mk k set lo hi lazy kids f t] ++ preL (kids.take i)).length + sizeT kids[i] ≤ 1000000 := by
          rw [List.length_append, List.length_append, List.length_singleton, pre_sizeL]
          have := sizeL_take hlt
          have := sizeL_le (l := kids) (i + 1)
          omega
        have HCALL := Lib.hid (HI.out i _ _ hki hbi (HK.out i _ _ hki hbi) _ wr HG.out HP.out hlen)
        have HN := Lib.hid (preL_take hlt)
        generalize bs[i] = kb at *
        generalize kids[i] = kn at *
        clear hki hbi hcell hSg hlen
        go_wp2_with fail
        refine HCALL.out.mono ?_
        rintro v w2 ⟨⟨u2, rfl⟩, hg2, hP2⟩
        have HG2 := Lib.hid hg2
        have HP2 := Lib.hid hP2
        clear hg2 hP2 hcw
        go_wp2_with fail
        go_roundw
        case rel => exact ⟨i + 1, by omega, by go_num, HG2, Lib.hid (by rw [HN.out, ← List.append_assoc]; exact HP2.out)⟩
        case measure => simp [intOf]; omega
      · obtain rfl : i = kids.length := by omega
        have HTL := Lib.hid (List.take_length (l := kids))
        go_wp2
        go_returns
        refine ⟨⟨_, rfl⟩, HG.out, ?_⟩
        have := HP.out
        rw [HTL.out] at this
        rw [HZ.out]
        simpa using this
set_option maxHeartbeats 4000000 in
theorem each2_at {w0 : World} {cb : Nat} {S : Nat → Prop} {P : List Tree → World → Prop} (hS : ∀ k, S k → k ≠ cb)
    (hdo : ∀ (l : List Tree) (n : Tree) (b : Nat) (w' : World), w0.grownBy w' (some cb) → P l w' → TreeAt w' S n b → l.length ≤ 1000000 → Calls Tryd.prog 34 #[ptrV b, ptrV cb] w' (Leaves w0 cb P (l ++ [n])))
    {n : Tree} {b : Nat} (h : TreeAt w0 S n b) : ∀ (l : List Tree) (w' : World), w0.grownBy w' (some cb) → P l w' → l.length + sizeT n ≤ 1000000 →
    Calls Tryd.prog 31 #[ptrV b, .func (.func 34) #[] #[ptrV cb]] w' (Leaves w0 cb P (l ++ preT n)) := by
  have htree := h
  induction h with
  | @mk k set lo hi lazy kids f t b ga c A bs hSb hb hl hm hA hc hk ih =>
    intro l w' hg hP hz
    simp only [sizeT] at hz
    have HT := Lib.hid htree
    have HZ := Lib.hid (show preT (.mk k set lo hi lazy kids f t) = .mk k set lo hi lazy kids f t :: preL kids by simp only [preT])
    have HI := Lib.hid ih
    have HK := Lib.hid hk
    have HC := Lib.hid hc
    have HA := Lib.hid hA
    have HB := Lib.hid hb
    have hSbn := hS b hSb
    have HDO := Lib.hid (hdo l _ b w' hg hP (htree.only hg hS) (by omega))
    have HD := Lib.hid hdo
    have HS := Lib.hid hS
    clear htree ih hk hc hA hb hdo hg hP hS
    rename World => w'
    go_enter Tryd.func31, Tryd.ntmps31
    go_wp2_with fail
    refine HDO.out.mono ?_
    rintro v w1 ⟨⟨u, rfl⟩, hg1, hP1⟩
    have hblk1 : Blk w1 b 44 (nodeL k set lo hi lazy (.slice A kids.length c) f t) := (hg1.block b HB.out.lt (fun e => hSbn (by injection e))).trans HB.out
    have c8 : w1.cell? ⟨b, 8, none⟩ = some (.slice A kids.length c) := hblk1.cell 8
    have HG1 := Lib.hid hg1
    have HP1 := Lib.hid hP1
    clear hg1 hP1 hblk1
    go_wp2_with fail
    go_loopw [16] (fun iv wr => ∃ i : Nat, i ≤ kids.length ∧ iv = .int .i64 ((i : Nat) : Int) ∧ Hid (w0.grownBy wr (some cb)) ∧ Hid (P (l ++ [.mk k set lo hi lazy kids f t] ++ preL (kids.take i)) wr)) (fun iv _ => kids.length - (intOf iv).toNat)
    case atStart => exact ⟨0, Nat.zero_le _, rfl, HG1, Lib.hid (by simpa [preL] using HP1.out)⟩
    case round =>
      clear c8
      obtain ⟨i, hik, rfl, HG, HP⟩ := hrel
      by_cases hlt : i < kids.length
      · have hne : kids ≠ [] := by intro e; rw [e] at hlt; exact absurd hlt (Nat.not_lt_zero _)
        have hib : i < bs.length := by omega
        have hki := List.getElem?_eq_getElem hlt
        have hbi := List.getElem?_eq_getElem hib
        obtain ⟨rfl, hSg⟩ := HA.out hne
        have hcell := HC.out i _ hbi
        have hcw : wr.cell? ⟨ga, i, none⟩ = some (ptrV bs[i]) := (World.cell?_of_block (HG.out.block ga (cell_lt0 hcell) (fun e => HS.out ga hSg (by injection e)))).trans hcell
        have hsm := sizeL_mem (List.getElem_mem hlt)
        have hle := sizeL_le (l := kids) i
        have hlen : (l ++ [Tree.mk k set lo hi lazy kids f t] ++ preL (kids.take i)).length + sizeT kids[i] ≤ 1000000 := by
          rw [List.length_append, List.length_append, List.length_singleton, pre_sizeL]
          have := sizeL_take hlt
          have := sizeL_le (l := kids) (i + 1)
          omega
        have HCALL := Lib.hid (HI.out i _ _ hki hbi (HK.out i _ _ hki hbi) _ wr HG.out HP.out hlen)
        have HN := Lib.hid (preL_take hlt)
        generalize bs[i] = kb at *
        generalize kids[i] = kn at *
        clear hki hbi hcell hSg hlen
        go_wp2_with fail
        refine HCALL.out.mono ?_
        rintro v w2 ⟨⟨u2, rfl⟩, hg2, hP2⟩
        have HG2 := Lib.hid hg2
        have HP2 := Lib.hid hP2
        clear hg2 hP2 hcw
        go_wp2_with fail
        go_roundw
        case rel => exact ⟨i + 1, by omega, by go_num, HG2, Lib.hid (by rw [HN.out, ← List.append_assoc]; exact HP2.out)⟩
        case measure => simp [intOf]; omega
      · obtain rfl : i = kids.length := by omega
        have HTL := Lib.hid (List.take_length (l := kids))
        go_wp2
        go_returns
        refine ⟨⟨_, rfl⟩, HG.out, ?_⟩
        have := HP.out
        rw [HTL.out] at this
        rw [HZ.out]
        simpa using this
set_option maxHeartbeats 4000000 in
theorem each3_at {w0 : World} {cb : Nat} {S : Nat → Prop} {P : List Tree → World → Prop} (hS : ∀ k, S k → k ≠ cb)
    (hdo : ∀ (l : List Tree) (n : Tree) (b : Nat) (w' : World), w0.grownBy w' (some cb) → P l w' → TreeAt w' S n b → l.length ≤ 1000000 → Calls Tryd.prog 32 #[ptrV b, ptrV cb] w' (Leaves w0 cb P (l ++ [n])))
    {n : Tree} {b : Nat} (h : TreeAt w0 S n b) : ∀ (l : List Tree) (w' : World), w0.grownBy w' (some cb) → P l w' → l.length + sizeT n ≤ 1000000 →
    Calls Tryd.prog 31 #[ptrV b, .func (.func 32) #[] #[ptrV cb]] w' (Leaves w0 cb P (l ++ preT n)) := by
  have htree := h
  induction h with
  | @mk k set lo hi lazy kids f t b ga c A bs hSb hb hl hm hA hc hk ih =>
    intro l w' hg hP hz
    simp only [sizeT] at hz
    have HT := Lib.hid htree
    have HZ := Lib.hid (show preT (.mk k set lo hi lazy kids f t) = .mk k set lo hi lazy kids f t :: preL kids by simp only [preT])
    have HI := Lib.hid ih
    have HK := Lib.hid hk
    have HC := Lib.hid hc
    have HA := Lib.hid hA
    have HB := Lib.hid hb
    have hSbn := hS b hSb
    have HDO := Lib.hid (hdo l _ b w' hg hP (htree.only hg hS) (by omega))
    have HD := Lib.hid hdo
    have HS := Lib.hid hS
    clear htree ih hk hc hA hb hdo hg hP hS
    rename World => w'
    go_enter Tryd.func31, Tryd.ntmps31
    go_wp2_with fail
    refine HDO.out.mono ?_
    rintro v w1 ⟨⟨u, rfl⟩, hg1, hP1⟩
    have hblk1 : Blk w1 b 44 (nodeL k set lo hi lazy (.slice A kids.length c) f t) := (hg1.block b HB.out.lt (fun e => hSbn (by injection e))).trans HB.out
    have c8 : w1.cell? ⟨b, 8, none⟩ = some (.slice A kids.length c) := hblk1.cell 8
    have HG1 := Lib.hid hg1
    have HP1 := Lib.hid hP1
    clear hg1 hP1 hblk1
    go_wp2_with fail
    go_loopw [16] (fun iv wr => ∃ i : Nat, i ≤ kids.length ∧ iv = .int .i64 ((i : Nat) : Int) ∧ Hid (w0.grownBy wr (some cb)) ∧ Hid (P (l ++ [.mk k set lo hi lazy kids f t] ++ preL (kids.take i)) wr)) (fun iv _ => kids.length - (intOf iv).toNat)
    case atStart => exact ⟨0, Nat.zero_le _, rfl, HG1, Lib.hid (by simpa [preL] using HP1.out)⟩
    case round =>
      clear c8
      obtain ⟨i, hik, rfl, HG, HP⟩ := hrel
      by_cases hlt : i < kids.length
      · have hne : kids ≠ [] := by intro e; rw [e] at hlt; exact absurd hlt (Nat.not_lt_zero _)
        have hib : i < bs.length := by omega
        have hki := List.getElem?_eq_getElem hlt
        have hbi := List.getElem?_eq_getElem hib
        obtain ⟨rfl, hSg⟩ := HA.out hne
        have hcell := HC.out i _ hbi
        have hcw : wr.cell? ⟨ga, i, none⟩ = some (ptrV bs[i]) := (World.cell?_of_block (HG.out.block ga (cell_lt0 hcell) (fun e => HS.out ga hSg (by injection e)))).trans hcell
        have hsm := sizeL_mem (List.getElem_mem hlt)
        have hle := sizeL_le (l := kids) i
        have hlen : (l ++ [Tree.mk k set lo hi lazy kids f t] ++ preL (kids.take i)).length + sizeT kids[i] ≤ 1000000 := by
          rw [List.length_append, List.length_append, List.length_singleton, pre_sizeL]
          have := sizeL_take hlt
          have := sizeL_le (l := kids) (i + 1)
          omega
        have HCALL := Lib.hid (HI.out i _ _ hki hbi (HK.out i _ _ hki hbi) _ wr HG.out HP.out hlen)
        have HN := Lib.hid (preL_take hlt)
        generalize bs[i] = kb at *
        generalize kids[i] = kn at *
        clear hki hbi hcell hSg hlen
        go_wp2_with fail
        refine HCALL.out.mono ?_
        rintro v w2 ⟨⟨u2, rfl⟩, hg2, hP2⟩
        have HG2 := Lib.hid hg2
        have HP2 := Lib.hid hP2
        clear hg2 hP2 hcw
        go_wp2_with fail
        go_roundw
        case rel => exact ⟨i + 1, by omega, by go_num, HG2, Lib.hid (by rw [HN.out, ← List.append_assoc]; exact HP2.out)⟩
        case measure => simp [intOf]; omega
      · obtain rfl : i = kids.length := by omega
        have HTL := Lib.hid (List.take_length (l := kids))
        go_wp2
        go_returns
        refine ⟨⟨_, rfl⟩, HG.out, ?_⟩
        have := HP.out
        rw [HTL.out] at this
        rw [HZ.out]
        simpa using this
end Go.Proofs.YtckoebfmoggeoaaDoor
/- syntax.Size, Groups, Sets: what they answer of a tree. -/
namespace Go.Proofs.YtckoebfmoggeoaaDoor
open Go.RowKit
theorem size1_at {w : World} {cb b n : Nat} (h : Blk w cb 3 [.int .i64 ((n : Nat) : Int)]) (hn : n ≤ 1000000) :
    Calls Tryd.prog 33 #[ptrV b, ptrV cb] w fun v w' => (∃ u, v = .returned u) ∧ Blk w' cb 3 [.int .i64 ((n + 1 : Nat) : Int)] ∧ w.grownBy w' (some cb) := by
  have c0 := h.cell 0
  have f0 := h.frozen 0
  change w.cell? ⟨cb, 0, none⟩ = some (.int .i64 ((n : Nat) : Int)) at c0
  have HB := Lib.hid h
  clear h
  go_enter Tryd.func33, Tryd.ntmps33
  go_wp2
  go_returns
  exact ⟨⟨_, rfl⟩, by have := HB.out.set 0 (.int .i64 ((n + 1 : Nat) : Int)); simpa using this, only_setCell (only_refl w cb) 0 _⟩
theorem groups1_at {w : World} {cb b n : Nat} {k : Int} (h : Blk w cb 3 [.int .i64 ((n : Nat) : Int)]) (hn : n ≤ 1000000) (hk : w.cell? ⟨b, 0, none⟩ = some (.int .i64 k)) :
    Calls Tryd.prog 34 #[ptrV b, ptrV cb] w fun v w' => (∃ u, v = .returned u) ∧ Blk w' cb 3 [.int .i64 ((n + (if k == 2 then 1 else 0) : Nat) : Int)] ∧ w.grownBy w' (some cb) := by
  have c0 := h.cell 0
  have f0 := h.frozen 0
  change w.cell? ⟨cb, 0, none⟩ = some (.int .i64 ((n : Nat) : Int)) at c0
  have HB := Lib.hid h
  clear h
  cases hk2 : (k == 2) with
  | false =>
    go_enter Tryd.func34, Tryd.ntmps34
    go_wp2
    go_returns
    exact ⟨⟨_, rfl⟩, by simpa using HB.out, only_refl w cb⟩
  | true =>
    go_enter Tryd.func34, Tryd.ntmps34
    go_wp2
    go_returns
    exact ⟨⟨_, rfl⟩, by have := HB.out.set 0 (.int .i64 ((n + 1 : Nat) : Int)); simpa using this, only_setCell (only_refl w cb) 0 _⟩
theorem grown_below {w0 w w' : World} {cb base : Nat} (hg : w0.grownBy w (some cb)) (hb : Below base w.drew w') (h0 : w0.heap.size ≤ base) : w0.grownBy w' (some cb) :=
  ⟨hb.os.trans hg.os, hb.tape.trans hg.tape, hb.output.trans hg.output, Nat.le_trans hg.size hb.size, fun i hi hne => (hb.block i (Nat.lt_of_lt_of_le hi h0)).trans (hg.block i hi hne)⟩
set_option maxHeartbeats 4000000 in
theorem sets1_at {w0 w : World} {cb b base : Nat} {k : Int} {set : Nat → Bool} {lo hi : Int} {lazy : Bool} {L lv : Value} {f t : Nat} {l : List (Nat → Bool)} (h : Blk w cb 47 [lv]) (hown : w.ownsRow base 29 4 lv l.length (setsC l)) (hl : l.length ≤ 1000000) (hcb : cb < base) (hbase : base ≤ w.heap.size)
    (hb : Blk w b 44 (nodeL k set lo hi lazy L f t)) (hbc : b ≠ cb) (hg : w0.grownBy w (some cb)) (h0 : w0.heap.size ≤ base) :
    Calls Tryd.prog 32 #[ptrV b, ptrV cb] w fun v w' => (∃ u, v = .returned u) ∧ (∃ lv', Blk w' cb 47 [lv'] ∧ w'.ownsRow base 29 4 lv' (l ++ if k = 1 then [set] else []).length (setsC (l ++ if k = 1 then [set] else []))) ∧ w0.grownBy w' (some cb) := by
  have HB := Lib.hid h
  have HO := Lib.hid hown
  have HN := Lib.hid hb
  have HOd := Lib.hid hown.drew
  have hcl := h.lt
  have hbl := hb.lt
  have c0 : w.cell? ⟨cb, 0, none⟩ = some lv := h.cell 0
  have n0 : w.cell? ⟨b, 0, none⟩ = some (.int .i64 k) := hb.cell 0
  have n1 : w.cell? ⟨b, 1, none⟩ = some (.int .u64 (word set 0)) := hb.cell 1
  have n2 : w.cell? ⟨b, 2, none⟩ = some (.int .u64 (word set 1)) := hb.cell 2
  have n3 : w.cell? ⟨b, 3, none⟩ = some (.int .u64 (word set 2)) := hb.cell 3
  have n4 : w.cell? ⟨b, 4, none⟩ = some (.int .u64 (word set 3)) := hb.cell 4
  have HG0 := Lib.hid hg
  clear h hown hb hg
  by_cases hk : k = 1
  · have e1 : (k == 1) = true := by rw [hk]; rfl
    have HK := Lib.hid hk
    clear hk
    go_enter Tryd.func32, Tryd.ntmps32
    go_wp2_with fail
    go_region_law (refine step_append_one rfl (.tmp 8) (.tmp 13) 47 rfl base 29 4 32 elem_sets _ _ _ (by simp [Act.eval]) HOd.out (setL set) (by simp [Act.eval]) rfl (one_set set) (by omega) (by omega) (by simp; omega) ?_; intro v5 w5 hown5 hb5; obtain ⟨b5, cap5, rfl⟩ := own_some hown5 (by omega); have hB5 := HB.out.drew.below hb5 hcb; have q3 : w5.cell? ⟨cb, 0, none⟩ = some lv := hB5.cell 0; have p3 : w5.frozen? ⟨cb, 0, none⟩ = false := hB5.frozen 0)
    all_goals
      have HO5 := Lib.hid (own_turned hown5 (only_setCell (only_refl w5 cb) 0 (.slice (some ⟨b5, 0, none⟩) (l.length + 1) cap5)) hcb)
      have HB6 := Lib.hid (hB5.set 0 (.slice (some ⟨b5, 0, none⟩) (l.length + 1) cap5))
      have HG := Lib.hid (only_setCell (grown_below HG0.out hb5 h0) 0 (.slice (some ⟨b5, 0, none⟩) (l.length + 1) cap5))
      clear hown5 hb5 hB5 q3 p3
      go_wp2
      go_returns
      refine ⟨⟨_, rfl⟩, ⟨_, HB6.out, ?_⟩, HG.out⟩
      first | (rw [setsC_snoc]; exact HO5.out) | (rw [if_pos HK.out, setsC_snoc, List.length_append]; exact HO5.out)
  · have e1 : (k == 1) = false := by rw [beq_eq_false_iff_ne]; exact hk
    have HK := Lib.hid hk
    clear hk
    go_enter Tryd.func32, Tryd.ntmps32
    go_wp2
    go_returns
    exact ⟨⟨_, rfl⟩, ⟨lv, HB.out, by first | exact HO.out | (rw [if_neg HK.out, List.append_nil]; exact HO.out)⟩, HG0.out⟩
set_option maxHeartbeats 4000000 in
theorem ssize_at {w : World} {S : Nat → Prop} {n : Tree} {b : Nat} (h : TreeAt w S n b) (hz : sizeT n ≤ 1000000) :
    Calls Tryd.prog 16 #[ptrV b] w fun v w' => v = .returned (.int .i64 ((sizeT n : Nat) : Int)) ∧ Below w.heap.size w w' := by
  have hbl := Blk.new w [.int .i64 0] 3
  have hb1 : Below w.heap.size w (w.alloc (.cells #[.int .i64 0] 3)) := (Below.refl _ w).alloc (Nat.le_refl _) _
  have htr := (h.mono (S' := fun k => k < w.heap.size) (fun k _ hk => hk)).under hb1
  have HE := Lib.hid (each1_at (w0 := w.alloc (.cells #[.int .i64 0] 3)) (cb := w.heap.size) (P := fun l W => Blk W w.heap.size 3 [.int .i64 ((l.length : Nat) : Int)]) (fun k hk e => by omega)
    (fun l n b w' hg hP ht hl => (size1_at (b := b) hP hl).mono fun v w'' ⟨h1, h2, h3⟩ => ⟨h1, only_trans hg h3, by dsimp only; rw [List.length_append, List.length_singleton]; exact h2⟩) htr [] _ (only_refl _ _) hbl (by simpa using hz))
  have HB1 := Lib.hid hb1
  have HPS := Lib.hid (pre_size n)
  clear hbl hb1 htr h
  go_enter Tryd.func16, Tryd.ntmps16
  go_wp2_with fail
  refine HE.out.mono ?_
  rintro v w2 ⟨⟨u, rfl⟩, hg, hP⟩
  rw [List.nil_append, HPS.out] at hP
  have c0 : w2.cell? ⟨w.heap.size, 0, none⟩ = some (.int .i64 ((sizeT n : Nat) : Int)) := hP.cell 0
  have hb2 := below_turned HB1.out hg (Nat.le_refl _) HB1.out.size
  clear hP hg
  go_wp2
  go_returns
  exact ⟨rfl, hb2⟩
set_option maxHeartbeats 4000000 in
theorem sgroups_at {w : World} {S : Nat → Prop} {n : Tree} {b : Nat} (h : TreeAt w S n b) (hz : sizeT n ≤ 1000000) :
    Calls Tryd.prog 18 #[ptrV b] w fun v w' => v = .returned (.int .i64 ((countT 2 n : Nat) : Int)) ∧ Below w.heap.size w w' := by
  have hbl := Blk.new w [.int .i64 0] 3
  have hb1 : Below w.heap.size w (w.alloc (.cells #[.int .i64 0] 3)) := (Below.refl _ w).alloc (Nat.le_refl _) _
  have htr := (h.mono (S' := fun k => k < w.heap.size) (fun k _ hk => hk)).under hb1
  have hlen : ∀ l : List Tree, kindsN 2 l ≤ l.length := fun l => List.length_filter_le _ _
  have HE := Lib.hid (each2_at (w0 := w.alloc (.cells #[.int .i64 0] 3)) (cb := w.heap.size) (P := fun l W => Blk W w.heap.size 3 [.int .i64 ((kindsN 2 l : Nat) : Int)]) (fun k hk e => by omega)
    (fun l n b w' hg hP ht hl => by
      obtain ⟨A, c, hn, -, -⟩ := ht.node
      refine (groups1_at hP (Nat.le_trans (hlen l) hl) (hn.cell 0)).mono fun v w'' ⟨h1, h2, h3⟩ => ⟨h1, only_trans hg h3, ?_⟩
      dsimp only
      rw [kindsN_append]
      have : kindsN 2 [n] = if n.kind == 2 then 1 else 0 := by
        unfold kindsN
        rw [List.filter_cons]
        split <;> simp
      rw [this]
      exact h2) htr [] _ (only_refl _ _) hbl (by simpa using hz))
  have HB1 := Lib.hid hb1
  have HPS := Lib.hid (pre_count 2 n)
  clear hbl hb1 htr h hlen
  go_enter Tryd.func18, Tryd.ntmps18
  go_wp2_with fail
  refine HE.out.mono ?_
  rintro v w2 ⟨⟨u, rfl⟩, hg, hP⟩
  rw [List.nil_append, HPS.out] at hP
  have c0 : w2.cell? ⟨w.heap.size, 0, none⟩ = some (.int .i64 ((countT 2 n : Nat) : Int)) := hP.cell 0
  have hb2 := below_turned HB1.out hg (Nat.le_refl _) HB1.out.size
  clear hP hg
  go_wp2
  go_returns
  exact ⟨rfl, hb2⟩
set_option maxHeartbeats 4000000 in
theorem ssets_at {w : World} {S : Nat → Prop} {n : Tree} {b : Nat} (h : TreeAt w S n b) (hz : sizeT n ≤ 1000000) :
    Calls Tryd.prog 14 #[ptrV b] w fun v w' => ∃ lv, v = .returned lv ∧ w'.ownsRow w.heap.size 29 4 lv (setsT n).length (setsC (setsT n)) ∧ Below w.heap.size w w' := by
  have hbl := Blk.new w [.slice none 0 0] 47
  have hb1 : Below w.heap.size w (w.alloc (.cells #[.slice none 0 0] 47)) := (Below.refl _ w).alloc (Nat.le_refl _) _
  have hs1 : (w.alloc (.cells #[.slice none 0 0] 47)).heap.size = w.heap.size + 1 := by simp
  have htr := (h.mono (S' := fun k => k < w.heap.size) (fun k _ hk => hk)).under hb1
  have hlen : ∀ l : List Tree, (setsN l).length ≤ l.length := fun l => by
    induction l with
    | nil => simp [setsN]
    | cons n l ih =>
      have : setsN (n :: l) = setsN [n] ++ setsN l := setsN_append [n] l
      rw [this, List.length_append, List.length_cons]
      have h1 : (setsN [n]).length ≤ 1 := by
        unfold setsN
        simp only [List.flatMap_cons, List.flatMap_nil, List.append_nil]
        split <;> simp
      omega
  have HE := Lib.hid (each3_at (w0 := w.alloc (.cells #[.slice none 0 0] 47)) (cb := w.heap.size) (P := fun l W => ∃ lv, Blk W w.heap.size 47 [lv] ∧ W.ownsRow (w.heap.size + 1) 29 4 lv (setsN l).length (setsC (setsN l))) (fun k hk e => by omega)
    (fun l n b w' hg hP ht hl => by
      obtain ⟨A, c, hn, -, -⟩ := ht.node
      obtain ⟨lv, hP1, hP2⟩ := hP
      have hbb : b < w.heap.size := ht.in
      refine (sets1_at hP1 hP2 (Nat.le_trans (hlen l) hl) (Nat.lt_succ_self _) (by have := hg.size; rw [hs1] at this; exact this) hn (by omega) hg (by rw [hs1]; exact Nat.le_refl _)).mono fun v w'' ⟨h1, ⟨lv', h2, h4⟩, h3⟩ => ⟨h1, h3, ?_⟩
      have he : setsN (l ++ [n]) = setsN l ++ if n.kind = 1 then [n.set] else [] := by
        rw [setsN_append]
        simp [setsN]
      dsimp only
      rw [he]
      exact ⟨lv', h2, h4⟩) htr [] _ (only_refl _ _) ⟨_, hbl, World.ownsRow_nil _ _ _ _⟩ (by simpa using hz))
  have HB1 := Lib.hid hb1
  have HPS := Lib.hid (pre_sets n)
  clear hbl hb1 htr h hlen hs1
  go_enter Tryd.func14, Tryd.ntmps14
  go_wp2_with fail
  refine HE.out.mono ?_
  rintro v w2 ⟨⟨u, rfl⟩, hg, hP⟩
  rw [List.nil_append, HPS.out] at hP
  obtain ⟨lv, hP1, hP2⟩ := hP
  have c0 : w2.cell? ⟨w.heap.size, 0, none⟩ = some lv := hP1.cell 0
  have hb2 := below_turned HB1.out hg (Nat.le_refl _) HB1.out.size
  have HO := Lib.hid (own_base hP2 (Nat.le_succ _))
  clear hP1 hP2 hg
  go_wp2
  go_returns
  exact ⟨lv, rfl, HO.out, hb2⟩
end Go.Proofs.YtckoebfmoggeoaaDoor
