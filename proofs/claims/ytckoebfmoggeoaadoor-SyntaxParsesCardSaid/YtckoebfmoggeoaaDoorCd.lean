/- The reference of layer 6: Parse. -/
import Derived.Test.YtckoebfmoggeoaaDoorBv
import Derived.Test.YtckoebfmoggeoaaDoorBt
import Derived.Test.YtckoebfmoggeoaaDoorCl
import Derived.Test.YtckoebfmoggeoaaDoorBk
import Derived.Test.YtckoebfmoggeoaaDoorBq
import Derived.Deep.DeepCutAuto
import Derived.Laws.AppendOwnNone
namespace Go.Proofs.YtckoebfmoggeoaaDoor
set_option maxRecDepth 100000
open Go.RowKit
/-- What the reference's Parse answers. -/
def RParseIs (w w' : World) (s : ByteArray) (v : Ending) : Prop := match parseM s with
  | .ok t _ => ∃ cs : List Value, v = .returned (.tuple #[.agg cs.toArray, faultV (0, 0)]) ∧ RefT w' (fun q => w.heap.size ≤ q) t cs
  | .err p e => v = .returned (.tuple #[.agg zeroN.toArray, faultV (p, e)]) ∧ e ≠ 0
theorem first_code {size : Nat} : ∀ {T : List Tk} {d : Nat} {ah : Bool} {p e : Nat}, firstL size T d ah = some (p, e) → e ≠ 0 := by
  intro T
  induction T with
  | nil =>
    intro d ah p e h
    unfold firstL at h
    split at h
    · injection h with h; injection h with _ h; omega
    · cases h
  | cons x r ih =>
    intro d ah p e h
    unfold firstL at h
    split at h
    · exact ih h
    · split at h
      · split at h
        · injection h with h; injection h with _ h; omega
        · exact ih h
      · split at h
        · split at h
          · injection h with h; injection h with _ h; omega
          · exact ih h
        · split at h
          · exact ih h
          · split at h
            · exact ih h
            · injection h with h; injection h with _ h; omega
theorem St.two2 {w0 w : World} {L : BlkL} (h : St w0 w L) (k : Nat) {b : Nat} {t : TypeId} {u0 u1 : Value} (hk : L[k]? = some (b, t, [u0, u1])) (v0 v1 : Value) : St w0 ((w.setCell ⟨b, 0, none⟩ v0).setCell ⟨b, 1, none⟩ v1) (L.set k (b, t, [v0, v1])) := by
  have := h.all k hk [v0, v1] rfl
  simpa [putCells] using this
set_option maxHeartbeats 16000000 in
theorem rparse_at (s : ByteArray) (hs : s.size ≤ 1048576) (w : World) :
    Calls Tryd.prog 9 #[.string s] w fun v w' => RParseIs w w' s v ∧ Below w.heap.size w w' := by
  have st := ((St.nil w).alloc rfl zeroN 32).alloc (n := w.heap.size + 1) (by simp) [.int .i64 0, .int .i64 0] 34
  go_enter Tryd.func9, Tryd.ntmps9
  go_upto_region 1 with fail
  generalize (w.alloc _).alloc _ = w1 at *
  have hw1 : w.heap.size ≤ w1.heap.size := st.size
  go_wp2_with fail
  refine (refscan_at s hs w1).mono ?_
  rintro v w2 ⟨lv, na, e, rfl, his, hb⟩
  unfold RScanIs at his
  have st2 := st.below' hb
  clear st
  cases hsc : scanM (bytesN s) with
  | err j k =>
    rw [hsc] at his
    obtain ⟨rfl, rfl, rfl, hk⟩ := his
    have HR := Lib.hid (show parseM s = .err j e by unfold parseM; rw [hsc])
    have he1 : (((e : Nat) : Int) != 0) = true := by rw [bne_iff_ne]; omega
    have HE := Lib.hid hk
    have HST := Lib.hid st2
    obtain ⟨⟨e0, e1⟩, f0, f1⟩ := st2.two 0 rfl
    obtain ⟨⟨v0, v1, v2, v3, v4, v5, v6, v7, v8, v9, v10⟩, r0, r1, r2, r3, r4, r5, r6, r7, r8, r9, r10⟩ := (st2.get 1 rfl).eleven
    clear hk hsc st2 hb
    go_wp2_with fail
    have s5 := (HST.out.all 1 rfl zeroN rfl).two2 0 rfl (.int .i64 ((j : Nat) : Int)) (.int .i64 ((e : Nat) : Int))
    simp only [putCells] at s5
    refine ret_load2 (b1 := w.heap.size) (b2 := w.heap.size + 1) rfl rfl (load_rnode (s5.get 1 rfl) rfl) rfl (load_fault (s5.get 0 rfl) rfl) rfl ⟨?_, s5.below⟩
    unfold RParseIs
    rw [HR.out]
    exact ⟨rfl, HE.out⟩
  | ok T m =>
    rw [hsc] at his
    obtain ⟨hown, rfl, rfl⟩ := his
    have h5 := scan_kinds hsc
    have hlen := scan_len hsc
    rw [bytesN_length] at hlen
    have HR := Lib.hid (show parseM s = treeM T s.size by unfold parseM; rw [hsc])
    have HTF := Lib.hid (tree_fault (size := s.size) h5)
    obtain ⟨o, c, rfl, ho⟩ : ∃ (o : Option Addr) (c : Nat), lv = .slice o T.length c ∧ (0 < T.length → ∃ g, o = some ⟨g, 0, none⟩) := by
      rcases hown.2 with ⟨rfl, h0⟩ | ⟨g, cap, cur, rfl, _⟩
      · exact ⟨none, 0, by rw [h0], fun h => by omega⟩
      · exact ⟨some ⟨g, 0, none⟩, cap, rfl, fun _ => ⟨g, rfl⟩⟩
    have htk : Toks w2 o T := ⟨fun k x f t hk => by
      have hkl := (List.getElem?_eq_some_iff.1 hk).1
      obtain ⟨g, rfl⟩ := ho (by omega)
      exact ⟨g, rfl, (hown.lt g rfl).2, fun r v hv => own_cell hown _ _ (toksC_get hk hv)⟩, by omega⟩
    have HTK := Lib.hid htk
    have H5 := Lib.hid h5
    have HF := Lib.hid (rfirst_at (c := c) (size := s.size) htk h5)
    clear htk h5 hown ho hsc hb
    have HST := Lib.hid st2
    clear st2
    have hl48 : T.length ≤ 1048576 := by omega
    go_wp2_with fail
    refine HF.out.mono ?_
    rintro v w3 ⟨rfl, hb3⟩
    have st3 := (HST.out.below' hb3).alloc (n := w3.heap.size) rfl [.int .i64 (((faultP (firstL s.size T 0 false)).1 : Nat) : Int), .int .i64 (((faultP (firstL s.size T 0 false)).2 : Nat) : Int)] 34
    have HTK3 := Lib.hid ((HTK.out.below hb3).below ((Below.refl _ w3).alloc (Nat.le_refl _) (.cells #[.int .i64 (((faultP (firstL s.size T 0 false)).1 : Nat) : Int), .int .i64 (((faultP (firstL s.size T 0 false)).2 : Nat) : Int)] 34)))
    have hlt3 : w.heap.size + 1 < w3.heap.size := ((HST.out.below' hb3).get 0 rfl).lt
    have hn1 : ¬ w.heap.size = w3.heap.size := by omega
    have hn2 : ¬ w3.heap.size = w.heap.size := by omega
    have hn3 : ¬ w.heap.size + 1 = w3.heap.size := by omega
    have hn4 : ¬ w3.heap.size = w.heap.size + 1 := by omega
    go_upto_region 5 with fail
    generalize w3.alloc _ = w4 at *
    cases htr : treeM T s.size with
    | err p e =>
      have htf := HTF.out
      rw [htr] at htf
      simp only [] at htf
      rw [htf] at st3 ⊢
      have HE := Lib.hid (show e ≠ 0 by
        intro h0
        exact first_code htf h0)
      have HR2 := Lib.hid (HR.out.trans htr)
      simp only [faultP] at st3 ⊢
      obtain ⟨⟨e0, e1⟩, -⟩ := st3.two 0 rfl
      obtain ⟨⟨d0, d1⟩, f0, f1⟩ := st3.two 1 rfl
      obtain ⟨⟨v0, v1, v2, v3, v4, v5, v6, v7, v8, v9, v10⟩, r0, r1, r2, r3, r4, r5, r6, r7, r8, r9, r10⟩ := (st3.get 2 rfl).eleven
      have HST3 := Lib.hid st3
      have he1 : (((e : Nat) : Int) != 0) = true := by rw [bne_iff_ne]; have := HE.out; omega
      clear htf htr st3
      go_wp2_with fail
      go_region
      all_goals
        go_wp2_with fail
        first
          | (have s5 := ((HST3.out.all 2 rfl zeroN rfl).two2 1 rfl (.int .i64 ((p : Nat) : Int)) (.int .i64 ((e : Nat) : Int))).drew
             simp only [putCells] at s5
             refine ret_load2 (b1 := w.heap.size) (b2 := w.heap.size + 1) rfl rfl (load_rnode (s5.get 2 rfl) rfl) rfl (load_fault (s5.get 1 rfl) rfl) rfl ⟨?_, s5.below⟩
             unfold RParseIs
             rw [HR2.out]
             exact ⟨rfl, HE.out⟩)
          | (have s5 := ((HST3.out.two2 1 rfl (.int .i64 ((p : Nat) : Int)) (.int .i64 ((e : Nat) : Int))).all 2 rfl zeroN rfl).drew
             simp only [putCells] at s5
             refine ret_load2 (b1 := w.heap.size) (b2 := w.heap.size + 1) rfl rfl (load_rnode (s5.get 2 rfl) rfl) rfl (load_fault (s5.get 1 rfl) rfl) rfl ⟨?_, s5.below⟩
             unfold RParseIs
             rw [HR2.out]
             exact ⟨rfl, HE.out⟩)
    | ok t j =>
      have htf := HTF.out
      rw [htr] at htf
      obtain ⟨hf0, rfl⟩ := htf
      rw [hf0] at st3 ⊢
      have HR2 := Lib.hid (HR.out.trans htr)
      simp only [faultP] at st3 ⊢
      obtain ⟨⟨e0, e1⟩, -⟩ := st3.two 0 rfl
      have HST3 := Lib.hid st3
      have hal : altF T s.size (T.length + 1) 0 0 = .ok t T.length := by
        unfold treeM at htr
        cases ha : altF T s.size (T.length + 1) 0 0 with
        | err p e => rw [ha] at htr; cases htr
        | ok t' j' =>
          rw [ha] at htr
          simp only [] at htr
          cases hx : T[j']? with
          | none => rw [hx] at htr; simp only [] at htr; rw [htr]
          | some x => rw [hx] at htr; cases htr
      have HAL := Lib.hid (show Calls Tryd.prog 28 #[.slice o T.length c, .int .i64 0, .int .i64 ((T.length : Nat) : Int), .int .i64 ((s.size : Nat) : Int)] w4 (RNode w4 t) from ralt_ok (c := c) H5.out hs (T.length + 1) 0 0 T.length t w4 hal (Nat.zero_le _) (by omega) HTK3.out)
      have hl4 : w3.heap.size < w4.heap.size := (st3.get 0 rfl).lt
      clear hf0 htr st3 hal
      go_wp2_with fail
      refine HAL.out.mono ?_
      rintro v w5 ⟨cs, rfl, hb5, href⟩
      have st5 := HST3.out.below' hb5
      obtain ⟨⟨d0, d1⟩, f0, f1⟩ := st5.two 1 rfl
      obtain ⟨⟨v0, v1, v2, v3, v4, v5, v6, v7, v8, v9, v10⟩, r0, r1, r2, r3, r4, r5, r6, r7, r8, r9, r10⟩ := (st5.get 2 rfl).eleven
      have HREF := Lib.hid href
      obtain ⟨A, c', rfl, -, -⟩ := href.node
      have HST5 := Lib.hid st5
      clear st5 href hb5
      go_wp2_with fail
      have s5 := (HST5.out.all 2 rfl (nodeL t.kind t.set t.lo t.hi t.lazy (.slice A t.kids.length c') t.f t.t) rfl).two2 1 rfl (.int .i64 0) (.int .i64 0)
      have g5 := only_puts_self (nodeL t.kind t.set t.lo t.hi t.lazy (.slice A t.kids.length c') t.f t.t) 0 w5 w5 (only_refl w5 w.heap.size)
      have ht5 := (HREF.out.only g5 (fun k (hk : w4.heap.size ≤ k) => by omega)).only (only_setCell (only_setCell (only_refl _ (w.heap.size + 1)) 0 (.int .i64 0)) 1 (.int .i64 0)) (fun k (hk : w4.heap.size ≤ k) => by omega)
      have ht6 := ht5.mono (S' := fun q => w.heap.size ≤ q) (fun k (hk : w4.heap.size ≤ k) _ => by omega)
      simp only [putCells] at s5 ht6
      refine ret_load2 (b1 := w.heap.size) (b2 := w.heap.size + 1) rfl rfl (load_rnode (s5.get 2 rfl) rfl) rfl (load_fault (s5.get 1 rfl) rfl) rfl ⟨?_, s5.below⟩
      unfold RParseIs
      rw [HR2.out]
      exact ⟨_, rfl, ht6⟩
end Go.Proofs.YtckoebfmoggeoaaDoor
/- What is read is a pattern's tree: each node has what it may have; how deep, how great it is. No program in sight. -/
namespace Go.Proofs.YtckoebfmoggeoaaDoor
set_option maxRecDepth 100000
mutual
def sizeT : Tree → Nat
  | .mk _ _ _ _ _ kids _ _ => 1 + sizeL kids
def sizeL : List Tree → Nat
  | [] => 0
  | n :: l => sizeT n + sizeL l
end
theorem sizeL_snoc (l : List Tree) (n : Tree) : sizeL (l ++ [n]) = sizeL l + sizeT n := by
  induction l with
  | nil => simp [sizeL]
  | cons m l ih => simp only [List.cons_append, sizeL, ih]; omega
theorem fitL_snoc (l : List Tree) (n : Tree) : fitL (l ++ [n]) = (fitL l && fitT n) := by
  induction l with
  | nil => simp [fitL]
  | cons m l ih => simp only [List.cons_append, fitL, ih, Bool.and_assoc]
theorem rngL_snoc {l : List Tree} {n : Tree} (h : RngL l) (hn : RngT n) : RngL (l ++ [n]) := by
  induction l with
  | nil => exact ⟨hn, trivial⟩
  | cons m l ih => exact ⟨h.1, ih h.2⟩
/-- A count's numbers are right. -/
def CountOk (x : Tok) : Prop := x.kind = 5 → x.lo ≤ 1000 ∧ (x.hi = -1 ∨ (((x.lo : Nat) : Int) ≤ x.hi ∧ x.hi ≤ 1000))
def CountsOk (T : List Tk) : Prop := ∀ (i : Nat) (x : Tk), T[i]? = some x → CountOk x.1
/-- A tree that is right, of a depth and a size. -/
structure TreeOk (t : Tree) (d z : Nat) : Prop where
  fit : fitT t = true
  rng : RngT t
  deep : deepT t ≤ d
  size : sizeT t ≤ z
  kind : 0 ≤ t.kind ∧ t.kind ≤ 6
structure RowOk (l : List Tree) (d z : Nat) (p : Int → Prop) : Prop where
  fit : fitL l = true
  rng : RngL l
  deep : deepL l ≤ d
  size : sizeL l ≤ z
  kind : ∀ n ∈ l, p n.kind
theorem RowOk.nil (d z : Nat) (p : Int → Prop) : RowOk [] d z p := ⟨rfl, trivial, Nat.zero_le _, Nat.zero_le _, fun n h => by cases h⟩
theorem RowOk.snoc {l : List Tree} {n : Tree} {d z y : Nat} {p : Int → Prop} (h : RowOk l d z p) (hn : TreeOk n d y) (hp : p n.kind) : RowOk (l ++ [n]) d (z + y) p :=
  ⟨by rw [fitL_snoc, h.fit, hn.fit]; rfl, rngL_snoc h.rng hn.rng, by rw [deepL_snoc]; have := h.deep; have := hn.deep; omega, by rw [sizeL_snoc]; have := h.size; have := hn.size; omega, fun m hm => by
    rcases List.mem_append.1 hm with hm | hm
    · exact h.kind m hm
    · rw [List.mem_singleton.1 hm]; exact hp⟩
theorem eqB_noSet : eqB noSet (fun _ => false) = true := (eqB_iff _ _).2 fun _ _ => rfl
theorem kd_rng {l : List Tree} (h : ∀ n ∈ l, 0 ≤ n.kind ∧ n.kind ≤ 6) (i : Nat) : 0 ≤ kdOf l i ∧ kdOf l i ≤ 9223372036854775807 := by
  unfold kdOf
  cases hi : l[i]? with
  | none => exact ⟨Int.le_refl _, by decide⟩
  | some n =>
    have := h n (List.mem_of_getElem? hi)
    exact ⟨this.1, by simp only []; omega⟩
theorem leaf_ok (x : Tk) (d : Nat) : TreeOk (leafT x) d 1 := by
  refine ⟨?_, ?_, by simp [leafT, deepT, deepL], by simp [leafT, sizeT, sizeL], by simp [leafT, Tree.kind]⟩
  · unfold leafT
    simp [fitT, fitL, formB]
  · unfold leafT
    simp only [RngT, RngL]
    exact ⟨by omega, by omega, fun i => kd_rng (l := []) (fun n h => by cases h) i, trivial⟩
theorem empty_ok (p d : Nat) : TreeOk (emptyT p) d 1 := by
  refine ⟨?_, ?_, by simp [emptyT, deepT, deepL], by simp [emptyT, sizeT, sizeL], by simp [emptyT, Tree.kind]⟩
  · unfold emptyT
    simp [fitT, fitL, formB, eqB_noSet]
  · unfold emptyT
    simp only [RngT, RngL]
    exact ⟨by omega, by omega, fun i => kd_rng (l := []) (fun n h => by cases h) i, trivial⟩
theorem groupT_ok {x : Tk} {n : Tree} {t d z : Nat} (h : TreeOk n d z) : TreeOk (groupT x n t) (d + 1) (z + 1) ∧ ((groupT x n t).kind = 2 ∨ (groupT x n t).kind = 3) := by
  have hk : (groupT x n t).kind = 2 ∨ (groupT x n t).kind = 3 := by unfold groupT; simp only [Tree.kind]; split <;> simp
  refine ⟨⟨?_, ?_, ?_, ?_, by omega⟩, hk⟩
  · unfold groupT
    split <;> simp [fitT, fitL, formB, eqB_noSet, h.fit]
  · unfold groupT
    simp only [RngT, RngL]
    exact ⟨by omega, by omega, fun i => kd_rng (l := [n]) (fun m hm => by rw [List.mem_singleton.1 hm]; exact h.kind) i, h.rng, trivial⟩
  · unfold groupT
    rw [deepT_mk]
    have := h.deep
    have hb : ∀ b : Int, (if grpB b = true then max (deepT n) 0 + 1 else max (deepT n) 0) ≤ d + 1 := by
      intro b
      split <;> omega
    exact hb _
  · unfold groupT
    have := h.size
    simp only [sizeT, sizeL]
    omega
theorem rep_ok {x c : Tk} {n : Tree} {d z : Nat} (h : TreeOk n d z) (hk : n.kind = 1 ∨ n.kind = 2 ∨ n.kind = 3) (hc : CountOk c.1) (h5 : c.1.kind = 5) : TreeOk (repT x c n) d (z + 1) := by
  obtain ⟨h1, h2⟩ := hc h5
  refine ⟨?_, ?_, ?_, ?_, by simp [repT, Tree.kind]⟩
  · unfold repT
    have hg : (n.kind == 1 || grpB n.kind) = true := by
      rcases hk with h | h | h <;> rw [h] <;> rfl
    have hh : (c.1.hi == -1 || (decide (((c.1.lo : Nat) : Int) ≤ c.1.hi) && decide (c.1.hi ≤ 1000))) = true := by
      rcases h2 with h | ⟨h, h'⟩
      · rw [h]; rfl
      · rw [decide_eq_true h, decide_eq_true h']; simp
    have hl : decide (((c.1.lo : Nat) : Int) ≤ 1000) = true := decide_eq_true (by omega)
    have hl0 : decide (0 ≤ ((c.1.lo : Nat) : Int)) = true := decide_eq_true (by omega)
    simp only [fitT, fitL, formB, eqB_noSet, h.fit]
    have hkd : kdOf [n] 0 = n.kind := rfl
    rw [hkd, hg, hh, hl, hl0]
    rfl
  · unfold repT
    simp only [RngT, RngL]
    refine ⟨by omega, by omega, fun i => kd_rng (l := [n]) (fun m hm => by rw [List.mem_singleton.1 hm]; exact h.kind) i, h.rng, trivial⟩
  · unfold repT
    rw [deepT_mk]
    have := h.deep
    rw [if_neg (by decide)]
    simp only [deepL]
    omega
  · unfold repT
    have := h.size
    simp only [sizeT, sizeL]
    omega
theorem any_kinds {l : List Tree} {q : Int → Bool} (h : ∀ n ∈ l, q n.kind = false) : ((List.range l.length).any fun i => q (kdOf l i)) = false := by
  rw [List.any_eq_false]
  intro i hi
  have hi := List.mem_range.1 hi
  rw [kdOf_at hi, h _ (List.getElem_mem hi)]
  simp
theorem many_ok {k : Int} {l : List Tree} {d z : Nat} {p : Int → Prop} (h : RowOk l d z p) (hl : 0 < l.length) (hk : k = 4 ∨ k = 5) (hp : ∀ x, p x → 0 ≤ x ∧ x ≤ 6) (hq : ∀ x, p x → (k = 4 → [4, 0, 5].contains x = false) ∧ (k = 5 → [5].contains x = false)) :
    TreeOk (manyT k l) d (z + 1) ∧ (p (manyT k l).kind ∨ (manyT k l).kind = k) := by
  by_cases h1 : l.length = 1
  · obtain ⟨n, rfl⟩ := List.length_eq_one_iff.1 h1
    have hm : manyT k [n] = n := rfl
    rw [hm]
    have hf := h.fit
    simp only [fitL, Bool.and_true] at hf
    have hd := h.deep
    have hs := h.size
    simp only [deepL, sizeL] at hd hs
    exact ⟨⟨hf, h.rng.1, by omega, by omega, hp _ (h.kind n (by simp))⟩, .inl (h.kind n (by simp))⟩
  · have hm : manyT k l = .mk k noSet 0 0 false l (headT l) (lastT l) := by
      unfold manyT
      split
      · simp at h1
      · rfl
    rw [hm]
    refine ⟨⟨?_, ?_, ?_, ?_, by rcases hk with rfl | rfl <;> simp [Tree.kind]⟩, .inr rfl⟩
    · have h4 : k = 4 → ((List.range l.length).any fun i => [4, 0, 5].contains (kdOf l i)) = false := fun e => any_kinds (q := fun x => [4, 0, 5].contains x) (fun n hn => (hq _ (h.kind n hn)).1 e)
      have h5 : k = 5 → ((List.range l.length).any fun i => [5].contains (kdOf l i)) = false := fun e => any_kinds (q := fun x => [5].contains x) (fun n hn => (hq _ (h.kind n hn)).2 e)
      have hlen : decide ((1 : Int) < l.length) = true := decide_eq_true (by omega)
      simp only [fitT]
      rw [h.fit, Bool.and_true]
      unfold formB
      rcases hk with rfl | rfl
      · rw [eqB_noSet, h4 rfl, hlen]
        rfl
      · rw [eqB_noSet, h5 rfl, hlen]
        rfl
    · simp only [RngT]
      exact ⟨by omega, by omega, fun i => kd_rng (fun n hn => hp _ (h.kind n hn)) i, h.rng⟩
    · rw [deepT_mk, if_neg (by unfold grpB; rcases hk with rfl | rfl <;> simp)]
      exact h.deep
    · have := h.size
      simp only [sizeT]
      omega
section
variable {T : List Tk} {size : Nat}
/-- What may stand in a row of items: a set, a group, a repeat. -/
def itemK (x : Int) : Prop := x = 1 ∨ x = 2 ∨ x = 3 ∨ x = 6
def catK (x : Int) : Prop := x = 0 ∨ x = 1 ∨ x = 2 ∨ x = 3 ∨ x = 4 ∨ x = 6
def AltGood (T : List Tk) (size n : Nat) : Prop := ∀ (d i j : Nat) (t : Tree), d ≤ 200 → altF T size n d i = .ok t j → i ≤ T.length → T.length - i < n → i ≤ j ∧ TreeOk t (200 - d) (4 * (j - i) + 5)
theorem item_good {n d q k0 : Nat} {x : Tk} {n0 : Tree} (hd : d ≤ 200) (hg : AltGood T size n) (hb : baseW T size (altF T size n) d q x = .ok n0 k0) (hq : q < T.length) (hn : T.length - q ≤ n) : q < k0 ∧ TreeOk n0 (200 - d) (4 * (k0 - q) - 2) ∧ (n0.kind = 1 ∨ n0.kind = 2 ∨ n0.kind = 3) := by
  have hp := base_parts hb
  rcases hp with ⟨h0, rfl, rfl⟩ | ⟨h12, n1, m, y, hr, hy, hy3, rfl, rfl⟩
  · have := leaf_ok x (200 - d)
    exact ⟨by omega, ⟨this.fit, this.rng, this.deep, by have := this.size; omega, this.kind⟩, .inl rfl⟩
  · have hd2 : ¬ 200 ≤ d := by
      intro h
      unfold baseW at hb
      rw [if_neg (by omega), if_pos h12] at hb
      unfold groupW at hb
      rw [if_pos h] at hb
      cases hb
    obtain ⟨hle, hok⟩ := hg (d + 1) (q + 1) m n1 (by omega) hr (by omega) (by omega)
    obtain ⟨h1, h2⟩ := groupT_ok (x := x) (t := y.2.2) hok
    refine ⟨by omega, ⟨h1.fit, h1.rng, by have := h1.deep; omega, by have := h1.size; omega, h1.kind⟩, ?_⟩
    rcases h2 with h | h
    · exact .inr (.inl h)
    · exact .inr (.inr h)
theorem itemW_good {n d q k : Nat} {x : Tk} {t : Tree} (hd : d ≤ 200) (hC : CountsOk T) (hg : AltGood T size n) (hb : itemW T size (altF T size n) d q x = .ok t k) (hq : q < T.length) (hn : T.length - q ≤ n) : q < k ∧ TreeOk t (200 - d) (4 * (k - q) - 2) ∧ itemK t.kind := by
  obtain ⟨n0, k0, hbase, hp⟩ := item_parts hb
  obtain ⟨h1, h2, h3⟩ := item_good hd hg hbase hq hn
  rcases hp with ⟨c, hc, hc5, rfl, rfl⟩ | ⟨-, rfl, rfl⟩
  · have := rep_ok (x := x) (c := c) h2 h3 (hC k0 c hc) hc5
    exact ⟨by omega, ⟨this.fit, this.rng, this.deep, by have := this.size; omega, this.kind⟩, .inr (.inr (.inr rfl))⟩
  · refine ⟨h1, h2, ?_⟩
    rcases h3 with h | h | h
    · exact .inl h
    · exact .inr (.inl h)
    · exact .inr (.inr (.inl h))
theorem cat_good {n d i : Nat} (hd : d ≤ 200) (hC : CountsOk T) (hg : AltGood T size n) : ∀ (f q : Nat) (l L : List Tree) (J : Nat), i ≤ q → q ≤ T.length → T.length - q ≤ n → 
    (∃ z, RowOk l (200 - d) z itemK ∧ z + 2 * l.length ≤ 4 * (q - i)) → catLoop T size (altF T size n) d f l q = .ok L J → i ≤ J ∧ ∃ z, RowOk L (200 - d) z itemK ∧ z + 2 * L.length ≤ 4 * (J - i) := by
  intro f
  induction f with
  | zero =>
    intro q l L J hiq hq hn hz hc
    unfold catLoop at hc
    injection hc with h1 h2
    subst h1
    subst h2
    exact ⟨hiq, hz⟩
  | succ f ih =>
    intro q l L J hiq hq hn hz hc
    unfold catLoop at hc
    cases hx : T[q]? with
    | none =>
      rw [hx] at hc
      injection hc with h1 h2
      subst h1
      subst h2
      exact ⟨hiq, hz⟩
    | some x =>
      rw [hx] at hc
      simp only [] at hc
      have hql := (List.getElem?_eq_some_iff.1 hx).1
      by_cases hk : x.1.kind = 4 ∨ x.1.kind = 3
      · rw [if_pos hk] at hc
        injection hc with h1 h2
        subst h1
        subst h2
        exact ⟨hiq, hz⟩
      · rw [if_neg hk] at hc
        cases hi : itemW T size (altF T size n) d q x with
        | err p e => rw [hi] at hc; cases hc
        | ok t k =>
          rw [hi] at hc
          simp only [] at hc
          obtain ⟨h1, h2, h3⟩ := itemW_good hd hC hg hi hql hn
          obtain ⟨z, hr, hzz⟩ := hz
          have hrec : EvenA T (q + 1) (altF T size n (d + 1) (q + 1)) := altF_even n (d + 1) (q + 1) (by omega) (by omega)
          have he := item_even (size := size) hx (fun h => hk (.inr h)) (fun h => hk (.inl h)) hrec
          rw [hi] at he
          exact ih k (l ++ [t]) L J (by omega) he.2.1 (by omega) ⟨_, hr.snoc h2 h3, by simp; omega⟩ hc
theorem catW_good {n d i j : Nat} {t : Tree} (hd : d ≤ 200) (hC : CountsOk T) (hg : AltGood T size n) (hi : i ≤ T.length) (hn : T.length - i ≤ n) (h : catW T size (altF T size n) d i = .ok t j) : i ≤ j ∧ TreeOk t (200 - d) (4 * (j - i) + 1) ∧ catK t.kind := by
  unfold catW at h
  cases hc : catLoop T size (altF T size n) d (T.length + 1 - i) [] i with
  | err p e => rw [hc] at h; cases h
  | ok L J =>
    rw [hc] at h
    obtain ⟨hij, z, hr, hz⟩ := cat_good hd hC hg _ i [] L J (Nat.le_refl _) hi hn ⟨0, RowOk.nil _ _ _, by simp⟩ hc
    cases L with
    | nil =>
      simp only [catEnd] at h
      injection h with h1 h2
      subst h1
      subst h2
      have := empty_ok (fromAt T size i) (200 - d)
      exact ⟨hij, ⟨this.fit, this.rng, this.deep, by have := this.size; omega, this.kind⟩, .inl rfl⟩
    | cons a L =>
      simp only [catEnd] at h
      injection h with h1 h2
      subst h1
      subst h2
      simp only [List.length_cons] at hz
      have := many_ok (k := 4) hr (by simp) (.inl rfl) (fun x hx => by unfold itemK at hx; omega) (fun x hx => ⟨fun _ => by
        unfold itemK at hx
        simp only [List.contains_cons, List.contains_nil, Bool.or_false, Bool.or_eq_false_iff, beq_eq_false_iff_ne]
        omega, fun h => by omega⟩)
      refine ⟨hij, ⟨this.1.fit, this.1.rng, this.1.deep, by have := this.1.size; omega, this.1.kind⟩, ?_⟩
      unfold catK
      rcases this.2 with h | h
      · unfold itemK at h
        omega
      · omega
theorem alt_good {n d i : Nat} (hd : d ≤ 200) (hC : CountsOk T) (hg : AltGood T size n) : ∀ (f q : Nat) (l L : List Tree) (J : Nat), i ≤ q → q ≤ T.length → T.length - q ≤ n → 0 < l.length →
    (∃ z, RowOk l (200 - d) z catK ∧ z + 3 * l.length ≤ 4 * (q - i) + 4) → altLoop T size (altF T size n) d f l q = .ok L J → i ≤ J ∧ 0 < L.length ∧ ∃ z, RowOk L (200 - d) z catK ∧ z + 3 * L.length ≤ 4 * (J - i) + 4 := by
  intro f
  induction f with
  | zero =>
    intro q l L J hiq hq hn hl hz hc
    unfold altLoop at hc
    injection hc with h1 h2
    subst h1
    subst h2
    exact ⟨hiq, hl, hz⟩
  | succ f ih =>
    intro q l L J hiq hq hn hl hz hc
    unfold altLoop at hc
    by_cases hk : kindAt T q = some 4
    · rw [if_pos hk] at hc
      have hql : q < T.length := by
        unfold kindAt at hk
        cases hx : T[q]? with
        | none => rw [hx] at hk; cases hk
        | some x => exact (List.getElem?_eq_some_iff.1 hx).1
      cases hcw : catW T size (altF T size n) d (q + 1) with
      | err p e => rw [hcw] at hc; cases hc
      | ok t k =>
        rw [hcw] at hc
        simp only [] at hc
        obtain ⟨h1, h2, h3⟩ := catW_good hd hC hg (by omega) (by omega) hcw
        obtain ⟨z, hr, hzz⟩ := hz
        have he := catW_even (T := T) (size := size) (rec := altF T size n) (d := d) (i := q + 1) (by omega) (fun k h1 h2 => altF_even n (d + 1) (k + 1) h2 (by omega))
        rw [hcw] at he
        exact ih k (l ++ [t]) L J (by omega) he.1 (by omega) (by simp) ⟨_, hr.snoc h2 h3, by simp; omega⟩ hc
    · rw [if_neg hk] at hc
      injection hc with h1 h2
      subst h1
      subst h2
      exact ⟨hiq, hl, hz⟩
theorem altF_good (hC : CountsOk T) : ∀ n, AltGood T size n := by
  intro n
  induction n with
  | zero => intro d i j t hd h hi hn; omega
  | succ n ih =>
    intro d i j t hd h hi hn
    change altW T size (altF T size n) d i = .ok t j at h
    unfold altW at h
    cases hcw : catW T size (altF T size n) d i with
    | err p e => rw [hcw] at h; cases h
    | ok t0 k =>
      rw [hcw] at h
      simp only [] at h
      obtain ⟨h1, h2, h3⟩ := catW_good hd hC ih hi (by omega) hcw
      have he := catW_even (T := T) (size := size) (rec := altF T size n) (d := d) hi (fun k h1 h2 => altF_even n (d + 1) (k + 1) h2 (by omega))
      rw [hcw] at he
      cases ha : altLoop T size (altF T size n) d (T.length + 1 - k) [t0] k with
      | err p e => rw [ha] at h; cases h
      | ok L j' =>
        rw [ha] at h
        simp only [altEnd] at h
        injection h with e1 e2
        subst e1
        subst e2
        have hr0 : RowOk [t0] (200 - d) (4 * (k - i) + 1) catK := by
          have := (RowOk.nil (200 - d) 0 catK).snoc h2 h3
          simpa using this
        obtain ⟨g1, g2, z, hr, hz⟩ := alt_good hd hC ih _ k [t0] L j' h1 he.1 (by omega) (by simp) ⟨_, hr0, by simp only [List.length_singleton]; omega⟩ ha
        have := many_ok (k := 5) hr g2 (.inr rfl) (fun x hx => by unfold catK at hx; omega) (fun x hx => ⟨fun h => by omega, fun _ => by
          unfold catK at hx
          simp only [List.contains_cons, List.contains_nil, Bool.or_false, beq_eq_false_iff_ne]
          omega⟩)
        exact ⟨g1, ⟨this.1.fit, this.1.rng, this.1.deep, by have := this.1.size; omega, this.1.kind⟩⟩
theorem tree_good (hC : CountsOk T) {t : Tree} {j : Nat} (h : treeM T size = .ok t j) : TreeOk t 200 (4 * T.length + 5) := by
  unfold treeM at h
  cases ha : altF T size (T.length + 1) 0 0 with
  | err p e => rw [ha] at h; cases h
  | ok t' j' =>
    rw [ha] at h
    simp only [] at h
    have he := altF_even (T := T) (size := size) (T.length + 1) 0 0 (Nat.zero_le _) (by omega)
    rw [ha] at he
    have := altF_good (size := size) hC (T.length + 1) 0 0 j' t' (by omega) ha (Nat.zero_le _) (by omega)
    cases hx : T[j']? with
    | some x => rw [hx] at h; cases h
    | none =>
      rw [hx] at h
      simp only [] at h
      injection h with h1 h2
      subst h1
      have h3 := he.2.1
      exact ⟨this.2.fit, this.2.rng, this.2.deep, by have := this.2.size; omega, this.2.kind⟩
end
theorem lazy_count {t : List Nat} {lo : Nat} {hi : Int} {i : Nat} {x : Tok} {j : Nat} (h : lazyM t lo hi i = .ok x j) (h1 : lo ≤ 1000) (h2 : hi = -1 ∨ (((lo : Nat) : Int) ≤ hi ∧ hi ≤ 1000)) : CountOk x := by
  unfold lazyM at h
  by_cases h3 : t[i]? = some 63
  · simp only [h3, if_true] at h
    split at h
    · cases h
    · injection h with h; subst h; exact fun _ => ⟨h1, h2⟩
  · simp only [h3, if_false] at h
    split at h
    · cases h
    · injection h with h; subst h; exact fun _ => ⟨h1, h2⟩
theorem set_count {r : Res (Nat → Bool)} {x : Tok} {j : Nat} (h : setRes r = .ok x j) : CountOk x := by
  cases r with
  | err k e => cases h
  | ok m k => injection h with h; subst h; exact fun h => by cases h
theorem number_le {t : List Nat} {i n j : Nat} (h : numberM t i = .ok n j) : n ≤ 1000 := by
  unfold numberM at h
  cases hd : digitAt t i with
  | none => rw [hd] at h; cases h
  | some d =>
    rw [hd] at h
    simp only [] at h
    split at h
    · cases h
    · injection h with h _; omega
theorem braces_count {t : List Nat} {i lo j : Nat} {hi : Option Nat} (h : bracesM t i = .ok (lo, hi) j) : lo ≤ 1000 ∧ (hiZ hi = -1 ∨ (((lo : Nat) : Int) ≤ hiZ hi ∧ hiZ hi ≤ 1000)) := by
  unfold bracesM at h
  cases hn : numberM t i with
  | err k e => rw [hn] at h; cases h
  | ok a k =>
    rw [hn] at h
    have ha := number_le hn
    simp only [] at h
    split at h
    · split at h
      · injection h with h _
        injection h with h1 h2
        subst h1
        subst h2
        exact ⟨ha, .inl rfl⟩
      · cases hn2 : numberM t (k + 1) with
        | err k e => rw [hn2] at h; cases h
        | ok b k2 =>
          rw [hn2] at h
          have hb := number_le hn2
          simp only [] at h
          split at h
          · cases h
          · split at h
            · injection h with h _
              injection h with h1 h2
              subst h1
              subst h2
              exact ⟨ha, .inr ⟨by simp only [hiZ]; omega, by simp only [hiZ]; omega⟩⟩
            · cases h
    · split at h
      · injection h with h _
        injection h with h1 h2
        subst h1
        subst h2
        exact ⟨ha, .inr ⟨by simp only [hiZ]; omega, by simp only [hiZ]; omega⟩⟩
      · cases h
theorem tok_count {t : List Nat} {i : Nat} {x : Tok} {j : Nat} (h : tokM t i = .ok x j) : CountOk x := by
  have hK : ∀ (k : Nat) (j' : Nat), k ≠ 5 → (Res.ok (kindTok k) j' : Res Tok) = .ok x j → CountOk x := fun k j' hk h => by
    injection h with h
    subst h
    exact fun h => absurd h hk
  have hS : ∀ (m : Nat → Bool) (j' : Nat), (Res.ok (setTok m) j' : Res Tok) = .ok x j → CountOk x := fun m j' h => by
    injection h with h
    subst h
    exact fun h => by cases h
  unfold tokM at h
  cases hc : t[i]? with
  | none => rw [hc] at h; cases h
  | some c =>
    rw [hc] at h
    dsimp only at h
    by_cases h0 : c = 92
    · rw [if_pos h0] at h; exact set_count h
    rw [if_neg h0] at h
    by_cases h1 : c = 91
    · rw [if_pos h1] at h; exact set_count h
    rw [if_neg h1] at h
    by_cases h2 : c = 40
    · rw [if_pos h2] at h
      unfold groupM at h
      split at h
      · split at h
        · exact hK 2 _ (by decide) h
        · cases h
      · exact hK 1 _ (by decide) h
    rw [if_neg h2] at h
    by_cases h3 : c = 41
    · rw [if_pos h3] at h; exact hK 3 _ (by decide) h
    rw [if_neg h3] at h
    by_cases h4 : c = 124
    · rw [if_pos h4] at h; exact hK 4 _ (by decide) h
    rw [if_neg h4] at h
    by_cases h5 : c = 46
    · rw [if_pos h5] at h; exact hS _ _ h
    rw [if_neg h5] at h
    by_cases h6 : c = 42
    · rw [if_pos h6] at h; exact lazy_count h (by omega) (.inl rfl)
    rw [if_neg h6] at h
    by_cases h7 : c = 43
    · rw [if_pos h7] at h; exact lazy_count h (by omega) (.inl rfl)
    rw [if_neg h7] at h
    by_cases h8 : c = 63
    · rw [if_pos h8] at h; exact lazy_count h (by omega) (.inr ⟨by omega, by omega⟩)
    rw [if_neg h8] at h
    by_cases h9 : c = 123
    · rw [if_pos h9] at h
      cases hb : bracesM t (i + 1) with
      | err k e => rw [hb] at h; cases h
      | ok p k =>
        rw [hb] at h
        obtain ⟨lo, hi⟩ := p
        have hbc := braces_count hb
        exact lazy_count h hbc.1 hbc.2
    rw [if_neg h9] at h
    by_cases ha : c = 94 ∨ c = 36
    · rw [if_pos ha] at h; cases h
    rw [if_neg ha] at h
    by_cases hb : loneL.contains c = true
    · rw [if_pos hb] at h; cases h
    rw [if_neg hb] at h
    exact hS _ _ h
theorem scanLoop_count {t : List Nat} : ∀ (f i : Nat) (l L : List Tk) (n : Nat), (∀ y ∈ l, CountOk y.1) → scanLoop t f i l = .ok L n → ∀ y ∈ L, CountOk y.1 := by
  intro f
  induction f with
  | zero => intro i l L n hl h; unfold scanLoop at h; injection h with h; subst h; exact hl
  | succ f ih =>
    intro i l L n hl h
    unfold scanLoop at h
    split at h
    · cases hk : tokM t i with
      | err j e => rw [hk] at h; cases h
      | ok x j =>
        rw [hk] at h
        refine ih j _ L n (fun y hy => ?_) h
        rcases List.mem_append.1 hy with hy | hy
        · exact hl y hy
        · obtain rfl := List.mem_singleton.1 hy
          exact tok_count hk
    · injection h with h; subst h; exact hl
theorem scan_counts {t : List Nat} {L : List Tk} {n : Nat} (h : scanM t = .ok L n) : CountsOk L := fun _ x hx => scanLoop_count _ _ _ _ _ (fun y hy => by cases hy) h x (List.mem_of_getElem? hx)
/-- What a pattern is read as. -/
theorem parse_good {s : ByteArray} {t : Tree} {j : Nat} (h : parseM s = .ok t j) : TreeOk t 200 (4 * s.size + 5) := by
  unfold parseM at h
  cases hs : scanM (bytesN s) with
  | err k e => rw [hs] at h; cases h
  | ok L m =>
    rw [hs] at h
    have := tree_good (scan_counts hs) h
    have hl := scan_len hs
    rw [bytesN_length] at hl
    exact ⟨this.fit, this.rng, this.deep, by have := this.size; omega, this.kind⟩
end Go.Proofs.YtckoebfmoggeoaaDoor
/- The reference of layer 6: Size, Count, Deep. -/
namespace Go.Proofs.YtckoebfmoggeoaaDoor
set_option maxRecDepth 100000
open Go.RowKit
mutual
def countT (k : Int) : Tree → Nat
  | .mk kind _ _ _ _ kids _ _ => (if kind = k then 1 else 0) + countL k kids
def countL (k : Int) : List Tree → Nat
  | [] => 0
  | n :: l => countT k n + countL k l
end
theorem countL_snoc (k : Int) (l : List Tree) (n : Tree) : countL k (l ++ [n]) = countL k l + countT k n := by
  induction l with
  | nil => simp [countL]
  | cons m l ih => simp only [List.cons_append, countL, ih]; omega
theorem sizeL_take {l : List Tree} {i : Nat} (h : i < l.length) : sizeL (l.take (i + 1)) = sizeL (l.take i) + sizeT l[i] := by rw [List.take_succ_eq_append_getElem h, sizeL_snoc]
theorem countL_take (k : Int) {l : List Tree} {i : Nat} (h : i < l.length) : countL k (l.take (i + 1)) = countL k (l.take i) + countT k l[i] := by rw [List.take_succ_eq_append_getElem h, countL_snoc]
theorem sizeL_mem {l : List Tree} {n : Tree} (h : n ∈ l) : sizeT n ≤ sizeL l := by
  induction l with
  | nil => cases h
  | cons m l ih =>
    simp only [sizeL]
    rcases List.mem_cons.1 h with rfl | h
    · omega
    · have := ih h; omega
theorem sizeL_le {l : List Tree} (k : Nat) : sizeL (l.take k) ≤ sizeL l := by
  induction l generalizing k with
  | nil => simp
  | cons m l ih =>
    cases k with
    | zero => simp [sizeL]
    | succ k => simp only [List.take_succ_cons, sizeL]; have := ih k; omega
mutual
theorem count_size (k : Int) : ∀ t : Tree, countT k t ≤ sizeT t
  | .mk kind _ _ _ _ kids _ _ => by
    have := count_sizeL k kids
    simp only [countT, sizeT]
    split <;> omega
theorem count_sizeL (k : Int) : ∀ l : List Tree, countL k l ≤ sizeL l
  | [] => by simp [countL]
  | n :: l => by
    have := count_size k n
    have := count_sizeL k l
    simp only [countL, sizeL]
    omega
end
/-- A part, as it lies at a later time. -/
theorem ref_kid {w wr : World} {ga i : Nat} {cs : List Value} {S : Nat → Prop} {n : Tree} (hc : ∀ (j : Nat) (v : Value), cs[j]? = some v → w.cell? ⟨ga, i * 11 + j, none⟩ = some v) (ht : RefT w S n cs) (hb : Below w.heap.size w wr) :
    ∃ A c, cs = nodeL n.kind n.set n.lo n.hi n.lazy (.slice A n.kids.length c) n.f n.t ∧ ga < w.heap.size ∧
    (wr.cell? ⟨ga, i * 11, none⟩ = some (.int .i64 n.kind) ∧ wr.cell? ⟨ga, i * 11 + 1, none⟩ = some (.int .u64 (word n.set 0)) ∧ wr.cell? ⟨ga, i * 11 + 2, none⟩ = some (.int .u64 (word n.set 1)) ∧ wr.cell? ⟨ga, i * 11 + 3, none⟩ = some (.int .u64 (word n.set 2)) ∧ wr.cell? ⟨ga, i * 11 + 4, none⟩ = some (.int .u64 (word n.set 3)) ∧
      wr.cell? ⟨ga, i * 11 + 5, none⟩ = some (.int .i64 n.lo) ∧ wr.cell? ⟨ga, i * 11 + 6, none⟩ = some (.int .i64 n.hi) ∧ wr.cell? ⟨ga, i * 11 + 7, none⟩ = some (.bool n.lazy) ∧ wr.cell? ⟨ga, i * 11 + 8, none⟩ = some (.slice A n.kids.length c) ∧ wr.cell? ⟨ga, i * 11 + 9, none⟩ = some (.int .i64 ((n.f : Nat) : Int)) ∧ wr.cell? ⟨ga, i * 11 + 10, none⟩ = some (.int .i64 ((n.t : Nat) : Int))) := by
  obtain ⟨A, c, rfl, -, -⟩ := ht.node
  have hlt := cell_lt0 (hc 0 _ rfl)
  have hb' : ∀ j, wr.cell? ⟨ga, i * 11 + j, none⟩ = w.cell? ⟨ga, i * 11 + j, none⟩ := fun j => hb.cell (p := ⟨ga, i * 11 + j, none⟩) hlt
  exact ⟨A, c, rfl, hlt, (hb' 0).trans (hc 0 _ rfl), (hb' 1).trans (hc 1 _ rfl), (hb' 2).trans (hc 2 _ rfl), (hb' 3).trans (hc 3 _ rfl), (hb' 4).trans (hc 4 _ rfl), (hb' 5).trans (hc 5 _ rfl), (hb' 6).trans (hc 6 _ rfl), (hb' 7).trans (hc 7 _ rfl), (hb' 8).trans (hc 8 _ rfl), (hb' 9).trans (hc 9 _ rfl), (hb' 10).trans (hc 10 _ rfl)⟩
set_option maxHeartbeats 4000000 in
theorem rsize_at {w : World} {S : Nat → Prop} {n : Tree} {cs : List Value} (h : RefT w S n cs) (hz : sizeT n ≤ 1000000) : ∀ w', Below w.heap.size w w' →
    Calls Tryd.prog 17 #[.agg cs.toArray] w' fun v w'' => v = .returned (.int .i64 ((sizeT n : Nat) : Int)) ∧ Below w'.heap.size w' w'' := by
  induction h with
  | @mk k set lo hi lazy kids f t ga c A css hl hm hA hc hk ih =>
    intro w' hw
    simp only [sizeT] at hz
    have HZ := Lib.hid (show sizeT (.mk k set lo hi lazy kids f t) = 1 + sizeL kids by simp only [sizeT])
    have st := (St.nil w').alloc rfl (nodeL k set lo hi lazy (.slice A kids.length c) f t) 32
    have HC := Lib.hid hc
    have HK := Lib.hid hk
    have HI := Lib.hid ih
    have HA := Lib.hid hA
    have HW := Lib.hid hw
    clear hc hk ih hA hw
    rename World => w'
    go_enter Tryd.func17, Tryd.ntmps17
    go_upto_region 1 with fail
    generalize w'.alloc _ = w1 at *
    go_wp2_with fail
    go_loopw [3, 4] (fun sv iv wr => ∃ i : Nat, i ≤ kids.length ∧ iv = .int .i64 ((i : Nat) : Int) ∧ sv = .int .i64 ((1 + sizeL (kids.take i) : Nat) : Int) ∧ St w' wr [(w'.heap.size, 32, nodeL k set lo hi lazy (.slice A kids.length c) f t)]) (fun _ iv _ => kids.length - (intOf iv).toNat)
    case atStart => exact ⟨0, Nat.zero_le _, rfl, by simp [sizeL], st⟩
    case round =>
      clear st
      obtain ⟨i, hik, rfl, rfl, st⟩ := hrel
      have b8 : wr.cell? ⟨w'.heap.size, 8, none⟩ = some (.slice A kids.length c) := (st.get 0 rfl).cell 8
      have HST := Lib.hid st
      have hle := sizeL_le (l := kids) i
      clear st
      by_cases hlt : i < kids.length
      · have hne : kids ≠ [] := by intro e; rw [e] at hlt; exact absurd hlt (Nat.not_lt_zero _)
        have hci : i < css.length := by omega
        have hcs := List.getElem?_eq_getElem hci
        have hki := List.getElem?_eq_getElem hlt
        obtain ⟨rfl, -⟩ := HA.out hne
        have hb := HW.out.trans (HST.out.below.mono HW.out.size)
        obtain ⟨A2, c2, hcs2, hgl, q0, q1, q2, q3, q4, q5, q6, q7, q8, q9, q10⟩ := ref_kid (HC.out i _ hcs) (HK.out i _ _ hki hcs) hb
        have hsm := sizeL_mem (List.getElem_mem hlt)
        have HCALL := Lib.hid (by have := HI.out i _ _ hki hcs (by omega) wr hb; rwa [hcs2] at this)
        have HT := Lib.hid (sizeL_take hlt)
        clear hcs hki hcs2 hb hgl
        generalize kids[i] = n at *
        go_wp2_with fail
        refine HCALL.out.mono ?_
        rintro v w2 ⟨rfl, hb2⟩
        have hst2 := HST.out.below' hb2
        have hle2 := sizeL_le (l := kids) (i + 1)
        rw [HT.out] at hle2
        clear b8 q0 q1 q2 q3 q4 q5 q6 q7 q8 q9 q10 hb2
        go_wp2_with fail
        go_roundw
        case rel => exact ⟨i + 1, by omega, by go_num, by rw [HT.out]; go_num, hst2⟩
        case measure => simp [intOf]; omega
      · obtain rfl : i = kids.length := by omega
        go_wp2
        go_returns
        exact ⟨by rw [HZ.out, List.take_length]; rfl, HST.out.below⟩
set_option maxHeartbeats 4000000 in
theorem rcount_at {w : World} {S : Nat → Prop} {n : Tree} {cs : List Value} (h : RefT w S n cs) (hz : sizeT n ≤ 1000000) : ∀ w', Below w.heap.size w w' →
    Calls Tryd.prog 19 #[.agg cs.toArray, .int .i64 2] w' fun v w'' => v = .returned (.int .i64 ((countT 2 n : Nat) : Int)) ∧ Below w'.heap.size w' w'' := by
  induction h with
  | @mk k set lo hi lazy kids f t ga c A css hl hm hA hc hk ih =>
    intro w' hw
    simp only [sizeT] at hz
    have HZ := Lib.hid (show countT 2 (.mk k set lo hi lazy kids f t) = (if k = 2 then 1 else 0) + countL 2 kids by simp only [countT])
    have st := (St.nil w').alloc rfl (nodeL k set lo hi lazy (.slice A kids.length c) f t) 32
    have HC := Lib.hid hc
    have HK := Lib.hid hk
    have HI := Lib.hid ih
    have HA := Lib.hid hA
    have HW := Lib.hid hw
    clear hc hk ih hA hw
    rename World => w'
    obtain ⟨k2, hk2⟩ : ∃ k2 : Nat, k2 = if k = 2 then 1 else 0 := ⟨_, rfl⟩
    have hk21 : k2 ≤ 1 := by rw [hk2]; split <;> omega
    have HK2 := Lib.hid hk2
    clear hk2
    go_enter Tryd.func19, Tryd.ntmps19
    go_upto_region 1 with fail
    have b0 : (w'.alloc (.cells (nodeL k set lo hi lazy (.slice A kids.length c) f t).toArray 32)).cell? ⟨w'.heap.size, 0, none⟩ = some (.int .i64 k) := (st.get 0 rfl).cell 0
    generalize w'.alloc _ = w1 at *
    go_upto_if 10 with fail
    go_cut [5] (fun sv wx => sv = .int .i64 ((k2 : Nat) : Int) ∧ w1 = wx)
    case first =>
      by_cases hk2 : k = 2
      · have e2 : (k == 2) = true := by rw [hk2]; rfl
        have e3 : k2 = 1 := by rw [HK2.out, if_pos hk2]
        clear hk2
        subst e3
        go_wp2_with fail
        go_meet
        case rel => exact ⟨rfl, rfl⟩
      · have e2 : (k == 2) = false := by rw [beq_eq_false_iff_ne]; exact hk2
        have e3 : k2 = 0 := by rw [HK2.out, if_neg hk2]
        subst e3
        go_wp2_with fail
        go_meet
        case rel => exact ⟨rfl, rfl⟩
    case rest =>
      obtain ⟨rfl, rfl⟩ := hcut
      clear b0
      go_wp2_with fail
      go_loopw [5, 6] (fun sv iv wr => ∃ i : Nat, i ≤ kids.length ∧ iv = .int .i64 ((i : Nat) : Int) ∧ sv = .int .i64 ((k2 + countL 2 (kids.take i) : Nat) : Int) ∧ St w' wr [(w'.heap.size, 32, nodeL k set lo hi lazy (.slice A kids.length c) f t)]) (fun _ iv _ => kids.length - (intOf iv).toNat)
      case atStart => exact ⟨0, Nat.zero_le _, rfl, by simp [countL], st⟩
      case round =>
        clear st
        obtain ⟨i, hik, rfl, rfl, st⟩ := hrel
        have b8 : wr.cell? ⟨w'.heap.size, 8, none⟩ = some (.slice A kids.length c) := (st.get 0 rfl).cell 8
        have HST := Lib.hid st
        have hle := sizeL_le (l := kids) i
        have hcl := count_sizeL 2 (kids.take i)
        clear st
        by_cases hlt : i < kids.length
        · have hne : kids ≠ [] := by intro e; rw [e] at hlt; exact absurd hlt (Nat.not_lt_zero _)
          have hci : i < css.length := by omega
          have hcs := List.getElem?_eq_getElem hci
          have hki := List.getElem?_eq_getElem hlt
          obtain ⟨rfl, -⟩ := HA.out hne
          have hb := HW.out.trans (HST.out.below.mono HW.out.size)
          obtain ⟨A2, c2, hcs2, hgl, q0, q1, q2, q3, q4, q5, q6, q7, q8, q9, q10⟩ := ref_kid (HC.out i _ hcs) (HK.out i _ _ hki hcs) hb
          have hsm := sizeL_mem (List.getElem_mem hlt)
          have HCALL := Lib.hid (by have := HI.out i _ _ hki hcs (by omega) wr hb; rwa [hcs2] at this)
          have HT := Lib.hid (countL_take 2 hlt)
          have hcn := count_size 2 kids[i]
          clear hcs hki hcs2 hb hgl
          generalize kids[i] = n at *
          go_wp2_with fail
          refine HCALL.out.mono ?_
          rintro v w2 ⟨rfl, hb2⟩
          have hst2 := HST.out.below' hb2
          clear b8 q0 q1 q2 q3 q4 q5 q6 q7 q8 q9 q10 hb2
          go_wp2_with fail
          go_roundw
          case rel => exact ⟨i + 1, by omega, by go_num, by rw [HT.out]; go_num, hst2⟩
          case measure => simp [intOf]; omega
        · obtain rfl : i = kids.length := by omega
          go_wp2
          go_returns
          exact ⟨by rw [HZ.out, ← HK2.out, List.take_length]; rfl, HST.out.below⟩
set_option maxHeartbeats 4000000 in
theorem rdeep_at {w : World} {S : Nat → Prop} {n : Tree} {cs : List Value} (h : RefT w S n cs) (hz : deepT n ≤ 1000000) : ∀ w', Below w.heap.size w w' →
    Calls Tryd.prog 21 #[.agg cs.toArray] w' fun v w'' => v = .returned (.int .i64 ((deepT n : Nat) : Int)) ∧ Below w'.heap.size w' w'' := by
  induction h with
  | @mk k set lo hi lazy kids f t ga c A css hl hm hA hc hk ih =>
    intro w' hw
    have HZ := Lib.hid (deepT_mk k set lo hi lazy kids f t)
    have hz2 : deepL kids ≤ 1000000 := by
      have := HZ.out
      split at this <;> omega
    have st := (St.nil w').alloc rfl (nodeL k set lo hi lazy (.slice A kids.length c) f t) 32
    have HC := Lib.hid hc
    have HK := Lib.hid hk
    have HI := Lib.hid ih
    have HA := Lib.hid hA
    have HW := Lib.hid hw
    clear hc hk ih hA hw hz
    rename World => w'
    go_enter Tryd.func21, Tryd.ntmps21
    go_upto_region 1 with fail
    generalize w'.alloc _ = w1 at *
    go_wp2_with fail
    go_loopw [3, 4] (fun sv iv wr => ∃ i : Nat, i ≤ kids.length ∧ iv = .int .i64 ((i : Nat) : Int) ∧ sv = .int .i64 ((deepL (kids.take i) : Nat) : Int) ∧ St w' wr [(w'.heap.size, 32, nodeL k set lo hi lazy (.slice A kids.length c) f t)]) (fun _ iv _ => kids.length - (intOf iv).toNat)
    case atStart => exact ⟨0, Nat.zero_le _, rfl, by simp [deepL], st⟩
    case round =>
      clear st
      obtain ⟨i, hik, rfl, rfl, st⟩ := hrel
      have b8 : wr.cell? ⟨w'.heap.size, 8, none⟩ = some (.slice A kids.length c) := (st.get 0 rfl).cell 8
      have b0 : wr.cell? ⟨w'.heap.size, 0, none⟩ = some (.int .i64 k) := (st.get 0 rfl).cell 0
      have HST := Lib.hid st
      have hle := deepL_le (l := kids) i
      clear st
      by_cases hlt : i < kids.length
      · have hne : kids ≠ [] := by intro e; rw [e] at hlt; exact absurd hlt (Nat.not_lt_zero _)
        have hci : i < css.length := by omega
        have hcs := List.getElem?_eq_getElem hci
        have hki := List.getElem?_eq_getElem hlt
        obtain ⟨rfl, -⟩ := HA.out hne
        have hb := HW.out.trans (HST.out.below.mono HW.out.size)
        obtain ⟨A2, c2, hcs2, hgl, q0, q1, q2, q3, q4, q5, q6, q7, q8, q9, q10⟩ := ref_kid (HC.out i _ hcs) (HK.out i _ _ hki hcs) hb
        have hsm := deepL_mem (List.getElem_mem hlt)
        have HCALL := Lib.hid (by have := HI.out i _ _ hki hcs (by omega) wr hb; rwa [hcs2] at this)
        have HT := Lib.hid (deepL_take hlt)
        clear hcs hki hcs2 hb hgl
        generalize kids[i] = n at *
        go_wp2_with fail
        refine HCALL.out.mono ?_
        rintro v w2 ⟨rfl, hb2⟩
        have hst2 := HST.out.below' hb2
        clear b8 b0 q0 q1 q2 q3 q4 q5 q6 q7 q8 q9 q10 hb2
        go_wp2_with fail
        go_roundw
        case rel => exact ⟨i + 1, by omega, by go_num, by rw [HT.out]; go_num, hst2⟩
        case measure => simp [intOf]; omega
      · obtain rfl : i = kids.length := by omega
        rw [List.take_length] at *
        have HTL := Lib.hid (List.take_length (l := kids))
        cases hk2 : (k == 2)
        · cases hk3 : (k == 3)
          · have HG := Lib.hid (show grpB k = false by
              unfold grpB
              rw [decide_eq_false_iff_not]
              rw [beq_eq_false_iff_ne] at hk2 hk3
              omega)
            go_wp2
            go_returns
            exact ⟨by rw [HZ.out, HG.out]; rfl, HST.out.below⟩
          · have HG := Lib.hid (show grpB k = true by
              unfold grpB
              rw [decide_eq_true_eq]
              have := eq_of_beq hk3
              omega)
            go_wp2
            go_returns
            exact ⟨by rw [HZ.out, HG.out]; rfl, HST.out.below⟩
        · have HG := Lib.hid (show grpB k = true by
            unfold grpB
            rw [decide_eq_true_eq]
            have := eq_of_beq hk2
            omega)
          go_wp2
          go_returns
          exact ⟨by rw [HZ.out, HG.out]; rfl, HST.out.below⟩
end Go.Proofs.YtckoebfmoggeoaaDoor
/- The reference of layer 6: Sets. -/
namespace Go.Proofs.YtckoebfmoggeoaaDoor
set_option maxRecDepth 100000
open Go.RowKit
mutual
def setsT : Tree → List (Nat → Bool)
  | .mk k set _ _ _ kids _ _ => (if k = 1 then [set] else []) ++ setsL kids
def setsL : List Tree → List (Nat → Bool)
  | [] => []
  | n :: l => setsT n ++ setsL l
end
theorem setsL_snoc (l : List Tree) (n : Tree) : setsL (l ++ [n]) = setsL l ++ setsT n := by
  induction l with
  | nil => simp [setsL]
  | cons m l ih => simp only [List.cons_append, setsL, ih, List.append_assoc]
theorem setsL_take {l : List Tree} {i : Nat} (h : i < l.length) : setsL (l.take (i + 1)) = setsL (l.take i) ++ setsT l[i] := by rw [List.take_succ_eq_append_getElem h, setsL_snoc]
mutual
theorem sets_size : ∀ t : Tree, (setsT t).length ≤ sizeT t
  | .mk k _ _ _ _ kids _ _ => by
    have := sets_sizeL kids
    simp only [setsT, sizeT, List.length_append]
    split <;> simp <;> omega
theorem sets_sizeL : ∀ l : List Tree, (setsL l).length ≤ sizeL l
  | [] => by simp [setsL]
  | n :: l => by
    have := sets_size n
    have := sets_sizeL l
    simp only [setsL, sizeL, List.length_append]
    omega
end
theorem elem_sets : Elem Tryd.prog 47 29 4 32 := by
  obtain ⟨i, hi, h0, h1, h2⟩ := info_parts (by kernel_rfl : (Tryd.prog.info? 29).map (fun i => (i.zero, i.size, i.bytes)) = some (some (.agg #[.int .u64 0, .int .u64 0, .int .u64 0, .int .u64 0]), 4, 32))
  exact ⟨i, _, Tryd.underlying47, hi, h0, h1, h2, rfl, by omega⟩
theorem one_sets (l : List (Nat → Bool)) : ∀ u ∈ setsC l, u.oneCell' = true := by
  intro u hu
  unfold setsC at hu
  obtain ⟨m, -, hm⟩ := List.mem_flatMap.1 hu
  exact one_set m u hm
theorem setsC_append (a b : List (Nat → Bool)) : setsC (a ++ b) = setsC a ++ setsC b := by simp [setsC]
/-- 'v = append(v, x...)', v and x rows of sets. -/
theorem append_rows {P : Program} {W : World} {ops : Array Oper} {rest : List Oper} {o : Oper} {a : Act} {Q : Exit → Act → World → Prop} (hgd : o.guard = none) (s x : Operand) (t : TypeId)
    (ho : o.op = .call { callee := .builtin .append, args := #[s, x], argTypes := #[t, t] }) (base : Nat) (e : TypeId) (size bytes : Nat) (he : Elem P t e size bytes)
    (v : Value) (n : Nat) (xs : List Value) (hs : a.eval s = v) (hown : W.ownsRow base e size v n xs) (u : Value) (hx : a.eval x = u) (m : Nat) (news : List Value) (base2 : Nat) (hu : W.ownsRow base2 e size u m news)
    (h1 : ∀ u ∈ news, u.oneCell' = true) (h63 : n + m ≤ 9223372036854775807) (hbytes : (n + m) * bytes ≤ 140737488355328) (hbase : base ≤ W.heap.size)
    (h : ∀ v' w', w'.ownsRow base e size v' (n + m) (xs ++ news) → Below base W w' → wpList P ops Q rest (a.put o.dst v') w') : wpList P ops Q (o :: rest) a W := by
  obtain ⟨i, z, ht, hi, hz, hsize, hby, hzs, hsz⟩ := he
  rcases own_form hu with ⟨rfl, rfl⟩ | ⟨g, cap, rfl⟩
  · have hn : news = [] := List.eq_nil_of_length_eq_zero (by have := hu.1; simpa using this)
    subst hn
    refine wpList_append_own_none hgd s x t ho base e i size ht hi v n xs hs hown hx ?_
    exact h v W (by simpa using hown) (Below.refl _ _)
  · refine wpList_append_own (w := W) hgd s x t ho base e i z size bytes ht hi hz hsize hby hzs hsz v n xs hs hown ⟨g, 0, none⟩ m cap news hx (by have := hu.1; omega) (fun j u hj => hu.cells rfl j u hj) h1 h63 hbytes hbase ?_
    intro v' w' hown' hg _
    exact h v' w' hown' ((Below.refl base W).grown hg hbase (fun k hk => (hown.lt k hk).1))
set_option maxHeartbeats 8000000 in
theorem rsets_at {w : World} {S : Nat → Prop} {n : Tree} {cs : List Value} (h : RefT w S n cs) (hz : sizeT n ≤ 1000000) : ∀ w', Below w.heap.size w w' →
    Calls Tryd.prog 13 #[.agg cs.toArray] w' fun v w'' => ∃ lv, v = .returned lv ∧ w''.ownsRow w'.heap.size 29 4 lv (setsT n).length (setsC (setsT n)) ∧ Below w'.heap.size w' w'' := by
  induction h with
  | @mk k set lo hi lazy kids f t ga c A css hl hm hA hc hk ih =>
    intro w' hw
    simp only [sizeT] at hz
    obtain ⟨l0, hl0⟩ : ∃ l0 : List (Nat → Bool), l0 = if k = 1 then [set] else [] := ⟨_, rfl⟩
    have HZ := Lib.hid (show setsT (.mk k set lo hi lazy kids f t) = l0 ++ setsL kids by simp only [setsT, hl0])
    have hl01 : l0.length ≤ 1 := by rw [hl0]; split <;> simp
    have HL0 := Lib.hid hl0
    clear hl0
    have st := (St.nil w').alloc rfl (nodeL k set lo hi lazy (.slice A kids.length c) f t) 32
    have hz1 : (w'.alloc (.cells (nodeL k set lo hi lazy (.slice A kids.length c) f t).toArray 32)).heap.size = w'.heap.size + 1 := by simp
    have HC := Lib.hid hc
    have HK := Lib.hid hk
    have HI := Lib.hid ih
    have HA := Lib.hid hA
    have HW := Lib.hid hw
    clear hc hk ih hA hw
    rename World => w'
    go_enter Tryd.func13, Tryd.ntmps13
    go_upto_region 1 with fail
    generalize w'.alloc _ = w1 at *
    have b0 : w1.cell? ⟨w'.heap.size, 0, none⟩ = some (.int .i64 k) := (st.get 0 rfl).cell 0
    have HZ1 := Lib.hid hz1
    have hbl : w'.heap.size < w1.heap.size := (st.get 0 rfl).lt
    have HST0 := Lib.hid st
    clear hz1 st
    go_upto_if 7 with fail
    go_cut [3] (fun lv wx => wx.ownsRow w1.heap.size 29 4 lv l0.length (setsC l0) ∧ Below w1.heap.size w1 wx)
    case first =>
      by_cases hk1 : k = 1
      · have e2 : (k == 1) = true := by rw [hk1]; rfl
        have e3 : l0 = [set] := by rw [HL0.out, if_pos hk1]
        have b1 : w1.cell? ⟨w'.heap.size, 1, none⟩ = some (.int .u64 (word set 0)) := (HST0.out.get 0 rfl).cell 1
        have b2 : w1.cell? ⟨w'.heap.size, 2, none⟩ = some (.int .u64 (word set 1)) := (HST0.out.get 0 rfl).cell 2
        have b3 : w1.cell? ⟨w'.heap.size, 3, none⟩ = some (.int .u64 (word set 2)) := (HST0.out.get 0 rfl).cell 3
        have b4 : w1.cell? ⟨w'.heap.size, 4, none⟩ = some (.int .u64 (word set 3)) := (HST0.out.get 0 rfl).cell 4
        clear hk1
        subst e3
        go_wp2_with (at_builtin; refine append_one rfl (.tmp 8) (.tmp 11) 47 rfl w1.heap.size 29 4 32 elem_sets _ _ _ rfl (World.ownsRow_nil _ _ _ _) (setL set) rfl rfl (one_set _) ?h1 ?h2 ?h3 ?h4; (case h1 => omega); (case h2 => omega); (case h3 => omega); intro v2 w2 hown2 hb2)
        go_meet
        case rel => exact ⟨by simpa [setsC] using hown2, hb2⟩
      · have e2 : (k == 1) = false := by rw [beq_eq_false_iff_ne]; exact hk1
        have e3 : l0 = [] := by rw [HL0.out, if_neg hk1]
        subst e3
        go_wp2_with fail
        go_meet
        case rel => exact ⟨World.ownsRow_nil _ _ _ _, Below.refl _ _⟩
    case rest =>
      rename World => w2
      obtain ⟨hown, hb2⟩ := hcut
      have HO := Lib.hid hown
      have HST2 := Lib.hid (HST0.out.below' hb2)
      have hs2 := hb2.size
      clear hown hb2 b0
      go_wp2_with fail
      go_loopw [3, 4] (fun lv iv wr => ∃ i : Nat, i ≤ kids.length ∧ iv = .int .i64 ((i : Nat) : Int) ∧ Hid (wr.ownsRow w1.heap.size 29 4 lv (l0 ++ setsL (kids.take i)).length (setsC (l0 ++ setsL (kids.take i)))) ∧ w1.heap.size ≤ wr.heap.size ∧ St w' wr [(w'.heap.size, 32, nodeL k set lo hi lazy (.slice A kids.length c) f t)]) (fun _ iv _ => kids.length - (intOf iv).toNat)
      case atStart => exact ⟨0, Nat.zero_le _, rfl, Lib.hid (by simpa [setsL] using HO.out), hs2, HST2.out⟩
      case round =>
        obtain ⟨i, hik, rfl, HOW, hs3, st⟩ := hrel
        have b8 : wr.cell? ⟨w'.heap.size, 8, none⟩ = some (.slice A kids.length c) := (st.get 0 rfl).cell 8
        have HST := Lib.hid st
        have hle := sizeL_le (l := kids) i
        have hsl := sets_sizeL (kids.take i)
        clear st
        by_cases hlt : i < kids.length
        · have hne : kids ≠ [] := by intro e; rw [e] at hlt; exact absurd hlt (Nat.not_lt_zero _)
          have hci : i < css.length := by omega
          have hcs := List.getElem?_eq_getElem hci
          have hki := List.getElem?_eq_getElem hlt
          obtain ⟨rfl, -⟩ := HA.out hne
          have hb := HW.out.trans (HST.out.below.mono HW.out.size)
          obtain ⟨A2, c2, hcs2, hgl, q0, q1, q2, q3, q4, q5, q6, q7, q8, q9, q10⟩ := ref_kid (HC.out i _ hcs) (HK.out i _ _ hki hcs) hb
          have hsm := sizeL_mem (List.getElem_mem hlt)
          have HCALL := Lib.hid (by have := HI.out i _ _ hki hcs (by omega) wr hb; rwa [hcs2] at this)
          have HT := Lib.hid (setsL_take hlt)
          have hcn := sets_size kids[i]
          clear hcs hki hcs2 hb hgl
          generalize kids[i] = n at *
          have hlen : (l0 ++ setsL (kids.take i)).length ≤ 1000001 := by rw [List.length_append]; omega
          have HLN := Lib.hid (show l0 ++ setsL (kids.take (i + 1)) = (l0 ++ setsL (kids.take i)) ++ setsT n by rw [HT.out, List.append_assoc])
          generalize l0 ++ setsL (kids.take i) = L at *
          go_wp2_with fail
          refine HCALL.out.mono ?_
          rintro v w4 ⟨lv2, rfl, hown2, hb2⟩
          have HO3 := Lib.hid (own_below HOW.out hb2)
          have HO2 := Lib.hid hown2
          have HST4 := Lib.hid (HST.out.below' hb2)
          have hs4 := hb2.size
          have hln2 : (setsT n).length ≤ 1000000 := by omega
          clear b8 q0 q1 q2 q3 q4 q5 q6 q7 q8 q9 q10 hb2 hown2
          go_wp2_with (at_builtin; refine append_rows rfl (.tmp 20) (.tmp 26) 47 rfl w1.heap.size 29 4 32 elem_sets _ _ _ rfl HO3.out lv2 rfl (setsT n).length (setsC (setsT n)) _ HO2.out (one_sets _) ?k1 ?k2 ?k3 ?k4; (case k1 => omega); (case k2 => omega); (case k3 => omega); intro v5 w5 hown5 hb5)
          have HO5 := Lib.hid hown5
          have hst5 : St w' w5 [(w'.heap.size, 32, nodeL k set lo hi lazy (.slice (some ⟨ga, 0, none⟩) kids.length c) f t)] := ⟨HST4.out.below.trans (hb5.mono (by omega)), fun e he => (HST4.out.blk e he).below hb5 (by rw [List.mem_singleton.1 he]; exact hbl), HST4.out.base, HST4.out.apart⟩
          have hs5 := hb5.size
          clear hown5 hb5
          go_roundw
          case rel => exact ⟨i + 1, by omega, by go_num, Lib.hid (by rw [HLN.out, setsC_append, List.length_append]; exact HO5.out), by omega, hst5⟩
          case measure => simp [intOf]; omega
        · obtain rfl : i = kids.length := by omega
          have HTL := Lib.hid (List.take_length (l := kids))
          go_wp2
          go_returns
          refine ⟨_, rfl, ?_, HST.out.below⟩
          have := own_base HOW.out (Nat.le_of_lt hbl)
          rw [HTL.out] at this
          rw [HZ.out]
          exact this
end Go.Proofs.YtckoebfmoggeoaaDoor
