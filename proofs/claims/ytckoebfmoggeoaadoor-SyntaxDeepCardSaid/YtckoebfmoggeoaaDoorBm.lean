/- Groups within one another: the plain part. No program in sight. -/
import Derived.Test.YtckoebfmoggeoaaDoorBk
import Derived.Test.YtckoebfmoggeoaaDoorBl
namespace Go.Proofs.YtckoebfmoggeoaaDoor
set_option maxRecDepth 100000
/-- A text again and again. -/
def repB (op : ByteArray) : Nat → ByteArray
  | 0 => { data := #[] }
  | k + 1 => repB op k ++ op
theorem bytesN_append (a b : ByteArray) : bytesN (a ++ b) = bytesN a ++ bytesN b := by simp [bytesN]
theorem repB_size (op : ByteArray) (k : Nat) : (repB op k).size = k * op.size := by
  induction k with
  | zero => simp [repB]; rfl
  | succ k ih => simp only [repB, ByteArray.size_append, ih, Nat.succ_mul]
def repN (op : List Nat) : Nat → List Nat
  | 0 => []
  | k + 1 => repN op k ++ op
theorem bytesN_rep (op : ByteArray) (k : Nat) : bytesN (repB op k) = repN (bytesN op) k := by
  induction k with
  | zero => rfl
  | succ k ih => simp only [repB, repN, bytesN_append, ih]
theorem repN_length (op : List Nat) (k : Nat) : (repN op k).length = k * op.length := by
  induction k with
  | zero => simp [repN]
  | succ k ih => simp only [repN, List.length_append, ih, Nat.succ_mul]
theorem repN_front (op : List Nat) (k : Nat) : op ++ repN op k = repN op k ++ op := by
  induction k with
  | zero => simp [repN]
  | succ k ih => simp only [repN]; rw [← List.append_assoc, ih]
theorem repN_add (op : List Nat) (i k : Nat) : repN op (i + k) = repN op i ++ repN op k := by
  induction k with
  | zero => simp [repN]
  | succ k ih => rw [← Nat.add_assoc]; simp only [repN]; rw [ih, List.append_assoc]
theorem repN_get (op rest : List Nat) {n i : Nat} (h : i < n) (r : Nat) (hr : r < op.length) : (repN op n ++ rest)[i * op.length + r]? = op[r]? := by
  obtain ⟨k, rfl⟩ : ∃ k, n = i + (k + 1) := ⟨n - i - 1, by omega⟩
  rw [repN_add, List.append_assoc, ← repN_length op i, List.getElem?_append_right (by omega), Nat.add_sub_cancel_left]
  simp only [repN]
  rw [← repN_front, List.append_assoc, List.getElem?_append_left hr]
section
variable (op : List Nat) (K n : Nat)
/-- The tokens. -/
def nestK (i : Nat) : Tk := if i < n then (kindTok K, i * op.length, i * op.length + op.length) else if i = n then (setTok (oneM 97), n * op.length, n * op.length + 1) else (kindTok 3, n * op.length + (i - n), n * op.length + (i - n) + 1)
def nestL : List Tk := (List.range (2 * n + 1)).map (nestK op K n)
def nestT : List Nat := repN op n ++ 97 :: repN [41] n
def posN (i : Nat) : Nat := if i ≤ n then i * op.length else n * op.length + (i - n)
theorem nestT_length : (nestT op n).length = n * op.length + 1 + n := by unfold nestT; simp [repN_length]; omega
/-- What a group's bracket is. -/
def Opens : Prop := 0 < op.length ∧ ∀ (t : List Nat) (i : Nat), (∀ r, r < op.length → t[i + r]? = op[r]?) → (∀ c, op.length = 1 → t[i + 1]? = some c → c ≠ 63) → tokM t i = .ok (kindTok K) (i + op.length)
theorem nest_tok (ho : Opens op K) (h97 : op.length = 1 → op = [40]) {i : Nat} (hi : i < 2 * n + 1) : tokM (nestT op n) (posN op n i) = .ok (nestK op K n i).1 (posN op n (i + 1)) ∧ (nestK op K n i).2 = (posN op n i, posN op n (i + 1)) := by
  have hget : ∀ j, n ≤ j → j < 2 * n + 1 → (nestT op n)[n * op.length + (j - n)]? = if j = n then some 97 else some 41 := by
    intro j h1 h2
    unfold nestT
    rw [← repN_length op n, List.getElem?_append_right (by omega), Nat.add_sub_cancel_left]
    by_cases hj : j = n
    · subst hj
      simp
    · rw [if_neg hj]
      obtain ⟨q, hq⟩ : ∃ q, j - n = q + 1 := ⟨j - n - 1, by omega⟩
      rw [hq, List.getElem?_cons_succ]
      have := repN_get [41] [] (n := n) (i := q) (by omega) 0 (by simp)
      simpa using this
  rcases Nat.lt_trichotomy i n with h | h | h
  · have hp : posN op n i = i * op.length := by unfold posN; rw [if_pos (by omega)]
    have hp1 : posN op n (i + 1) = i * op.length + op.length := by unfold posN; rw [if_pos (by omega), Nat.succ_mul]
    rw [hp, hp1]
    unfold nestK
    rw [if_pos h]
    refine ⟨ho.2 _ _ (fun r hr => by unfold nestT; exact repN_get op _ h r hr) (fun c h1 hc => ?_), rfl⟩
    have h40 := h97 h1
    subst h40
    rcases Nat.lt_or_ge (i + 1) n with h2 | h2
    · have := repN_get [40] (97 :: repN [41] n) (n := n) (i := i + 1) h2 0 (by simp)
      unfold nestT at hc
      simp only [List.length_cons, List.length_nil, Nat.zero_add, Nat.mul_one, Nat.add_zero] at this hc
      rw [this] at hc
      injection hc with hc
      rw [← hc]
      decide
    · obtain rfl : n = i + 1 := by omega
      have := hget (i + 1) (Nat.le_refl _) (by omega)
      simp at this
      simp at hc
      rw [this] at hc
      injection hc with hc
      rw [← hc]
      decide
  · subst h
    have hp : posN op i i = i * op.length := by unfold posN; rw [if_pos (Nat.le_refl _)]
    have hp1 : posN op i (i + 1) = i * op.length + 1 := by unfold posN; rw [if_neg (by omega)]; congr 1; omega
    have h1 := hget i (Nat.le_refl _) (by omega)
    rw [if_pos rfl, Nat.sub_self, Nat.add_zero] at h1
    rw [hp, hp1]
    unfold nestK
    rw [if_neg (by omega), if_pos rfl]
    refine ⟨?_, rfl⟩
    unfold tokM
    rw [h1]
    rfl
  · have hp : posN op n i = n * op.length + (i - n) := by unfold posN; rw [if_neg (by omega)]
    have hp1 : posN op n (i + 1) = n * op.length + (i - n) + 1 := by unfold posN; rw [if_neg (by omega)]; omega
    have h1 := hget i (by omega) hi
    rw [if_neg (by omega)] at h1
    rw [hp, hp1]
    unfold nestK
    rw [if_neg (by omega), if_neg (by omega)]
    refine ⟨?_, rfl⟩
    unfold tokM
    rw [h1]
    rfl
theorem nest_scan (ho : Opens op K) (h97 : op.length = 1 → op = [40]) : scanM (nestT op n) = .ok (nestL op K n) (nestT op n).length := by
  have key : ∀ i, i ≤ 2 * n + 1 → scanM (nestT op n) = scanFrom (nestT op n) (posN op n i) ((List.range i).map (nestK op K n)) := by
    intro i
    induction i with
    | zero => intro _; unfold posN; rw [if_pos (Nat.zero_le _), Nat.zero_mul]; rfl
    | succ i ih =>
      intro hi
      obtain ⟨h1, h2⟩ := nest_tok op K n ho h97 (i := i) (by omega)
      have hlt := (tokM_le h1).1
      have hle := (tokM_le h1).2
      rw [ih (by omega), scanFrom_next (fun _ _ _ h => (tokM_le h).1) _ (by omega), h1]
      simp only []
      rw [List.range_succ, List.map_append, List.map_singleton]
      congr 3
      rw [← h2]
  rw [key (2 * n + 1) (Nat.le_refl _)]
  have hp : posN op n (2 * n + 1) = (nestT op n).length := by
    unfold posN
    rw [if_neg (by omega), nestT_length]
    omega
  rw [hp]
  exact scanFrom_end _ (Nat.lt_irrefl _) (Nat.le_refl _)
end
end Go.Proofs.YtckoebfmoggeoaaDoor
/- Groups within one another: how they are read: 200 are taken, one more isn't. No program in sight. -/
namespace Go.Proofs.YtckoebfmoggeoaaDoor
set_option maxRecDepth 100000
section
variable {T : List Tk} {size d i j : Nat} {rec : Nat → Nat → PRes} {x y : Tk} {m : Tree}
theorem base_leaf (h : x.1.kind = 0) : baseW T size rec d i x = .ok (leafT x) (i + 1) := by unfold baseW; rw [if_pos h]
theorem base_group (h : x.1.kind = 1 ∨ x.1.kind = 2) : baseW T size rec d i x = groupW T size rec d i x := by unfold baseW; rw [if_neg (by omega), if_pos h]
theorem group_far (h : 200 ≤ d) : groupW T size rec d i x = .err x.2.1 3 := by unfold groupW; rw [if_pos h]
theorem group_err (h : ¬200 ≤ d) {p e : Nat} (hr : rec (d + 1) (i + 1) = .err p e) : groupW T size rec d i x = .err p e := by unfold groupW; rw [if_neg h, hr]
theorem group_ok (h : ¬200 ≤ d) (hr : rec (d + 1) (i + 1) = .ok m j) (hj : T[j]? = some y) (hy : y.1.kind = 3) : groupW T size rec d i x = .ok (groupT x m y.2.2) (j + 1) := by
  unfold groupW
  rw [if_neg h, hr]
  simp only []
  rw [hj]
  simp only []
  rw [if_pos hy]
theorem item_plain (hb : baseW T size rec d i x = .ok m j) (hk : kindAt T j ≠ some 5) : itemW T size rec d i x = .ok m j := by
  unfold itemW
  rw [hb]
  simp only []
  cases hT : T[j]? with
  | none => rfl
  | some y =>
    simp only []
    rw [if_neg (fun e => hk (by unfold kindAt; rw [hT]; exact congrArg some e))]
theorem item_err {p e : Nat} (hb : baseW T size rec d i x = .err p e) : itemW T size rec d i x = .err p e := by unfold itemW; rw [hb]
theorem cat_err {p e : Nat} (hx : T[i]? = some x) (h3 : x.1.kind ≠ 3) (h4 : x.1.kind ≠ 4) (hit : itemW T size rec d i x = .err p e) : altW T size rec d i = .err p e := by
  have hil := (List.getElem?_eq_some_iff.1 hx).1
  unfold altW catW
  obtain ⟨q, hq⟩ : ∃ q, T.length + 1 - i = q + 1 := ⟨T.length - i, by omega⟩
  rw [hq]
  unfold catLoop
  rw [hx]
  simp only []
  rw [if_neg (show ¬(x.1.kind = 4 ∨ x.1.kind = 3) by omega), hit]
  rfl
theorem not_five (h : kindAt T j = none ∨ kindAt T j = some 3) : kindAt T j ≠ some 5 := by
  rcases h with h | h <;> rw [h] <;> simp
end
section
variable (op : List Nat) (K n : Nat)
theorem nestL_length : (nestL op K n).length = 2 * n + 1 := by simp [nestL]
theorem nestL_get {i : Nat} (h : i < 2 * n + 1) : (nestL op K n)[i]? = some (nestK op K n i) := by
  unfold nestL
  rw [List.getElem?_map, List.getElem?_range h]
  rfl
theorem nestK_open {i : Nat} (h : i < n) : nestK op K n i = (kindTok K, i * op.length, i * op.length + op.length) := by unfold nestK; rw [if_pos h]
theorem nestK_mid : nestK op K n n = (setTok (oneM 97), n * op.length, n * op.length + 1) := by unfold nestK; rw [if_neg (by omega), if_pos rfl]
theorem nestK_close {i : Nat} (h : n < i) : nestK op K n i = (kindTok 3, n * op.length + (i - n), n * op.length + (i - n) + 1) := by unfold nestK; rw [if_neg (by omega), if_neg (by omega)]
/-- Where an item ends at a close, or at the end, an alternative is that item. -/
theorem alt_single {T : List Tk} {size : Nat} {rec : Nat → Nat → PRes} {d i j : Nat} {x : Tk} {m : Tree} (hx : T[i]? = some x) (h3 : x.1.kind ≠ 3) (h4 : x.1.kind ≠ 4) (hit : itemW T size rec d i x = .ok m j) (_hij : i < j) (hj : kindAt T j = none ∨ kindAt T j = some 3) (hil : i < T.length) (hjl : j ≤ T.length) : altW T size rec d i = .ok m j := by
  have hcl : ∀ f, 0 < f → ∀ l, catLoop T size rec d f l j = .ok l j := by
    intro f hf l
    obtain ⟨f, rfl⟩ : ∃ g, f = g + 1 := ⟨f - 1, by omega⟩
    unfold catLoop
    cases hT : T[j]? with
    | none => rfl
    | some y =>
      have hy : y.1.kind = 3 := by
        rcases hj with h | h
        · unfold kindAt at h; rw [hT] at h; cases h
        · unfold kindAt at h; rw [hT] at h; injection h
      simp only []
      rw [if_pos (.inr hy)]
  have hc : catW T size rec d i = .ok m j := by
    unfold catW
    obtain ⟨f, hf⟩ : ∃ f, T.length + 1 - i = f + 1 := ⟨T.length - i, by omega⟩
    rw [hf]
    conv => lhs; unfold catLoop
    rw [hx]
    simp only []
    rw [if_neg (show ¬(x.1.kind = 4 ∨ x.1.kind = 3) by omega), hit]
    simp only []
    rw [hcl f (by omega)]
    rfl
  unfold altW
  rw [hc]
  simp only []
  obtain ⟨f, hf⟩ : ∃ f, T.length + 1 - j = f + 1 := ⟨T.length - j, by omega⟩
  rw [hf]
  unfold altLoop
  rw [if_neg (fun e => by rcases hj with h | h <;> rw [h] at e <;> cases e)]
  rfl
/-- From depth d on, where no more than 200 stand within one another. -/
theorem nest_alt (hK : K = 1 ∨ K = 2) (hn : n ≤ 200) (size : Nat) : ∀ (k d f : Nat), d + k = n → 2 * n + 1 - d < f → ∃ m, altF (nestL op K n) size f d d = .ok m (2 * n + 1 - d) ∧ deepT m = k := by
  intro k
  induction k with
  | zero =>
    intro d f hd hf
    obtain rfl : d = n := by omega
    obtain ⟨f, rfl⟩ : ∃ g, f = g + 1 := ⟨f - 1, by omega⟩
    have hx := nestL_get op K d (i := d) (by omega)
    rw [nestK_mid] at hx
    have hend : kindAt (nestL op K d) (d + 1) = none ∨ kindAt (nestL op K d) (d + 1) = some 3 := by
      rcases Nat.lt_or_ge (d + 1) (2 * d + 1) with h | h
      · right
        unfold kindAt
        rw [nestL_get op K d h, nestK_close op K d (by omega)]
        rfl
      · left
        unfold kindAt
        rw [List.getElem?_eq_none (by rw [nestL_length]; exact h)]
        rfl
    have hit := item_plain (size := size) (rec := altF (nestL op K d) size f) (d := d) (base_leaf (i := d) (x := (setTok (oneM 97), d * op.length, d * op.length + 1)) rfl) (not_five hend)
    refine ⟨leafT (setTok (oneM 97), d * op.length, d * op.length + 1), ?_, ?_⟩
    · show altW (nestL op K d) size (altF (nestL op K d) size f) d d = _
      rw [show 2 * d + 1 - d = d + 1 by omega]
      exact alt_single hx (show (0 : Nat) ≠ 3 by decide) (show (0 : Nat) ≠ 4 by decide) hit (by omega) hend (by rw [nestL_length]; omega) (by rw [nestL_length]; omega)
    · rfl
  | succ k ih =>
    intro d f hd hf
    obtain ⟨f, rfl⟩ : ∃ g, f = g + 1 := ⟨f - 1, by omega⟩
    obtain ⟨m, hm, hdm⟩ := ih (d + 1) f (by omega) (by omega)
    have hx := nestL_get op K n (i := d) (by omega)
    rw [nestK_open op K n (by omega)] at hx
    have hcl := nestL_get op K n (i := 2 * n + 1 - (d + 1)) (by omega)
    rw [nestK_close op K n (by omega)] at hcl
    have hend : kindAt (nestL op K n) (2 * n + 1 - d) = none ∨ kindAt (nestL op K n) (2 * n + 1 - d) = some 3 := by
      rcases Nat.lt_or_ge (2 * n + 1 - d) (2 * n + 1) with h | h
      · right
        unfold kindAt
        rw [nestL_get op K n h, nestK_close op K n (by omega)]
        rfl
      · left
        unfold kindAt
        rw [List.getElem?_eq_none (by rw [nestL_length]; exact h)]
        rfl
    have hg := group_ok (x := (kindTok K, d * op.length, d * op.length + op.length)) (size := size) (by omega) hm hcl rfl
    rw [show 2 * n + 1 - (d + 1) + 1 = 2 * n + 1 - d by omega] at hg
    have hit := item_plain ((base_group (x := (kindTok K, d * op.length, d * op.length + op.length)) hK).trans hg) (not_five hend)
    refine ⟨_, alt_single hx (show K ≠ 3 by omega) (show K ≠ 4 by omega) hit (by omega) hend (by rw [nestL_length]; omega) (by rw [nestL_length]; omega), ?_⟩
    unfold groupT
    rw [deepT_mk]
    rw [show grpB (if (kindTok K, d * op.length, d * op.length + op.length).1.kind = 2 then (3 : Int) else 2) = true from by
      show grpB (if K = 2 then (3 : Int) else 2) = true
      split <;> decide]
    simp only [if_true, deepL, hdm]
    omega
/-- Where more than 200 stand within one another. -/
theorem nest_deep (hK : K = 1 ∨ K = 2) (hn : 200 < n) (size : Nat) : ∀ (k d f : Nat), d + k = 200 → 2 * n + 1 - d < f → altF (nestL op K n) size f d d = .err (200 * op.length) 3 := by
  intro k
  induction k with
  | zero =>
    intro d f hd hf
    obtain rfl : d = 200 := by omega
    obtain ⟨f, rfl⟩ : ∃ g, f = g + 1 := ⟨f - 1, by omega⟩
    have hx := nestL_get op K n (i := 200) (by omega)
    rw [nestK_open op K n hn] at hx
    exact cat_err hx (show K ≠ 3 by omega) (show K ≠ 4 by omega) (item_err ((base_group (x := (kindTok K, 200 * op.length, 200 * op.length + op.length)) hK).trans (group_far (Nat.le_refl _))))
  | succ k ih =>
    intro d f hd hf
    obtain ⟨f, rfl⟩ : ∃ g, f = g + 1 := ⟨f - 1, by omega⟩
    have hr := ih (d + 1) f (by omega) (by omega)
    have hx := nestL_get op K n (i := d) (by omega)
    rw [nestK_open op K n (by omega)] at hx
    exact cat_err hx (show K ≠ 3 by omega) (show K ≠ 4 by omega) (item_err ((base_group (x := (kindTok K, d * op.length, d * op.length + op.length)) hK).trans (group_err (by omega) hr)))
/-- Groups within one another, read. -/
theorem nest_parse (hK : K = 1 ∨ K = 2) (size : Nat) : (n ≤ 200 → ∃ m, treeM (nestL op K n) size = .ok m (2 * n + 1) ∧ deepT m = n) ∧ (200 < n → treeM (nestL op K n) size = .err (200 * op.length) 3) := by
  refine ⟨fun hn => ?_, fun hn => ?_⟩
  · obtain ⟨m, hm, hd⟩ := nest_alt op K n hK hn size n 0 ((nestL op K n).length + 1) (by omega) (by rw [nestL_length]; omega)
    refine ⟨m, ?_, hd⟩
    unfold treeM
    rw [hm]
    simp only [Nat.sub_zero]
    rw [List.getElem?_eq_none (by rw [nestL_length]; exact Nat.le_refl _)]
  · unfold treeM
    rw [nest_deep op K n hK hn size 200 0 ((nestL op K n).length + 1) (by omega) (by rw [nestL_length]; omega)]
end
theorem opens_plain : Opens [40] 1 := by
  refine ⟨by decide, fun t i h h1 => ?_⟩
  have h0 := h 0 (by decide)
  simp at h0
  unfold tokM
  rw [h0]
  show groupM t i = _
  unfold groupM
  rw [if_neg (fun e => h1 63 rfl e rfl)]
  rfl
theorem opens_free : Opens [40, 63, 58] 2 := by
  refine ⟨by decide, fun t i h h1 => ?_⟩
  have h0 := h 0 (by decide)
  have h2 := h 1 (by decide)
  have h3 := h 2 (by decide)
  simp at h0 h2 h3
  unfold tokM
  rw [h0]
  show groupM t i = _
  unfold groupM
  rw [if_pos h2, if_pos h3]
  rfl
end Go.Proofs.YtckoebfmoggeoaaDoor
/- SyntaxDeep: the walk. -/
namespace Go.Proofs.YtckoebfmoggeoaaDoor
set_option maxRecDepth 100000
open Go.RowKit
abbrev closeB : ByteArray := { data := #[41] }
abbrev oneB : ByteArray := { data := #[97] }
theorem rep_text (op : ByteArray) (n : Nat) : bytesN (repB op n ++ oneB ++ repB closeB n) = nestT (bytesN op) n := by
  rw [bytesN_append, bytesN_append, bytesN_rep, bytesN_rep, List.append_assoc]
  rfl
theorem deep_parse (op : ByteArray) (K n : Nat) (ho : Opens (bytesN op) K) (h97 : (bytesN op).length = 1 → bytesN op = [40]) (hK : K = 1 ∨ K = 2) (hs : op.size ≤ 3) (hn : n ≤ 1000) :
    (n ≤ 200 → ∃ m j, parseB (repB op n ++ oneB ++ repB closeB n) = .ok m j ∧ deepT m = n) ∧ (200 < n → parseB (repB op n ++ oneB ++ repB closeB n) = .err (200 * op.size) 3) := by
  have hl : (bytesN op).length = op.size := by simp [bytesN]
  have hsz : (repB op n ++ oneB ++ repB closeB n).size ≤ 5001 := by
    rw [ByteArray.size_append, ByteArray.size_append, repB_size, repB_size, show oneB.size = 1 from rfl, show closeB.size = 1 from rfl]
    have : n * op.size ≤ 1000 * 3 := Nat.mul_le_mul hn hs
    omega
  have hp : parseB (repB op n ++ oneB ++ repB closeB n) = treeM (nestL (bytesN op) K n) (repB op n ++ oneB ++ repB closeB n).size := by
    unfold parseB
    rw [if_neg (by omega)]
    unfold parseM
    rw [rep_text, nest_scan (bytesN op) K n ho h97]
  rw [hp]
  obtain ⟨h1, h2⟩ := nest_parse (bytesN op) K n hK (repB op n ++ oneB ++ repB closeB n).size
  rw [hl] at h2
  exact ⟨fun h => by obtain ⟨m, hm, hd⟩ := h1 h; exact ⟨m, _, hm, hd⟩, h2⟩
set_option maxHeartbeats 8000000 in
theorem deep_plain (n : Nat) (hn : n ≤ 204) (h195 : 195 ≤ n) (a : Int) (ha : 195 + a % 10 = ((n : Nat) : Int)) (h0 : 0 ≤ a) (h1 : a < 256) (w : World) (hT : TabOk w) :
    Calls Tryd.prog 6 #[.int .u8 a, .bool false] w fun e w' => e = .returned (.bool true) ∧ Below w.heap.size w w' := by
  have hDP := Lib.hid (deep_parse { data := #[40] } 1 n opens_plain (by decide) (by decide) (by decide) (by omega))
  have HT := Lib.hid hT
  have htl := tab_lt hT
  have HAN := Lib.hid ha
  clear hT ha
  have hm1 : 0 ≤ a % 10 := by omega
  have hm2 : a % 10 < 10 := by omega
  go_enter Tryd.func6, Tryd.ntmps6
  go_upto_region 2 with fail
  rw [HAN.out]
  clear HAN hm1 hm2
  go_wp2_with fail
  go_loopw [6, 7, 8] (fun pv qv kv wr => ∃ k : Nat, k ≤ n ∧ kv = .int .i64 ((k : Nat) : Int) ∧ pv = .string (repB { data := #[40] } k) ∧ qv = .string (repB closeB k) ∧ wr = w) (fun _ _ kv _ => n - (intOf kv).toNat)
  case atStart => exact ⟨0, Nat.zero_le _, rfl, rfl, rfl, rfl⟩
  case round =>
    obtain ⟨k, hk, rfl, rfl, rfl, rfl⟩ := hrel
    rename World => w
    have hz1 : (repB { data := #[40] } k).size ≤ 1000 := by
      rw [repB_size]
      have : k * (ByteArray.size { data := #[40] }) ≤ 204 * 1 := Nat.mul_le_mul (by omega) (Nat.le_refl _)
      omega
    have hz2 : (repB closeB k).size ≤ 1000 := by
      rw [repB_size]
      have : k * closeB.size ≤ 204 * 1 := Nat.mul_le_mul (by omega) (Nat.le_refl _)
      omega
    by_cases hlt : k < n
    · have HS1 := Lib.hid (show repB { data := #[40] } k ++ { data := #[40] } = repB { data := #[40] } (k + 1) from rfl)
      have HS2 := Lib.hid (show repB closeB k ++ closeB = repB closeB (k + 1) from rfl)
      generalize repB { data := #[40] } k = s1 at *
      generalize repB closeB k = s2 at *
      go_wp2
      go_roundw
      case rel => exact ⟨k + 1, hlt, by go_num, by rw [← HS1.out], by rw [← HS2.out], trivial⟩
      case measure => simp [intOf]; omega
    · obtain rfl : k = n := by omega
      have HL := Lib.hid (repB_size { data := #[40] } k)
      generalize hs1 : repB { data := #[40] } k = s1 at *
      generalize hs2 : repB closeB k = s2 at *
      have HSS := Lib.hid (And.intro hs1 hs2)
      clear hs1 hs2
      go_wp2_with fail
      refine (sparse_at _ w HT.out).mono ?_
      rintro v w1 ⟨hp, hb⟩
      have hT1 := tab_far HT.out hb htl
      unfold ParseIs at hp
      by_cases hbig : 200 < k
      · have hpe := hDP.out.2 hbig
        rw [hpe] at hp
        obtain ⟨rfl, -⟩ := hp
        have hk0 : ((k : Nat) : Int) ≠ 0 := by omega
        have hLi : ((s1.size : Nat) : Int) = (k : Int) * 1 := by
          rw [HL.out]
          exact Int.natCast_mul k 1
        have hdv : (200 * ((s1.size : Nat) : Int)).tdiv (k : Int) = 200 := by
          rw [hLi, ← Int.mul_assoc, Int.mul_comm 200, Int.mul_assoc]
          exact Int.mul_tdiv_cancel_left _ hk0
        clear hLi hpe
        go_wp2_with fail
        refine (awake06_at _ hT1).mono ?_
        rintro v w2 ⟨rfl, hb2⟩
        go_wp2
        go_returns
        exact ⟨rfl, hb.trans (hb2.mono hb.size)⟩
      · obtain ⟨m, j, hpe, hd⟩ := hDP.out.1 (by omega)
        rw [hpe] at hp
        obtain ⟨b, rfl, htr⟩ := hp
        have HTR := Lib.hid htr
        have HD := Lib.hid hd
        clear htr hd
        go_wp2_with fail
        refine (deep_at HTR.out (by rw [HD.out]; omega)).mono ?_
        rintro v w2 ⟨rfl, rfl⟩
        rw [HD.out]
        go_wp2_with fail
        refine (size_nil _).mono ?_
        rintro v w3 ⟨rfl, hb3⟩
        have hT3 := tab_far hT1 hb3 (tab_lt hT1)
        go_wp2_with fail
        refine (groups_nil _).mono ?_
        rintro v w4 ⟨rfl, hb4⟩
        have hT4 := tab_far hT3 hb4 (tab_lt hT3)
        go_wp2_with fail
        refine (deep_nil _).mono ?_
        rintro v w5 ⟨rfl, rfl⟩
        go_wp2_with fail
        refine (sets_nil _).mono ?_
        rintro v w6 ⟨rfl, hb6⟩
        have hT6 := tab_far hT4 hb6 (tab_lt hT4)
        go_wp2_with fail
        refine (right_nil _).mono ?_
        rintro v w7 ⟨rfl, rfl⟩
        go_wp2_with fail
        refine (same_nil2 _).mono ?_
        rintro v w8 ⟨rfl, rfl⟩
        go_wp2_with fail
        refine (same_nil1 _ _).mono ?_
        rintro v w9 ⟨rfl, rfl⟩
        go_wp2_with fail
        refine (awake06_at _ hT6).mono ?_
        rintro v w10 ⟨rfl, hb10⟩
        go_wp2
        go_returns
        exact ⟨rfl, (((hb.trans (hb3.mono hb.size)).trans (hb4.mono (Nat.le_trans hb.size hb3.size))).trans (hb6.mono (Nat.le_trans hb.size (Nat.le_trans hb3.size hb4.size)))).trans (hb10.mono (Nat.le_trans hb.size (Nat.le_trans hb3.size (Nat.le_trans hb4.size hb6.size))))⟩
set_option maxHeartbeats 8000000 in
theorem deep_free (n : Nat) (hn : n ≤ 204) (h195 : 195 ≤ n) (a : Int) (ha : 195 + a % 10 = ((n : Nat) : Int)) (h0 : 0 ≤ a) (h1 : a < 256) (w : World) (hT : TabOk w) :
    Calls Tryd.prog 6 #[.int .u8 a, .bool true] w fun e w' => e = .returned (.bool true) ∧ Below w.heap.size w w' := by
  have hDP := Lib.hid (deep_parse { data := #[40, 63, 58] } 2 n opens_free (by decide) (by decide) (by decide) (by omega))
  have HT := Lib.hid hT
  have htl := tab_lt hT
  have HAN := Lib.hid ha
  clear hT ha
  have hm1 : 0 ≤ a % 10 := by omega
  have hm2 : a % 10 < 10 := by omega
  go_enter Tryd.func6, Tryd.ntmps6
  go_upto_region 2 with fail
  rw [HAN.out]
  clear HAN hm1 hm2
  go_wp2_with fail
  go_loopw [6, 7, 8] (fun pv qv kv wr => ∃ k : Nat, k ≤ n ∧ kv = .int .i64 ((k : Nat) : Int) ∧ pv = .string (repB { data := #[40, 63, 58] } k) ∧ qv = .string (repB closeB k) ∧ wr = w) (fun _ _ kv _ => n - (intOf kv).toNat)
  case atStart => exact ⟨0, Nat.zero_le _, rfl, rfl, rfl, rfl⟩
  case round =>
    obtain ⟨k, hk, rfl, rfl, rfl, rfl⟩ := hrel
    rename World => w
    have hz1 : (repB { data := #[40, 63, 58] } k).size ≤ 1000 := by
      rw [repB_size]
      have : k * (ByteArray.size { data := #[40, 63, 58] }) ≤ 204 * 3 := Nat.mul_le_mul (by omega) (Nat.le_refl _)
      omega
    have hz2 : (repB closeB k).size ≤ 1000 := by
      rw [repB_size]
      have : k * closeB.size ≤ 204 * 1 := Nat.mul_le_mul (by omega) (Nat.le_refl _)
      omega
    by_cases hlt : k < n
    · have HS1 := Lib.hid (show repB { data := #[40, 63, 58] } k ++ { data := #[40, 63, 58] } = repB { data := #[40, 63, 58] } (k + 1) from rfl)
      have HS2 := Lib.hid (show repB closeB k ++ closeB = repB closeB (k + 1) from rfl)
      generalize repB { data := #[40, 63, 58] } k = s1 at *
      generalize repB closeB k = s2 at *
      go_wp2
      go_roundw
      case rel => exact ⟨k + 1, hlt, by go_num, by rw [← HS1.out], by rw [← HS2.out], trivial⟩
      case measure => simp [intOf]; omega
    · obtain rfl : k = n := by omega
      have HL := Lib.hid (repB_size { data := #[40, 63, 58] } k)
      generalize hs1 : repB { data := #[40, 63, 58] } k = s1 at *
      generalize hs2 : repB closeB k = s2 at *
      have HSS := Lib.hid (And.intro hs1 hs2)
      clear hs1 hs2
      go_wp2_with fail
      refine (sparse_at _ w HT.out).mono ?_
      rintro v w1 ⟨hp, hb⟩
      have hT1 := tab_far HT.out hb htl
      unfold ParseIs at hp
      by_cases hbig : 200 < k
      · have hpe := hDP.out.2 hbig
        rw [hpe] at hp
        obtain ⟨rfl, -⟩ := hp
        have hk0 : ((k : Nat) : Int) ≠ 0 := by omega
        have hLi : ((s1.size : Nat) : Int) = (k : Int) * 3 := by
          rw [HL.out]
          exact Int.natCast_mul k 3
        have hdv : (200 * ((s1.size : Nat) : Int)).tdiv (k : Int) = 600 := by
          rw [hLi, ← Int.mul_assoc, Int.mul_comm 200, Int.mul_assoc]
          exact Int.mul_tdiv_cancel_left _ hk0
        clear hLi hpe
        go_wp2_with fail
        refine (awake06_at _ hT1).mono ?_
        rintro v w2 ⟨rfl, hb2⟩
        go_wp2
        go_returns
        exact ⟨rfl, hb.trans (hb2.mono hb.size)⟩
      · obtain ⟨m, j, hpe, hd⟩ := hDP.out.1 (by omega)
        rw [hpe] at hp
        obtain ⟨b, rfl, htr⟩ := hp
        have HTR := Lib.hid htr
        have HD := Lib.hid hd
        clear htr hd
        go_wp2_with fail
        refine (deep_at HTR.out (by rw [HD.out]; omega)).mono ?_
        rintro v w2 ⟨rfl, rfl⟩
        rw [HD.out]
        go_wp2_with fail
        refine (size_nil _).mono ?_
        rintro v w3 ⟨rfl, hb3⟩
        have hT3 := tab_far hT1 hb3 (tab_lt hT1)
        go_wp2_with fail
        refine (groups_nil _).mono ?_
        rintro v w4 ⟨rfl, hb4⟩
        have hT4 := tab_far hT3 hb4 (tab_lt hT3)
        go_wp2_with fail
        refine (deep_nil _).mono ?_
        rintro v w5 ⟨rfl, rfl⟩
        go_wp2_with fail
        refine (sets_nil _).mono ?_
        rintro v w6 ⟨rfl, hb6⟩
        have hT6 := tab_far hT4 hb6 (tab_lt hT4)
        go_wp2_with fail
        refine (right_nil _).mono ?_
        rintro v w7 ⟨rfl, rfl⟩
        go_wp2_with fail
        refine (same_nil2 _).mono ?_
        rintro v w8 ⟨rfl, rfl⟩
        go_wp2_with fail
        refine (same_nil1 _ _).mono ?_
        rintro v w9 ⟨rfl, rfl⟩
        go_wp2_with fail
        refine (awake06_at _ hT6).mono ?_
        rintro v w10 ⟨rfl, hb10⟩
        go_wp2
        go_returns
        exact ⟨rfl, (((hb.trans (hb3.mono hb.size)).trans (hb4.mono (Nat.le_trans hb.size hb3.size))).trans (hb6.mono (Nat.le_trans hb.size (Nat.le_trans hb3.size hb4.size)))).trans (hb10.mono (Nat.le_trans hb.size (Nat.le_trans hb3.size (Nat.le_trans hb4.size hb6.size))))⟩
theorem deep_law (a : Int) (ha : 0 ≤ a ∧ a < 256) (free : Bool) (w : World) (hT : TabOk w) :
    Calls Tryd.prog 6 #[.int .u8 a, .bool free] w fun e w' => e = .returned (.bool true) ∧ Below w.heap.size w w' := by
  obtain ⟨h0, h1⟩ := ha
  have hn : 195 + a % 10 = (((195 + a % 10).toNat : Nat) : Int) := by omega
  cases free with
  | false => exact deep_plain _ (by omega) (by omega) a hn h0 h1 w hT
  | true => exact deep_free _ (by omega) (by omega) a hn h0 h1 w hT
end Go.Proofs.YtckoebfmoggeoaaDoor
