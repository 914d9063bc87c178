/- What is read as data stands in memory as a tree: the row's arguments as the machine's values. What is read as data stands in memory as a tree: the main step, and the arguments of a row. A law's row, out of what the machine says of the law. -/
import Derived.Test.YtlfigfgipnlchaaL3
import GoSem.ClaimJoined
import Derived.WalkKit
import Derived.ProofKit
import Derived.OpenShut
import Derived.ChangeOld
import Derived.ChangeReads
import Derived.Below
import Derived.Carry
import Derived.WideShapes
import Derived.SizedLaws

namespace Go.Lm

/-- The parts of a struct, one behind the other. -/
def DatL (D : TypeId → List V → Prop) : List TypeId → List V → Prop
  | [], vs => vs = []
  | t :: ts, vs => ∃ a b, vs = a ++ b ∧ D t a ∧ DatL D ts b

/-- An element of a slice, out of its cells. -/
def mkV (ag : Bool) (vs : List V) : V := if ag then .agg vs else vs.headD .any

/-- These cells are a value of the type. -/
def Dat (P : Program) : Nat → TypeId → List V → Prop
  | 0, _, _ => False
  | n + 1, t, vs =>
    match P.underlying t with
    | some .bool => ∃ b, vs = [.bool b]
    | some (.int k) => ∃ x, vs = [.int k x] ∧ (Lit.int k x).wf = true
    | some .string => ∃ s, vs = [.str s] ∧ s.size ≤ reachBytes
    | some (.slice e) => ∃ ls : List (List V), vs = [.sl false (P.cellsOf e) (ls.map (mkV (aggT P e == some true)))] ∧ ls.length * P.bytesOf e ≤ reachBytes ∧ ∀ x ∈ ls, Dat P n e x
    | some (.struct fs) => DatL (Dat P n) (fs.toList.map (·.type)) vs
    | some (.array m e) => DatL (Dat P n) (List.replicate m e) vs
    | _ => False

def tiles (P : Program) : Nat → List Field → Option Nat
  | off, [] => some off
  | off, f :: r => if f.offset = off then tiles P (off + P.cellsOf f.type) r else none
/-- The types that are read so. -/
def okT (P : Program) : Nat → TypeId → Bool
  | 0, _ => false
  | n + 1, t =>
    match P.underlying t with
    | some .bool => decide (P.cellsOf t = 1)
    | some (.int _) => decide (P.cellsOf t = 1)
    | some .string => decide (P.cellsOf t = 1)
    | some (.slice e) => okT P n e && decide (0 < P.cellsOf e) && decide (P.cellsOf t = 1) && (aggT P e == some true || decide (P.cellsOf e = 1 ∧ aggT P e = some false))
    | some (.struct fs) => fs.toList.all (fun f => okT P n f.type) && decide (tiles P 0 fs.toList = some (P.cellsOf t))
    | some (.array m e) => okT P n e && decide (m * P.cellsOf e = P.cellsOf t)
    | _ => false

theorem mapM_get {α β : Type} {f : α → Option β} : ∀ {l : List α} {r : List β}, l.mapM f = some r → r.length = l.length ∧ ∀ (i : Nat) (x : α) (y : β), l[i]? = some x → r[i]? = some y → f x = some y
  | [], r, h => by
    simp at h; subst h; simp
  | a :: l, r, h => by
    rw [List.mapM_cons] at h
    cases ha : f a with
    | none => simp [ha] at h
    | some y0 =>
      cases hl : l.mapM f with
      | none => simp [ha, hl] at h
      | some r0 =>
        simp [ha, hl] at h
        subst h
        obtain ⟨h1, h2⟩ := mapM_get hl
        refine ⟨by simp [h1], ?_⟩
        intro i x y hx hy
        cases i with
        | zero => simp at hx hy; subst hx hy; exact ha
        | succ i => simp at hx hy; exact h2 i x y hx hy

theorem gather {α : Type} (Q : Nat → α → Prop) : ∀ n, (∀ i, i < n → ∃ x, Q i x) → ∃ l : List α, l.length = n ∧ ∀ i x, l[i]? = some x → Q i x
  | 0, _ => ⟨[], rfl, by simp⟩
  | n + 1, h => by
    obtain ⟨l, h1, h2⟩ := gather Q n fun i hi => h i (by omega)
    obtain ⟨x, hx⟩ := h n (by omega)
    refine ⟨l ++ [x], by simp [h1], ?_⟩
    intro i y hy
    rw [List.getElem?_append] at hy
    split at hy
    · exact h2 i y hy
    · have : i = n := by
        rcases Nat.lt_or_ge (i - l.length) 1 with h3 | h3
        · omega
        · rw [List.getElem?_eq_none (by simp; omega)] at hy; simp at hy
      subst this
      rw [h1, Nat.sub_self] at hy
      simp at hy; subst hy; exact hx

variable {H : Type} {enc : TypeId × Value → H} {P : Program} {w : World} {sp : Nat → Bool} {held : Bool}

theorem cells_get {a : Addr} {n : Nat} {cs : List Value} (h : w.cells? 0 a n = some cs) : cs.length = n ∧ ∀ i c, cs[i]? = some c → w.cell? (a.add i) = some c := by
  unfold World.cells? at h
  rw [if_pos (Nat.zero_le _)] at h
  obtain ⟨h1, h2⟩ := mapM_get h
  refine ⟨by simpa using h1, ?_⟩
  intro i c hc
  have hi : i < n := by
    have := (List.getElem?_eq_some_iff.1 hc).1
    simp at h1; omega
  exact h2 i i c (by simp [hi]) hc

theorem cell_block {a : Addr} {c : Value} (h : w.cell? a = some c) : a.spot = none ∧ ∃ cs el fr, w.heap[a.block]? = some (.cells cs el fr) ∧ cs[a.off]? = some c := by
  unfold World.cell? at h
  split at h
  · rename_i cs el fr hb
    split at h
    · simp at h
    · rename_i hs
      exact ⟨by simpa using hs, cs, el, fr, hb, h⟩
  · simp at h

theorem add_off (a : Addr) (n : Nat) (h : a.spot = none) : a.add n = ⟨a.block, a.off + n, none⟩ := by
  unfold Addr.add
  split
  · rename_i h0; subst h0; cases a; simp at h ⊢; exact h
  · rfl

abbrev allI (w : World) : Nat → Prop := fun b => b < w.heap.size

theorem trod_fields {n : Nat} (ih : ∀ t cs d ps, DataW.trod enc P w 0 sp held n t cs = some (d, ps) → okT P n t = true → (d.weights P t).all (· ≤ reachBytes) = true →
      ∃ vs, Dat P n t vs ∧ RelL w.heap (allI w) vs cs [] ∧ ∀ c ∈ cs, isC c = true) (cs : List Value) : ∀ (fs : List Field) (off : Nat) (xs : List (DataW H × List MemPlace)),
    (fs.mapM fun f => DataW.trod enc P w 0 sp held n f.type ((cs.drop f.offset).take (P.cellsOf f.type))) = some xs → (fs.all fun f => okT P n f.type) = true → tiles P off fs = some cs.length →
    (DataW.weightsEach P (fs.map (·.type)) (xs.map (·.1))).all (· ≤ reachBytes) = true → off ≤ cs.length →
    ∃ vs, DatL (Dat P n) (fs.map (·.type)) vs ∧ RelL w.heap (allI w) vs (cs.drop off) [] ∧ ∀ c ∈ cs.drop off, isC c = true
  | [], off, xs, _, _, ht, _, _ => by
    simp only [tiles, Option.some.injEq] at ht
    refine ⟨[], rfl, ?_, ?_⟩
    · rw [List.drop_eq_nil_of_le (by omega)]; exact .nil
    · rw [List.drop_eq_nil_of_le (by omega)]; simp
  | f :: fs, off, xs, hm, ho, ht, hw, hle => by
    rw [List.mapM_cons] at hm
    cases h1 : DataW.trod enc P w 0 sp held n f.type ((cs.drop f.offset).take (P.cellsOf f.type)) with
    | none => simp [h1] at hm
    | some y =>
    cases h2 : fs.mapM fun f => DataW.trod enc P w 0 sp held n f.type ((cs.drop f.offset).take (P.cellsOf f.type)) with
    | none => simp [h1, h2] at hm
    | some ys =>
    simp [h1, h2] at hm
    subst hm
    simp only [List.all_cons, Bool.and_eq_true] at ho
    simp only [tiles] at ht
    split at ht
    · rename_i hoff
      subst hoff
      have htl : ∀ (fs : List Field) (o m : Nat), tiles P o fs = some m → o ≤ m := by
        intro fs
        induction fs with
        | nil => intro o m h; simp only [tiles, Option.some.injEq] at h; omega
        | cons f fs ih => intro o m h; simp only [tiles] at h; split at h; · have := ih _ _ h; omega
                          · simp at h
      have hle2 := htl _ _ _ ht
      simp only [List.map_cons, DataW.weightsEach, List.all_append, Bool.and_eq_true] at hw
      obtain ⟨va, d1, r1, c1⟩ := ih _ _ _ _ h1 ho.1 hw.1
      obtain ⟨vb, d2, r2, c2⟩ := trod_fields ih cs fs (f.offset + P.cellsOf f.type) ys h2 ho.2 ht hw.2 hle2
      have hsplit : cs.drop f.offset = (cs.drop f.offset).take (P.cellsOf f.type) ++ cs.drop (f.offset + P.cellsOf f.type) := by
        rw [← List.drop_drop, List.take_append_drop]
      refine ⟨va ++ vb, ⟨va, vb, rfl, d1, d2⟩, ?_, ?_⟩
      · rw [hsplit]; exact r1.append r2
      · rw [hsplit]
        intro c hc
        rcases List.mem_append.1 hc with hc | hc
        · exact c1 c hc
        · exact c2 c hc
    · simp at ht

theorem weights_elem {e : TypeId} : ∀ {ds : List (DataW H)} {i : Nat} {d : DataW H}, (DataW.weightsAll P e ds).all (· ≤ reachBytes) = true → ds[i]? = some d → (d.weights P e).all (· ≤ reachBytes) = true
  | [], _, _, _, h => by simp at h
  | d0 :: ds, 0, d, hw, h => by
    simp at h; subst h
    simp only [DataW.weightsAll, List.all_append, Bool.and_eq_true] at hw; exact hw.1
  | d0 :: ds, i + 1, d, hw, h => by
    simp only [DataW.weightsAll, List.all_append, Bool.and_eq_true] at hw
    exact weights_elem hw.2 (by simpa using h)

theorem mkV_cells {ag : Bool} {vs : List V} {n : Nat} {cs : List Value} {h : Heap} {I : Nat → Prop} (hr : RelL h I vs cs []) (hc : ∀ c ∈ cs, isC c = true) (hn : cs.length = n) (h1 : ag = true ∨ (n = 1 ∧ ∀ v ∈ vs, v.isAgg = false)) :
    (mkV ag vs).cells = vs := by
  unfold mkV
  split
  · rfl
  · rename_i ha
    rcases h1 with h1 | ⟨h1, h2⟩
    · exact absurd h1 ha
    · have := hr.length
      match vs, this, h2 with
      | [v], _, h2 => exact V.cells_one (h2 v (by simp))
      | [], h3, _ => simp at h3; omega
      | _ :: _ :: _, h3, _ => simp at h3; omega
end Go.Lm

namespace Go.Lm
variable {H : Type} {enc : TypeId × Value → H} {P : Program} {w : World} {sp : Nat → Bool} {held : Bool}

theorem relL_noagg {h : Heap} {I : Nat → Prop} : ∀ {vs : List V} {cs : List Value} {bs : List Nat}, RelL h I vs cs bs → (∀ c ∈ cs, isC c = true) → ∀ v ∈ vs, v.isAgg = false
  | _, _, _, .nil, _, v, hv => by simp at hv
  | _, _, _, .cons v0 c _ _ _ _ h1 h2, hc, v, hv => by
    rcases List.mem_cons.1 hv with rfl | hv
    · have := hc c (by simp)
      cases h1 <;> first | rfl | simp [isC] at this
    · exact relL_noagg h2 (fun c hc' => hc c (by simp [hc'])) v hv

theorem weights_list {P : Program} : ∀ {ts : List TypeId} {xs : List (DataW H)}, (DataW.weightsEach P ts xs).all (· ≤ reachBytes) = true → True := fun _ => trivial

theorem each_replicate {e : TypeId} : ∀ (ds : List (DataW H)), DataW.weightsEach P (List.replicate ds.length e) ds = DataW.weightsAll P e ds
  | [] => rfl
  | d :: ds => by rw [List.length_cons, List.replicate_succ, DataW.weightsEach, DataW.weightsAll, each_replicate ds]

theorem trod_parts {n : Nat} {e : TypeId} (ih : ∀ t cs d ps, DataW.trod enc P w 0 sp held n t cs = some (d, ps) → okT P n t = true → (d.weights P t).all (· ≤ reachBytes) = true →
      ∃ vs, Dat P n t vs ∧ RelL w.heap (allI w) vs cs [] ∧ ∀ c ∈ cs, isC c = true) (cs : List Value) (ho : okT P n e = true) (xs : List (DataW H × List MemPlace)) (m : Nat)
    (hx : xs.length = m) (hg : ∀ i y, xs[i]? = some y → DataW.trod enc P w 0 sp held n e ((cs.drop (i * P.cellsOf e)).take (P.cellsOf e)) = some y)
    (hw : (DataW.weightsAll P e (xs.map (·.1))).all (· ≤ reachBytes) = true) (hl : m * P.cellsOf e = cs.length) : ∀ k, k ≤ m →
    ∃ vs, DatL (Dat P n) (List.replicate k e) vs ∧ RelL w.heap (allI w) vs (cs.drop ((m - k) * P.cellsOf e)) [] ∧ ∀ c ∈ cs.drop ((m - k) * P.cellsOf e), isC c = true
  | 0, _ => by
    refine ⟨[], rfl, ?_, ?_⟩ <;> rw [Nat.sub_zero, List.drop_eq_nil_of_le (by omega)]
    · exact .nil
    · simp
  | k + 1, hk => by
    obtain ⟨vb, d2, r2, c2⟩ := trod_parts ih cs ho xs m hx hg hw hl k (by omega)
    have hlt : m - (k + 1) < xs.length := by omega
    have h1 := hg _ _ (List.getElem?_eq_getElem hlt)
    have hw1 := weights_elem (d := xs[m - (k + 1)].1) (i := m - (k + 1)) hw (by rw [List.getElem?_map, List.getElem?_eq_getElem hlt]; rfl)
    obtain ⟨va, d1, r1, c1⟩ := ih _ _ _ _ h1 ho hw1
    have hsplit : cs.drop ((m - (k + 1)) * P.cellsOf e) = (cs.drop ((m - (k + 1)) * P.cellsOf e)).take (P.cellsOf e) ++ cs.drop ((m - k) * P.cellsOf e) := by
      have : (m - k) * P.cellsOf e = (m - (k + 1)) * P.cellsOf e + P.cellsOf e := by rw [show m - k = m - (k + 1) + 1 by omega, Nat.succ_mul]
      rw [this, ← List.drop_drop, List.take_append_drop]
    refine ⟨va ++ vb, ⟨va, vb, rfl, d1, d2⟩, ?_, ?_⟩
    · rw [hsplit]; exact r1.append r2
    · rw [hsplit]
      intro c hc
      rcases List.mem_append.1 hc with hc | hc
      · exact c1 c hc
      · exact c2 c hc

theorem trod_slice {n : Nat} {t e : TypeId} {cs : List Value} {d : DataW H} {ps : List MemPlace} (hu : P.underlying t = some (.slice e)) (h : DataW.trod enc P w 0 sp held (n + 1) t cs = some (d, ps)) :
    (cs = [.slice none 0 0] ∧ d = .nil) ∨ ∃ a len cap elems rest, cs = [.slice (some a) len cap] ∧ d = .slice (elems.map (·.1)) rest ∧ len ≤ cap ∧
      ((List.range len).mapM fun i => (w.cells? 0 (a.add (i * P.cellsOf e)) (P.cellsOf e)).bind (DataW.trod enc P w 0 sp held n e)) = some elems := by
  unfold DataW.trod at h
  rw [hu] at h
  split at h <;> simp_all
  obtain ⟨h1, h2⟩ := h
  obtain ⟨elems, h3, h4⟩ := Option.bind_eq_some_iff.1 h2
  obtain ⟨rest, h5, h6⟩ := Option.map_eq_some_iff.1 h4
  simp only [Prod.mk.injEq] at h6
  exact ⟨_, _, _, ⟨rfl, rfl, rfl⟩, elems, ⟨_, h6.1.symm⟩, h1.1, h3⟩
theorem trod_struct {n : Nat} {t : TypeId} {fs : Array Field} {cs : List Value} {d : DataW H} {ps : List MemPlace} (hu : P.underlying t = some (.struct fs)) (h : DataW.trod enc P w 0 sp held (n + 1) t cs = some (d, ps)) :
    cs.length = P.cellsOf t ∧ ∃ xs, (fs.toList.mapM fun f => DataW.trod enc P w 0 sp held n f.type ((cs.drop f.offset).take (P.cellsOf f.type))) = some xs ∧ d = .agg (xs.map (·.1)) := by
  unfold DataW.trod at h
  rw [hu] at h
  split at h <;> simp_all
  obtain ⟨h1, xs, h2, h3, _⟩ := h
  exact ⟨xs, h2, h3.symm⟩
theorem trod_array {n m : Nat} {t e : TypeId} {cs : List Value} {d : DataW H} {ps : List MemPlace} (hu : P.underlying t = some (.array m e)) (h : DataW.trod enc P w 0 sp held (n + 1) t cs = some (d, ps)) :
    cs.length = P.cellsOf t ∧ ∃ xs, ((List.range m).mapM fun i => DataW.trod enc P w 0 sp held n e ((cs.drop (i * P.cellsOf e)).take (P.cellsOf e))) = some xs ∧ d = .agg (xs.map (·.1)) := by
  unfold DataW.trod at h
  rw [hu] at h
  split at h <;> simp_all
  obtain ⟨h1, xs, h2, h3, _⟩ := h
  exact ⟨xs, h2, h3.symm⟩
theorem trod_bool {n : Nat} {t : TypeId} {cs : List Value} {d : DataW H} {ps : List MemPlace} (hu : P.underlying t = some .bool) (h : DataW.trod enc P w 0 sp held (n + 1) t cs = some (d, ps)) : ∃ b, cs = [.bool b] := by
  unfold DataW.trod at h
  rw [hu] at h
  split at h <;> simp_all
theorem trod_int {n : Nat} {t : TypeId} {k : IntKind} {cs : List Value} {d : DataW H} {ps : List MemPlace} (hu : P.underlying t = some (.int k)) (h : DataW.trod enc P w 0 sp held (n + 1) t cs = some (d, ps)) : ∃ x, cs = [.int k x] ∧ (Lit.int k x).wf = true := by
  unfold DataW.trod at h
  rw [hu] at h
  split at h <;> simp_all
theorem trod_string {n : Nat} {t : TypeId} {cs : List Value} {d : DataW H} {ps : List MemPlace} (hu : P.underlying t = some .string) (h : DataW.trod enc P w 0 sp held (n + 1) t cs = some (d, ps)) : ∃ s, cs = [.string s] ∧ d = .lit (.string s.data.toList) := by
  unfold DataW.trod at h
  rw [hu] at h
  split at h <;> simp_all

/-- The elements of a slice, cell by cell. -/
theorem row_rel {h : Heap} {I : Nat → Prop} {cl : List Value} {sz : Nat} {g : List V → V} (ls : List (List V)) : ∀ (k off : Nat), k ≤ ls.length →
    (∀ i vs, i < k → ls[i]? = some vs → (g vs).cells = vs ∧ ∃ ci, ((cl.drop (off + i * sz)).take sz) = ci ∧ RelL h I vs ci [] ∧ (∀ c ∈ ci, isC c = true) ∧ ci.length = sz) →
    RelL h I (((ls.take k).map g).flatMap V.cells) ((cl.drop off).take (k * sz)) [] ∧ (∀ c ∈ (cl.drop off).take (k * sz), isC c = true) ∧ ((cl.drop off).take (k * sz)).length = k * sz
  | 0, off, _, _ => by
    simp only [List.take_zero, List.map_nil, List.flatMap_nil, Nat.zero_mul]
    exact ⟨.nil, by simp, rfl⟩
  | k + 1, off, hk, hq => by
    obtain ⟨r1, c1, l1⟩ := row_rel ls k off (by omega) fun i vs hi hv => hq i vs (by omega) hv
    have hlt : k < ls.length := by omega
    obtain ⟨hcell, ci, hci, r2, c2, l2⟩ := hq k _ (by omega) (List.getElem?_eq_getElem hlt)
    have hsplit : (cl.drop off).take ((k + 1) * sz) = (cl.drop off).take (k * sz) ++ ci := by
      rw [Nat.succ_mul, List.take_add, List.drop_drop, hci]
    rw [hsplit, List.take_succ_eq_append_getElem hlt, List.map_append, List.flatMap_append]
    refine ⟨?_, ?_, by rw [List.length_append, l1, l2, Nat.succ_mul]⟩
    · have := r1.append r2
      simpa [hcell] using this
    · intro c hc
      rcases List.mem_append.1 hc with hc | hc
      · exact c1 c hc
      · exact c2 c hc
theorem trod_rel : ∀ (n : Nat) (t : TypeId) (cs : List Value) (d : DataW H) (ps : List MemPlace), DataW.trod enc P w 0 sp held n t cs = some (d, ps) → okT P n t = true → (d.weights P t).all (· ≤ reachBytes) = true →
    ∃ vs, Dat P n t vs ∧ RelL w.heap (allI w) vs cs [] ∧ ∀ c ∈ cs, isC c = true
  | 0, _, _, _, _, h, _, _ => by simp [DataW.trod] at h
  | n + 1, t, cs, d, ps, h, ho, hw => by
    have ih := trod_rel n
    unfold okT at ho
    unfold Dat
    cases hu : P.underlying t with
    | none => rw [hu] at ho; simp at ho
    | some u =>
    rw [hu] at ho
    cases u with
    | bool =>
      obtain ⟨b, rfl⟩ := trod_bool hu h
      exact ⟨[.bool b], ⟨b, rfl⟩, .cons _ _ [] _ _ [] (.bool _) .nil, by simp [isC]⟩
    | int k =>
      obtain ⟨x, rfl, hx⟩ := trod_int hu h
      exact ⟨[.int k x], ⟨x, rfl, hx⟩, .cons _ _ [] _ _ [] (.int _ _) .nil, by simp [isC]⟩
    | string =>
      obtain ⟨s, rfl, rfl⟩ := trod_string hu h
      refine ⟨[.str s], ⟨s, rfl, ?_⟩, .cons _ _ [] _ _ [] (.str _) .nil, by simp [isC]⟩
      simpa [DataW.weights] using hw
    | slice e =>
      simp only [Bool.and_eq_true, Bool.or_eq_true, decide_eq_true_eq] at ho
      obtain ⟨⟨⟨ho1, ho2⟩, ho3⟩, ho4⟩ := ho
      rcases trod_slice hu h with ⟨rfl, rfl⟩ | ⟨a, len, cap, elems, rest, rfl, rfl, hlc, hm⟩
      · exact ⟨[.sl false (P.cellsOf e) []], ⟨[], rfl, by simp, by simp⟩, .cons _ _ [] _ _ [] (.slE _ _ _) .nil, by simp [isC]⟩
      · obtain ⟨hl1, hl2⟩ := mapM_get hm
        rw [List.length_range] at hl1
        have hwt : (len + rest.length) * P.bytesOf e ≤ reachBytes ∧ (DataW.weightsAll P e (elems.map (·.1))).all (· ≤ reachBytes) = true := by
          unfold DataW.weights at hw
          rw [hu] at hw
          simp only [List.all_cons, List.all_append, Bool.and_eq_true, decide_eq_true_eq, List.length_map, hl1] at hw
          exact ⟨hw.1, hw.2.1⟩
        have key : ∀ i, i < len → ∃ vs, Dat P n e vs ∧ ∃ ci, w.cells? 0 (a.add (i * P.cellsOf e)) (P.cellsOf e) = some ci ∧ RelL w.heap (allI w) vs ci [] ∧ ∀ c ∈ ci, isC c = true := by
          intro i hi
          have hlt : i < elems.length := by omega
          have h1 := hl2 i i _ (by simp [hi]) (List.getElem?_eq_getElem hlt)
          obtain ⟨ci, h2, h3⟩ := Option.bind_eq_some_iff.1 h1
          obtain ⟨vs, d1, r1, c1⟩ := ih e ci elems[i].1 elems[i].2 h3 ho1 (weights_elem hwt.2 (by rw [List.getElem?_map, List.getElem?_eq_getElem hlt]; rfl))
          exact ⟨vs, d1, ci, h2, r1, c1⟩
        obtain ⟨ls, hls, hq⟩ := gather (fun i vs => Dat P n e vs ∧ ∃ ci, w.cells? 0 (a.add (i * P.cellsOf e)) (P.cellsOf e) = some ci ∧ RelL w.heap (allI w) vs ci [] ∧ ∀ c ∈ ci, isC c = true) len key
        refine ⟨[.sl false (P.cellsOf e) (ls.map (mkV (aggT P e == some true)))], ⟨ls, rfl, ?_, ?_⟩, .cons _ _ [] _ _ [] ?_ .nil, by simp [isC]⟩
        · rw [hls]; refine Nat.le_trans (Nat.mul_le_mul_right _ ?_) hwt.1; omega
        · intro x hx
          obtain ⟨i, hi, rfl⟩ := List.getElem_of_mem hx
          exact (hq i _ (List.getElem?_eq_getElem hi)).1
        · rcases Nat.eq_zero_or_pos len with h0 | h0
          · have : ls = [] := List.length_eq_zero_iff.1 (by omega)
            subst this h0; exact .slE _ _ _
          · obtain ⟨_, _, c0, hc0, _, _⟩ := key 0 h0
            obtain ⟨hcl, hcg⟩ := cells_get hc0
            have hpos : 0 < c0.length := by omega
            have hcell := hcg 0 _ (List.getElem?_eq_getElem hpos)
            rw [Nat.zero_mul] at hcell
            have hcell : w.cell? a = some c0[0] := by simpa [Addr.add] using hcell
            obtain ⟨hsp, cl, el, fr, hblk, _⟩ := cell_block hcell
            have hrow : ∀ i ci, i < len → w.cells? 0 (a.add (i * P.cellsOf e)) (P.cellsOf e) = some ci → ((cl.toList.drop (a.off + i * P.cellsOf e)).take (P.cellsOf e)) = ci ∧ ci.length = P.cellsOf e := by
              intro i ci hi hci
              obtain ⟨g1, g2⟩ := cells_get hci
              refine ⟨?_, g1⟩
              apply List.ext_getElem?
              intro j
              by_cases hj : j < P.cellsOf e
              · have g3 := g2 j _ (List.getElem?_eq_getElem (by omega))
                rw [add_off a _ hsp, add_off _ _ rfl] at g3
                obtain ⟨_, cs', el', fr', hb', hv'⟩ := cell_block g3
                simp only at hb' hv'
                rw [hblk] at hb'
                simp only [Option.some.injEq, Obj.cells.injEq] at hb'
                obtain ⟨rfl, _, _⟩ := hb'
                rw [List.getElem?_take_of_lt hj, List.getElem?_drop, Array.getElem?_toList, hv', List.getElem?_eq_getElem (by omega)]
              · rw [List.getElem?_eq_none (by rw [List.length_take]; omega), List.getElem?_eq_none (by omega)]
            have hg : ∀ i vs, i < ls.length → ls[i]? = some vs → (mkV (aggT P e == some true) vs).cells = vs ∧ ∃ ci, ((cl.toList.drop (a.off + i * P.cellsOf e)).take (P.cellsOf e)) = ci ∧ RelL w.heap (allI w) vs ci [] ∧ (∀ c ∈ ci, isC c = true) ∧ ci.length = P.cellsOf e := by
              intro i vs hi hv
              obtain ⟨_, ci, q1, q2, q3⟩ := hq i vs hv
              obtain ⟨q4, q5⟩ := hrow i ci (by omega) q1
              refine ⟨mkV_cells q2 q3 q5 ?_, ci, q4, q2, q3, q5⟩
              rcases ho4 with ho4 | ho4
              · exact .inl ho4
              · exact .inr ⟨ho4.1, relL_noagg q2 q3⟩
            obtain ⟨r1, c1, l1⟩ := row_rel (g := mkV (aggT P e == some true)) (cl := cl.toList) (sz := P.cellsOf e) ls ls.length a.off (Nat.le_refl _) hg
            rw [List.take_length] at r1
            have hsz : a.off + ls.length * P.cellsOf e ≤ cl.size := by
              simp only [List.length_take, List.length_drop, Array.length_toList] at l1
              have : 0 < ls.length * P.cellsOf e := Nat.mul_pos (by omega) ho2
              omega
            have hb : a.block < w.heap.size := by
              rcases Nat.lt_or_ge a.block w.heap.size with h | h
              · exact h
              · simp [Array.getElem?_eq_none h] at hblk
            have hlm : (ls.map (mkV (aggT P e == some true))).length = len := by rw [List.length_map, hls]
            have hsh := RelV.sh (h := w.heap) (I := allI w) (P.cellsOf e) (ls.map (mkV (aggT P e == some true))) a.block a.off cap cl el fr hb hblk (by rw [hlm]; exact hlc) (by rw [hlm, ← hls]; exact hsz) (by
              intro x hx
              obtain ⟨vs, hvs, rfl⟩ := List.mem_map.1 hx
              obtain ⟨i, hi, rfl⟩ := List.getElem_of_mem hvs
              obtain ⟨q1, ci, q2, q3, q4, q5⟩ := hg i _ hi (List.getElem?_eq_getElem hi)
              rw [q1, q3.length, q5]) (by rw [hlm, ← hls]; exact r1) (by rw [hlm, ← hls]; exact c1)
            rw [hlm] at hsh
            have ha : (⟨a.block, a.off, none⟩ : Addr) = a := by cases a; simp at hsp; subst hsp; rfl
            rw [ha] at hsh
            exact hsh
    | struct fs =>
      simp only [Bool.and_eq_true, decide_eq_true_eq] at ho
      obtain ⟨hl, xs, hm, rfl⟩ := trod_struct hu h
      rw [← hl] at ho
      have hwt : (DataW.weightsEach P (fs.toList.map (·.type)) (xs.map (·.1))).all (· ≤ reachBytes) = true := by
        unfold DataW.weights at hw
        rw [hu] at hw
        exact hw
      have := trod_fields ih cs fs.toList 0 xs hm ho.1 ho.2 hwt (Nat.zero_le _)
      simpa using this
    | array m e =>
      simp only [Bool.and_eq_true, decide_eq_true_eq] at ho
      obtain ⟨hl, xs, hm, rfl⟩ := trod_array hu h
      obtain ⟨hl1, hl2⟩ := mapM_get hm
      rw [List.length_range] at hl1
      have hwt : (DataW.weightsAll P e (xs.map (·.1))).all (· ≤ reachBytes) = true := by
        unfold DataW.weights at hw
        rw [hu] at hw
        exact hw
      have := trod_parts ih cs ho.1 xs m hl1 (fun i y hy => hl2 i i y (by
        have := (List.getElem?_eq_some_iff.1 hy).1
        rw [List.getElem?_range (by omega)]) hy) hwt (by omega) m (Nat.le_refl _)
      simpa using this
    | _ => simp at ho
end Go.Lm

namespace Go.Lm
open Go.ChangeShapes Go.WideShapes Go.RowKit
variable {H : Type} {enc : TypeId × Value → H} {P : Program} {W : World}

theorem okT_succ : ∀ (n : Nat) (t : TypeId), okT P n t = true → okT P (n + 1) t = true
  | 0, t, h => by simp [okT] at h
  | n + 1, t, h => by
    unfold okT at h ⊢
    cases hu : P.underlying t with
    | none => rw [hu] at h; simp at h
    | some u =>
    rw [hu] at h
    cases u with
    | slice e =>
      simp only [Bool.and_eq_true] at h ⊢
      exact ⟨⟨⟨okT_succ n e h.1.1.1, h.1.1.2⟩, h.1.2⟩, h.2⟩
    | struct fs =>
      simp only [Bool.and_eq_true, List.all_eq_true] at h ⊢
      exact ⟨fun f hf => okT_succ n _ (h.1 f hf), h.2⟩
    | array m e =>
      simp only [Bool.and_eq_true] at h ⊢
      exact ⟨okT_succ n e h.1, h.2⟩
    | bool => exact h
    | int k => exact h
    | string => exact h
    | _ => simp at h
theorem okT_le {n m : Nat} {t : TypeId} (hnm : n ≤ m) (h : okT P n t = true) : okT P m t = true := by
  induction hnm with
  | refl => exact h
  | step _ ih => exact okT_succ _ _ ih

/-- One argument, read. -/
def ArgD (P : Program) (t : TypeId) (v : V) : Prop := ∃ n vs, Dat P n t vs ∧ v = mkV (aggT P t == some true) vs
def ArgsD (P : Program) : List TypeId → List V → Prop
  | [], [] => True
  | t :: ts, v :: vs => ArgD P t v ∧ ArgsD P ts vs
  | _, _ => False

theorem arg_rel {t : TypeId} {c : Value} {d : DataW H} {ps : List MemPlace} {base : Nat} (h : DataW.Trod enc P W 0 (fun _ => true) true t c d ps) (hv : Value.okWide P W .any base t c) (ho : okT P 12 t = true)
    (hw : (d.weights P t).all (· ≤ reachBytes) = true) : ∃ v, ArgD P t v ∧ RelV W.heap (allI W) v c [] := by
  obtain ⟨m, hm⟩ := h
  have hm2 := DataW.trod_le (m := max m 12) (by omega) hm
  have ho2 := okT_le (m := max m 12) (by omega) ho
  obtain ⟨vs, d1, r1, c1⟩ := trod_rel (max m 12) t c.cells.toList d ps hm2 ho2 hw
  refine ⟨_, ⟨_, vs, d1, rfl⟩, ?_⟩
  unfold okT at ho
  have one : ∀ {x : Value}, c = x → c.cells.toList = [x] → aggT P t = some false → RelV W.heap (allI W) (mkV (aggT P t == some true) vs) c [] := by
    intro x hx hc ha
    rw [hc] at r1
    generalize hb : ([] : List Nat) = bs at r1
    cases r1 with
    | cons v0 _ b1 _ _ b2 h1 h2 =>
      cases h2
      have : (aggT P t == some true) = false := by rw [ha]; rfl
      rw [this]
      subst hx
      have hb1 : b1 = [] := by
        have := congrArg List.length hb
        rw [List.length_append] at this; simp only [List.length_nil] at this; exact List.length_eq_zero_iff.1 (by omega)
      subst hb1
      exact h1
  cases hu : P.underlying t with
  | none => rw [hu] at ho; simp at ho
  | some u =>
    cases u with
    | bool => obtain ⟨b, rfl⟩ := okWide_bool hu hv; exact one rfl rfl (by simp [aggT, hu])
    | int k => obtain ⟨b, rfl⟩ := okWide_int hu hv; exact one rfl rfl (by simp [aggT, hu])
    | string => obtain ⟨b, rfl⟩ := okWide_string hu hv; exact one rfl rfl (by simp [aggT, hu])
    | slice e => obtain ⟨a, l, cp, rfl⟩ := okWide_slice hu hv; exact one rfl rfl (by simp [aggT, hu])
    | struct fs =>
      have hv' := hv
      unfold Value.okWide at hv'
      rw [hu] at hv'
      obtain ⟨cs, rfl, _⟩ := hv'
      have : (aggT P t == some true) = true := by simp [aggT, hu]
      rw [this]
      exact .agg vs cs [] r1
    | array m e =>
      have hv' := hv
      unfold Value.okWide at hv'
      rw [hu] at hv'
      obtain ⟨cs, rfl, _⟩ := hv'
      have : (aggT P t == some true) = true := by simp [aggT, hu]
      rw [this]
      exact .agg vs cs [] r1
    | _ => rw [hu] at ho; simp at ho

theorem args_rel {base : Nat} : ∀ (ts : List TypeId) (args : List Value) (ds : List (DataW H)) (ps : List MemPlace), DataW.TrodAll enc P W 0 (fun _ => true) true ts args ds ps →
    (∀ (j : Nat) t v, ts[j]? = some t → args[j]? = some v → Value.okWide P W .any base t v) → (ts.all fun t => okT P 12 t) = true → (DataW.weightsEach P ts ds).all (· ≤ reachBytes) = true →
    ∃ vals, ArgsD P ts vals ∧ RelArgs W.heap (allI W) [] vals args []
  | [], args, ds, ps, h, _, _, _ => by
    obtain ⟨rfl, _, _⟩ := trodAll_nil h
    exact ⟨[], trivial, .nil _⟩
  | t :: ts, args, ds, ps, h, hv, ho, hw => by
    obtain ⟨v, vs, d, ds, p, q, rfl, rfl, rfl, h1, h2⟩ := trodAll_cons h
    simp only [List.all_cons, Bool.and_eq_true] at ho
    simp only [DataW.weightsEach, List.all_append, Bool.and_eq_true] at hw
    obtain ⟨x, a1, r1⟩ := arg_rel h1 (hv 0 t v rfl rfl) ho.1 hw.1
    obtain ⟨vals, a2, r2⟩ := args_rel ts vs ds q h2 (fun j t v hj hj2 => hv (j + 1) t v (by simpa using hj) (by simpa using hj2)) ho.2 hw.2
    exact ⟨x :: vals, ⟨a1, a2⟩, .read [] x vals v vs [] rfl r1 r2⟩

theorem back_all {W' : World} (hl : laidOutB P = true) (hb : Below W.heap.size W W') : ∀ (ts : List TypeId) (args : List Value) (ds : List (DataW H)) (ps : List MemPlace),
    (ts.all fun t => P.readableRec t && decide (t < P.types.size)) = true → DataW.TrodAll enc P W 0 (fun _ => true) true ts args ds ps → DataW.TrodAll enc P W' 0 (fun b => decide (b < W.heap.size)) true ts args ds ps
  | [], args, ds, ps, _, h => by
    obtain ⟨rfl, rfl, rfl⟩ := trodAll_nil h
    exact trodAll_mk0
  | t :: ts, args, ds, ps, ho, h => by
    obtain ⟨v, vs, d, ds, p, q, rfl, rfl, rfl, h1, h2⟩ := trodAll_cons h
    simp only [List.all_cons, Bool.and_eq_true, decide_eq_true_eq] at ho
    refine ⟨p, q, Below.trod hl ho.1.1 ho.1.2 h1 hb ?_, back_all hl hb ts vs ds q ho.2 h2, rfl⟩
    obtain ⟨m, hm⟩ := h1
    exact DataW.trod_lt m _ _ _ hm

theorem law_contract {C : Ctx} (hS : FnSound C (lim C)) {f : FuncId} {fn : Func} {tb : TypeId} {s : ChangeSpec} (hfn : C.P.funcs[f]? = some fn) (hmt : C.mt f = []) (hres : fn.resultTypes = #[tb]) (htb : C.P.underlying tb = some .bool)
    (hvars : s.vars = []) (hok : (fn.params.toList.all fun t => okT C.P 12 t) = true) (hl : laidOutB C.P = true) (hrd : (fn.params.toList.all fun t => C.P.readableRec t && decide (t < C.P.types.size)) = true)
    (hspec : ∀ ds : List (DataW H), ds.length = fn.params.size → (s.fn H ds).results = [.lit (.bool true)] ∧ (s.fn H ds).args = ds ∧ (s.fn H ds).vars = [])
    (law : ∀ vals, ArgsD C.P fn.params.toList vals → lim C (.func f) vals = some [.bool true])
    (base : Nat) (args : Array Value) (ds gs : List (DataW H)) (before : List MemPlace) (hval : ∀ (j : Nat) t v, fn.params[j]? = some t → args[j]? = some v → Value.okWide C.P W .any base t v)
    (hW : DataW.Whole enc C.P fn.params.toList s.vars false W args.toList ds gs before)
    (hsz : (DataW.weightsEach C.P (fn.params.toList ++ s.plain.varTypes C.P) (ds ++ gs)).all (· ≤ reachBytes) = true) :
    Calls C.P f args W fun e W' => ∃ v, e = .returned v ∧ s.post enc C.P fn false true false false W args v W' := by
  have hW' := hW
  obtain ⟨p, q, hA, hV, rfl, hfz, hnd⟩ := hW
  rw [hvars] at hV
  obtain ⟨rfl, rfl⟩ := trodVars_none hV
  have hlen : ∀ (ts : List TypeId) (vs : List Value) (ds : List (DataW H)) (ps : List MemPlace), DataW.TrodAll enc C.P W 0 (fun _ => true) true ts vs ds ps → ds.length = ts.length := by
    intro ts
    induction ts with
    | nil => intro vs ds ps h; obtain ⟨_, rfl, _⟩ := trodAll_nil h; rfl
    | cons t ts ih => intro vs ds ps h; obtain ⟨v, vs, d, ds, p, q, rfl, rfl, rfl, h1, h2⟩ := trodAll_cons h; simp [ih _ _ _ h2]
  have hln := hlen _ _ _ _ hA
  have hws : (DataW.weightsEach C.P fn.params.toList ds).all (· ≤ reachBytes) = true := by
    have : ∀ (ts ts' : List TypeId) (ds : List (DataW H)), ds.length = ts.length → DataW.weightsEach C.P (ts ++ ts') ds = DataW.weightsEach C.P ts ds := by
      intro ts
      induction ts with
      | nil => intro ts' ds h; obtain rfl := List.length_eq_zero_iff.1 h; cases ts' <;> rfl
      | cons t ts ih =>
        intro ts' ds h
        cases ds with
        | nil => simp at h
        | cons d ds => simp only [List.cons_append, DataW.weightsEach]; rw [ih ts' ds (by simpa using h)]
    rw [List.append_nil, this _ _ _ hln] at hsz
    exact hsz
  obtain ⟨vals, hD, hR⟩ := args_rel _ _ _ _ hA (fun j t v h1 h2 => hval j t v (by simpa using h1) (by simpa using h2)) hok hws
  have hlaw := law vals hD
  have hF := hS f vals _ hlaw fn W (allI W) args.toList [] hfn (by rw [hmt]; exact hR) (by simp) (by simp) (fun b hb => hb)
  have ha : args.toList.toArray = args := by simp
  rw [ha] at hF
  refine hF.mono ?_
  rintro e W' ⟨v, I', b1, b2, rfl, hq, hsize, hblk, _, _, _, hv, _, _, _⟩
  have hbel : Below W.heap.size W W' := ⟨hq.os, hq.tape, hq.output, hsize, fun k hk => hblk k hk (by simp)⟩
  have hv1 : v = .bool true := by
    rw [hres] at hv
    have : packR (([V.bool true]).take (#[tb] : Array TypeId).size) = .bool true := rfl
    rw [this] at hv
    cases hv; rfl
  subst hv1
  obtain ⟨s1, s2, s3⟩ := hspec (ds ++ []) (by simp [hln])
  refine ⟨_, rfl, ds, [], _, [], p, [], hW', ?_, ?_, ?_, hbel.frame _, fun h => by cases h⟩
  · rw [s1, hres]
    exact trodAll_mk1 (shut_bool htb true)
  · rw [s2, List.append_nil]
    exact back_all hl hbel _ _ _ _ hrd hA
  · rw [s3, hvars]; rfl
end Go.Lm
