/- The values of the abstract machine, and what it means that a value of the machine stands in memory as one of them. Places inside a tree: reading and replacing what stands there, and what that does to the memory relation. The abstract machine: what a slot holds, what one operation does, how a body runs. When a state of the abstract machine stands in memory. Elements of a node: where their cells lie, and what replacing them does. Reading, taking and putting, as they stand in memory. Reading and taking a slot's value. Reading and taking, sound. Small words for the operations' proofs. Loads and stores, sound. Load and store, sound. Store, sound. The small operations, sound. Numbers, fields, indexes, sound. -/
import Derived.Calls
import Derived.Orders
import Derived.Laws.Sem
import Derived.Laws.Entries
import Derived.Laws.Cells

namespace Go.Lm

/-- A value as a tree. A slice is the list of its elements; 'own': nobody else holds its array. -/
inductive V where
  | any
  | bool (b : Bool)
  | int (k : IntKind) (n : Int)
  | str (s : ByteArray)
  | sl (own : Bool) (sz : Nat) (es : List V)
  | box (x : V)
  | cptr (x : V) (j : Nat)
  | agg (cs : List V)
  | tup (vs : List V)
  | fn (f : FuncId) (caps : List V)
  | nil
  deriving Inhabited

def V.cells : V → List V
  | .agg cs => cs
  | v => [v]

/-- One cell: neither unknown nor several cells. -/
def V.isCell : V → Bool
  | .any => false
  | .agg _ => false
  | .tup _ => false
  | _ => true

def V.isLeaf : V → Bool
  | .bool _ => true
  | .int _ _ => true
  | .str _ => true
  | _ => false

mutual
def V.freeze : V → V
  | .sl _ sz es => .sl false sz (V.freezeL es)
  | .box x => .cptr x.freeze 0
  | .cptr x j => .cptr x j
  | .agg cs => .agg (V.freezeL cs)
  | .tup vs => .tup (V.freezeL vs)
  | .fn f caps => .fn f (V.freezeL caps)
  | v => v
def V.freezeL : List V → List V
  | [] => []
  | v :: vs => v.freeze :: V.freezeL vs
end

theorem V.freezeL_eq (l : List V) : V.freezeL l = l.map V.freeze := by
  induction l with
  | nil => simp [V.freezeL]
  | cons a l ih => simp [V.freezeL, ih]

theorem V.freezeL_append (l m : List V) : V.freezeL (l ++ m) = V.freezeL l ++ V.freezeL m := by
  simp [V.freezeL_eq]

theorem V.freeze_cells (v : V) : v.freeze.cells = V.freezeL v.cells := by
  cases v <;> simp [V.freeze, V.cells, V.freezeL]

theorem V.freeze_cells_length (v : V) : v.freeze.cells.length = v.cells.length := by
  rw [V.freeze_cells, V.freezeL_eq, List.length_map]

theorem V.freezeL_flat (es : List V) : V.freezeL (es.flatMap V.cells) = (V.freezeL es).flatMap V.cells := by
  induction es with
  | nil => simp [V.freezeL]
  | cons e es ih => simp [V.freezeL, V.freezeL_append, ih, V.freeze_cells]

abbrev Heap := Array Obj

/-- A value that one cell of memory can hold. -/
def isC : Value → Bool
  | .agg _ => false
  | .tuple _ => false
  | _ => true

mutual
/-- 'v' stands in memory as 'c'; 'bs': the blocks that v's own nodes hold, nobody else; 'I': the blocks that are never written. -/
inductive RelV (h : Heap) (I : Nat → Prop) : V → Value → List Nat → Prop
  | any (c : Value) : RelV h I .any c []
  | bool (b : Bool) : RelV h I (.bool b) (.bool b) []
  | int (k : IntKind) (n : Int) : RelV h I (.int k n) (.int k n) []
  | str (s : ByteArray) : RelV h I (.str s) (.string s) []
  | slE (sz : Nat) (a : Option Addr) (cap : Nat) : RelV h I (.sl false sz []) (.slice a 0 cap) []
  | slZ (own : Bool) (sz : Nat) (a : Option Addr) : RelV h I (.sl own sz []) (.slice a 0 0) []
  | sh (sz : Nat) (es : List V) (b off cap : Nat) (cs : Array Value) (el : TypeId) (fr : Nat × Nat)
      (hb : I b) (hh : h[b]? = some (.cells cs el fr)) (hc : es.length ≤ cap) (hs : off + es.length * sz ≤ cs.size)
      (hz : ∀ e ∈ es, e.cells.length = sz)
      (hl : RelL h I (es.flatMap V.cells) ((cs.toList.drop off).take (es.length * sz)) [])
      (hv : ∀ c ∈ (cs.toList.drop off).take (es.length * sz), isC c = true) :
      RelV h I (.sl false sz es) (.slice (some ⟨b, off, none⟩) es.length cap) []
  | ow (sz : Nat) (es : List V) (b off cap : Nat) (cs : Array Value) (el : TypeId) (fr : Nat × Nat) (bs : List Nat)
      (hh : h[b]? = some (.cells cs el fr)) (hf : ∀ k, k < cs.size → (fr.1 ≤ k && k < fr.2) = false) (hc : es.length ≤ cap) (hs : off + cap * sz ≤ cs.size)
      (hz : ∀ e ∈ es, e.cells.length = sz)
      (hl : RelL h I (es.flatMap V.cells) ((cs.toList.drop off).take (es.length * sz)) bs)
      (hv : ∀ c ∈ (cs.toList.drop off).take (es.length * sz), isC c = true) :
      RelV h I (.sl true sz es) (.slice (some ⟨b, off, none⟩) es.length cap) (b :: bs)
  | box (x : V) (b : Nat) (cs : Array Value) (el : TypeId) (fr : Nat × Nat) (bs : List Nat)
      (hh : h[b]? = some (.cells cs el fr)) (hf : ∀ k, k < cs.size → (fr.1 ≤ k && k < fr.2) = false) (hl : RelL h I x.cells cs.toList bs)
      (hv : ∀ c ∈ cs.toList, isC c = true) :
      RelV h I (.box x) (.pointer (some ⟨b, 0, none⟩)) (b :: bs)
  | cptr (x : V) (j b off : Nat) (cs : Array Value) (el : TypeId) (fr : Nat × Nat)
      (hb : I b) (hh : h[b]? = some (.cells cs el fr)) (hs : off + x.cells.length ≤ cs.size) (hj : j ≤ x.cells.length)
      (hl : RelL h I x.cells ((cs.toList.drop off).take x.cells.length) [])
      (hv : ∀ c ∈ (cs.toList.drop off).take x.cells.length, isC c = true) :
      RelV h I (.cptr x j) (.pointer (some ⟨b, off + j, none⟩)) []
  | agg (vs : List V) (cs : Array Value) (bs : List Nat) (hl : RelL h I vs cs.toList bs) : RelV h I (.agg vs) (.agg cs) bs
  | tup (vs : List V) (cs : Array Value) (bs : List Nat) (hl : RelL h I vs cs.toList bs) : RelV h I (.tup vs) (.tuple cs) bs
  | fn (f : FuncId) (vs : List V) (cs : Array Value) (bs : List Nat) (hl : RelL h I vs cs.toList bs) : RelV h I (.fn f vs) (.func (.func f) #[] cs) bs
  | nilP : RelV h I .nil (.pointer none) []
  | nilF : RelV h I .nil .nilFunc []
inductive RelL (h : Heap) (I : Nat → Prop) : List V → List Value → List Nat → Prop
  | nil : RelL h I [] [] []
  | cons (v : V) (c : Value) (b1 : List Nat) (vs : List V) (cs : List Value) (b2 : List Nat) (h1 : RelV h I v c b1) (h2 : RelL h I vs cs b2) :
      RelL h I (v :: vs) (c :: cs) (b1 ++ b2)
end

theorem RelL.length {h : Heap} {I : Nat → Prop} : ∀ {vs : List V} {cs : List Value} {bs : List Nat}, RelL h I vs cs bs → vs.length = cs.length
  | _, _, _, .nil => rfl
  | _, _, _, .cons _ _ _ _ _ _ _ h2 => by simp [RelL.length h2]

theorem RelL.append {h : Heap} {I : Nat → Prop} : ∀ {vs : List V} {cs : List Value} {bs : List Nat} {vs' : List V} {cs' : List Value} {bs' : List Nat},
    RelL h I vs cs bs → RelL h I vs' cs' bs' → RelL h I (vs ++ vs') (cs ++ cs') (bs ++ bs')
  | _, _, _, _, _, _, .nil, h' => h'
  | _, _, _, _, _, _, .cons _ _ _ _ _ _ h1 h2, h' => by
    simp only [List.cons_append, List.append_assoc]
    exact .cons _ _ _ _ _ _ h1 (RelL.append h2 h')

theorem RelL.split {h : Heap} {I : Nat → Prop} : ∀ {vs vs' : List V} {cs : List Value} {bs : List Nat}, RelL h I (vs ++ vs') cs bs →
    ∃ cs1 cs2 b1 b2, cs = cs1 ++ cs2 ∧ bs = b1 ++ b2 ∧ RelL h I vs cs1 b1 ∧ RelL h I vs' cs2 b2
  | [], _, cs, bs, h' => ⟨[], cs, [], bs, rfl, rfl, .nil, h'⟩
  | v :: vs, vs', _, _, .cons _ c b1 _ cs b2 h1 h2 => by
    obtain ⟨c1, c2, d1, d2, rfl, rfl, r1, r2⟩ := RelL.split (vs := vs) (vs' := vs') h2
    exact ⟨c :: c1, c2, b1 ++ d1, d2, rfl, by simp, .cons _ _ _ _ _ _ h1 r1, r2⟩

mutual
theorem RelV.mono {h h' : Heap} {I I' : Nat → Prop} (hI : ∀ b, I b → I' b) : ∀ {v : V} {c : Value} {bs : List Nat},
    RelV h I v c bs → (∀ b, I b ∨ b ∈ bs → h'[b]? = h[b]?) → RelV h' I' v c bs
  | _, _, _, .any c, _ => .any c
  | _, _, _, .bool b, _ => .bool b
  | _, _, _, .int k n, _ => .int k n
  | _, _, _, .str s, _ => .str s
  | _, _, _, .slE sz a cap, _ => .slE sz a cap
  | _, _, _, .slZ o sz a, _ => .slZ o sz a
  | _, _, _, .sh sz es b off cap cs el fr hb hh hc hs hz hl hv, hk =>
    .sh sz es b off cap cs el fr (hI _ hb) (by rw [hk b (.inl hb)]; exact hh) hc hs hz (RelL.mono hI hl hk) hv
  | _, _, _, .ow sz es b off cap cs el fr bs hh hf hc hs hz hl hv, hk =>
    .ow sz es b off cap cs el fr bs (by rw [hk b (.inr (by simp))]; exact hh) hf hc hs hz
      (RelL.mono hI hl fun r hr => hk r (hr.imp id fun hm => by simp [hm])) hv
  | _, _, _, .box x b cs el fr bs hh hf hl hv, hk =>
    .box x b cs el fr bs (by rw [hk b (.inr (by simp))]; exact hh) hf (RelL.mono hI hl fun r hr => hk r (hr.imp id fun hm => by simp [hm])) hv
  | _, _, _, .cptr x j b off cs el fr hb hh hs hj hl hv, hk =>
    .cptr x j b off cs el fr (hI _ hb) (by rw [hk b (.inl hb)]; exact hh) hs hj (RelL.mono hI hl hk) hv
  | _, _, _, .agg vs cs bs hl, hk => .agg vs cs bs (RelL.mono hI hl hk)
  | _, _, _, .tup vs cs bs hl, hk => .tup vs cs bs (RelL.mono hI hl hk)
  | _, _, _, .fn f vs cs bs hl, hk => .fn f vs cs bs (RelL.mono hI hl hk)
  | _, _, _, .nilP, _ => .nilP
  | _, _, _, .nilF, _ => .nilF
theorem RelL.mono {h h' : Heap} {I I' : Nat → Prop} (hI : ∀ b, I b → I' b) : ∀ {vs : List V} {cs : List Value} {bs : List Nat},
    RelL h I vs cs bs → (∀ b, I b ∨ b ∈ bs → h'[b]? = h[b]?) → RelL h' I' vs cs bs
  | _, _, _, .nil, _ => .nil
  | _, _, _, .cons v c b1 vs cs b2 h1 h2, hk =>
    .cons v c b1 vs cs b2 (RelV.mono hI h1 fun r hr => hk r (hr.imp id fun hm => by simp [hm]))
      (RelL.mono hI h2 fun r hr => hk r (hr.imp id fun hm => by simp [hm]))
end

mutual
/-- Frozen, the tree holds no block: those that it held are never written any more. -/
theorem RelV.frozen {h : Heap} {I I' : Nat → Prop} (hI : ∀ b, I b → I' b) : ∀ {v : V} {c : Value} {bs : List Nat},
    RelV h I v c bs → (∀ b ∈ bs, I' b) → RelV h I' v.freeze c []
  | _, _, _, .any c, _ => .any c
  | _, _, _, .bool b, _ => .bool b
  | _, _, _, .int k n, _ => .int k n
  | _, _, _, .str s, _ => .str s
  | _, _, _, .slE sz a cap, _ => .slE sz a cap
  | _, _, _, .slZ o sz a, _ => .slE sz a 0
  | _, _, _, .sh sz es b off cap cs el fr hb hh hc hs hz hl hv, _ => by
    have h1 : (V.freezeL es).length = es.length := by simp [V.freezeL_eq]
    have h2 := RelL.frozen hI hl (by simp)
    rw [V.freezeL_flat] at h2
    simp only [V.freeze]
    rw [← h1]
    refine .sh sz _ b off cap cs el fr (hI _ hb) hh (by rw [h1]; exact hc) (by rw [h1]; exact hs) ?_ (by rw [h1]; exact h2) (by rw [h1]; exact hv)
    intro e he
    rw [V.freezeL_eq] at he
    obtain ⟨e0, h0, rfl⟩ := List.mem_map.1 he
    rw [V.freeze_cells_length]; exact hz _ h0
  | _, _, _, .ow sz es b off cap cs el fr bs hh hf hc hs hz hl hv, hk => by
    have h1 : (V.freezeL es).length = es.length := by simp [V.freezeL_eq]
    have h2 := RelL.frozen hI hl (fun r hr => hk r (by simp [hr]))
    rw [V.freezeL_flat] at h2
    simp only [V.freeze]
    rw [← h1]
    refine .sh sz _ b off cap cs el fr (hk _ (by simp)) hh (by rw [h1]; exact hc) ?_ ?_ (by rw [h1]; exact h2) (by rw [h1]; exact hv)
    · rw [h1]; have := Nat.mul_le_mul_right sz hc; omega
    · intro e he
      rw [V.freezeL_eq] at he
      obtain ⟨e0, h0, rfl⟩ := List.mem_map.1 he
      rw [V.freeze_cells_length]; exact hz _ h0
  | _, _, _, .box x b cs el fr bs hh hf hl hv, hk => by
    have h2 := RelL.frozen hI hl (fun r hr => hk r (by simp [hr]))
    rw [← V.freeze_cells] at h2
    have h3 := h2.length
    simp only [V.freeze]
    refine .cptr x.freeze 0 b 0 cs el fr (hk _ (by simp)) hh (by simp at h3 ⊢; omega) (by simp) ?_ ?_
    · rw [List.drop_zero, List.take_of_length_le (by omega)]; exact h2
    · rw [List.drop_zero, List.take_of_length_le (by omega)]; exact hv
  | _, _, _, .cptr x j b off cs el fr hb hh hs hj hl hv, _ =>
    .cptr x j b off cs el fr (hI _ hb) hh hs hj (RelL.mono hI hl fun _ _ => rfl) hv
  | _, _, _, .agg vs cs bs hl, hk => .agg _ cs [] (RelL.frozen hI hl hk)
  | _, _, _, .tup vs cs bs hl, hk => .tup _ cs [] (RelL.frozen hI hl hk)
  | _, _, _, .fn f vs cs bs hl, hk => .fn f _ cs [] (RelL.frozen hI hl hk)
  | _, _, _, .nilP, _ => .nilP
  | _, _, _, .nilF, _ => .nilF
theorem RelL.frozen {h : Heap} {I I' : Nat → Prop} (hI : ∀ b, I b → I' b) : ∀ {vs : List V} {cs : List Value} {bs : List Nat},
    RelL h I vs cs bs → (∀ b ∈ bs, I' b) → RelL h I' (V.freezeL vs) cs []
  | _, _, _, .nil, _ => .nil
  | _, _, _, .cons v c b1 vs cs b2 h1 h2, hk =>
    .cons _ c [] _ cs [] (RelV.frozen hI h1 fun r hr => hk r (by simp [hr])) (RelL.frozen hI h2 fun r hr => hk r (by simp [hr]))
end

mutual
theorem RelV.lt {h : Heap} {I : Nat → Prop} : ∀ {v : V} {c : Value} {bs : List Nat}, RelV h I v c bs → ∀ b ∈ bs, b < h.size
  | _, _, _, .any _, _, hm | _, _, _, .bool _, _, hm | _, _, _, .int _ _, _, hm | _, _, _, .str _, _, hm | _, _, _, .slE _ _ _, _, hm
  | _, _, _, .slZ _ _ _, _, hm | _, _, _, .sh _ _ _ _ _ _ _ _ _ _ _ _ _ _ _, _, hm | _, _, _, .cptr _ _ _ _ _ _ _ _ _ _ _ _ _, _, hm
  | _, _, _, .nilP, _, hm | _, _, _, .nilF, _, hm => by simp at hm
  | _, _, _, .ow _ _ b _ _ _ _ _ bs hh _ _ _ _ hl _, r, hm => by
    rcases List.mem_cons.1 hm with rfl | hm
    · exact (Array.getElem?_eq_some_iff.1 hh).1
    · exact RelL.lt hl r hm
  | _, _, _, .box _ b _ _ _ bs hh _ hl _, r, hm => by
    rcases List.mem_cons.1 hm with rfl | hm
    · exact (Array.getElem?_eq_some_iff.1 hh).1
    · exact RelL.lt hl r hm
  | _, _, _, .agg _ _ _ hl, r, hm => RelL.lt hl r hm
  | _, _, _, .tup _ _ _ hl, r, hm => RelL.lt hl r hm
  | _, _, _, .fn _ _ _ _ hl, r, hm => RelL.lt hl r hm
theorem RelL.lt {h : Heap} {I : Nat → Prop} : ∀ {vs : List V} {cs : List Value} {bs : List Nat}, RelL h I vs cs bs → ∀ b ∈ bs, b < h.size
  | _, _, _, .nil, _, hm => by simp at hm
  | _, _, _, .cons _ _ _ _ _ _ h1 h2, r, hm => by
    rcases List.mem_append.1 hm with hm | hm
    · exact RelV.lt h1 r hm
    · exact RelL.lt h2 r hm
end

end Go.Lm

namespace Go.Lm

abbrev Path := List (Nat × Nat)

def V.isAgg : V → Bool
  | .agg _ => true
  | _ => false

theorem V.cells_one {v : V} (h : v.isAgg = false) : v.cells = [v] := by
  cases v <;> simp_all [V.isAgg, V.cells]

def V.setCell : V → Nat → V → V
  | .agg cs, j, x => .agg (cs.set j x)
  | v, 0, x => if v.isAgg then v else x
  | v, _ + 1, _ => v

theorem V.setCell_cells (v : V) (j : Nat) (x : V) (hx : x.isAgg = false) : (v.setCell j x).cells = v.cells.set j x := by
  cases v <;> cases j <;> simp [V.setCell, V.cells, V.isAgg] <;> exact V.cells_one hx

theorem V.setCell_cells_length (v : V) (j : Nat) (x : V) (hx : x.isAgg = false) : (v.setCell j x).cells.length = v.cells.length := by
  rw [V.setCell_cells v j x hx, List.length_set]

/-- What stands at place (i, j) of a node. -/
def V.child (v : V) (i j : Nat) : Option V :=
  match v with
  | .sl _ _ es => (es[i]?).bind fun e => e.cells[j]?
  | .box x => if i = 0 then x.cells[j]? else none
  | .agg cs => if i = 0 then cs[j]? else none
  | .tup vs => if i = 0 then vs[j]? else none
  | _ => none

def V.setChild (v : V) (i j : Nat) (x : V) : Option V :=
  match v with
  | .sl true sz es => (es[i]?).map fun e => .sl true sz (es.set i (e.setCell j x))
  | .box y => some (.box (y.setCell j x))
  | .agg cs => some (.agg (cs.set j x))
  | .tup vs => some (.tup (vs.set j x))
  | _ => none

def V.get : V → Path → Option V
  | v, [] => some v
  | v, (i, j) :: p => (v.child i j).bind fun x => x.get p

def V.put : V → Path → V → Option V
  | _, [], x => some x
  | v, (i, j) :: p, x => (v.child i j).bind fun y => if y.isAgg then none else (y.put p x).bind fun y' => v.setChild i j y'

/-- Where a node's cells lie. -/
def cellAt (h : Heap) (b k : Nat) : Option Value :=
  match h[b]? with
  | some (.cells cs _ _) => cs[k]?
  | _ => none

def childC (h : Heap) (v : V) (c : Value) (i j : Nat) : Option Value :=
  match v, c with
  | .sl _ sz _, .slice (some a) _ _ => cellAt h a.block (a.off + (i * sz + j))
  | .box _, .pointer (some a) => cellAt h a.block (a.off + j)
  | .agg _, .agg cs => cs[j]?
  | .tup _, .tuple cs => cs[j]?
  | _, _ => none

def walkC (h : Heap) : V → Value → Path → Option Value
  | _, c, [] => some c
  | v, c, (i, j) :: p => (childC h v c i j).bind fun c' => (v.child i j).bind fun x => walkC h x c' p

/-! Lists of cells. -/

theorem RelL.at {h : Heap} {I : Nat → Prop} : ∀ {vs : List V} {cs : List Value} {bs : List Nat} {k : Nat} {x : V}, RelL h I vs cs bs → vs[k]? = some x →
    ∃ c pre bx post, cs[k]? = some c ∧ bs = pre ++ bx ++ post ∧ RelV h I x c bx ∧
      ∀ h' I' x' c' bx', (∀ r, I r ∨ r ∈ pre ∨ r ∈ post → h'[r]? = h[r]?) → (∀ r, I r → I' r) → RelV h' I' x' c' bx' →
        RelL h' I' (vs.set k x') (cs.set k c') (pre ++ bx' ++ post)
  | _, _, _, _, _, .nil, hk => by simp at hk
  | _, _, _, 0, x, .cons v c b1 vs cs b2 h1 h2, hk => by
    obtain rfl : v = x := by simpa using hk
    refine ⟨c, [], b1, b2, rfl, by simp, h1, ?_⟩
    intro h' I' x' c' bx' hh hI hr
    simp only [List.set_cons_zero, List.nil_append]
    exact .cons _ _ _ _ _ _ hr (RelL.mono hI h2 fun r hr => hh r (by rcases hr with hr | hr <;> simp [hr]))
  | _, _, _, k + 1, x, .cons v c b1 vs cs b2 h1 h2, hk => by
    obtain ⟨c0, pre, bx, post, e1, rfl, e3, e4⟩ := RelL.at h2 (k := k) (x := x) (by simpa using hk)
    refine ⟨c0, b1 ++ pre, bx, post, by simpa using e1, by simp, e3, ?_⟩
    intro h' I' x' c' bx' hh hI hr
    have := e4 h' I' x' c' bx' (fun r hr => hh r (by rcases hr with hr | hr | hr <;> simp [hr])) hI hr
    simp only [List.set_cons_succ, List.append_assoc] at this ⊢
    exact .cons _ _ _ _ _ _ (RelV.mono hI h1 fun r hr => hh r (by rcases hr with hr | hr <;> simp [hr])) this

theorem list_set_self {α : Type} : ∀ (l : List α) (k : Nat) (x : α), l[k]? = some x → l.set k x = l
  | [], _, _, h => by simp at h
  | a :: l, 0, x, h => by simp at h; simp [h]
  | a :: l, k + 1, x, h => by simp at h; simp [list_set_self l k x h]

theorem flat_get {es : List V} {sz : Nat} (hz : ∀ e ∈ es, e.cells.length = sz) {i j : Nat} {e x : V} (hi : es[i]? = some e) (hj : e.cells[j]? = some x) :
    (es.flatMap V.cells)[i * sz + j]? = some x := by
  induction es generalizing i with
  | nil => simp at hi
  | cons a es ih =>
    have ha := hz a (by simp)
    cases i with
    | zero =>
      obtain rfl : a = e := by simpa using hi
      have hlt : j < a.cells.length := (List.getElem?_eq_some_iff.1 hj).1
      simp [List.getElem?_append_left hlt, hj]
    | succ i =>
      have := ih (fun e he => hz e (by simp [he])) (i := i) (by simpa using hi)
      rw [List.flatMap_cons, List.getElem?_append_right (by rw [ha, Nat.succ_mul]; omega), ha]
      rw [show (i + 1) * sz + j - sz = i * sz + j from by rw [Nat.succ_mul]; omega]; exact this

theorem flat_len {es : List V} {sz : Nat} (hz : ∀ e ∈ es, e.cells.length = sz) : (es.flatMap V.cells).length = es.length * sz := by
  induction es with
  | nil => simp
  | cons a es ih =>
    have ha := hz a (by simp)
    rw [List.flatMap_cons, List.length_append, ih (fun e he => hz e (by simp [he])), ha, List.length_cons, Nat.succ_mul]; omega

theorem flat_set {es : List V} {sz : Nat} (hz : ∀ e ∈ es, e.cells.length = sz) {i j : Nat} {e x : V} (hi : es[i]? = some e) (hj : j < e.cells.length)
    (hx : x.isAgg = false) : (es.set i (e.setCell j x)).flatMap V.cells = (es.flatMap V.cells).set (i * sz + j) x := by
  induction es generalizing i with
  | nil => simp at hi
  | cons a es ih =>
    have ha := hz a (by simp)
    cases i with
    | zero =>
      obtain rfl : a = e := by simpa using hi
      simp [List.flatMap_cons, V.setCell_cells _ _ _ hx, List.set_append_left _ _ hj]
    | succ i =>
      have := ih (fun e he => hz e (by simp [he])) (i := i) (by simpa using hi)
      simp only [List.set_cons_succ, List.flatMap_cons, this]
      rw [List.set_append_right _ _ (by rw [ha, Nat.succ_mul]; omega), ha]
      rw [show (i + 1) * sz + j - sz = i * sz + j from by rw [Nat.succ_mul]; omega]

theorem set_drop_take {α : Type} (l : List α) (off n k : Nat) (x : α) :
    (((l.set (off + k) x).drop off).take n) = ((l.drop off).take n).set k x := by
  rw [List.drop_set, if_neg (by omega), List.take_set]
  simp [show off + k - off = k from by omega]

/-! One step down. -/

/-- What a place's new content asks of the memory around it. -/
theorem child_rel {h : Heap} {I : Nat → Prop} {v : V} {c : Value} {bs : List Nat} {i j : Nat} {x : V} (hr : RelV h I v c bs) (hx : v.child i j = some x) :
    ∃ c', childC h v c i j = some c' ∧ ∃ pre bx post, bs = pre ++ bx ++ post ∧ RelV h I x c' bx ∧
      ∀ h' I' x' bx', (∀ r, I r ∨ r ∈ pre ∨ r ∈ post → h'[r]? = h[r]?) → (∀ r, I r → I' r) → x'.isAgg = false → RelV h' I' x' c' bx' →
        ∀ v', v.setChild i j x' = some v' → RelV h' I' v' c (pre ++ bx' ++ post) := by
  cases hr with
  | any | bool | int | str | cptr | fn | nilP | nilF => simp [V.child] at hx
  | slE | slZ => simp [V.child] at hx
  | sh sz _ b off cap cs el fr hb hh hc hs hz hl hv =>
    rename_i es
    simp only [V.child, Option.bind_eq_some_iff] at hx
    obtain ⟨e, hi, hj⟩ := hx
    have hlt : j < e.cells.length := (List.getElem?_eq_some_iff.1 hj).1
    have hil : i < es.length := (List.getElem?_eq_some_iff.1 hi).1
    have hze := hz e (List.mem_of_getElem? hi)
    have hk : i * sz + j < es.length * sz := by
      have := Nat.mul_le_mul_right sz (show i + 1 ≤ es.length by omega); rw [Nat.succ_mul] at this; omega
    obtain ⟨c', pre, bx, post, e1, e2, e3, _⟩ := RelL.at hl (flat_get hz hi hj)
    rw [List.getElem?_take_of_lt hk, List.getElem?_drop] at e1
    refine ⟨c', ?_, pre, bx, post, e2, e3, ?_⟩
    · simp [childC, cellAt, hh]; simpa using e1
    · intro h' I' x' bx' _ _ _ _ v' hv; simp [V.setChild] at hv
  | ow sz _ b off cap cs el fr bs hh hf hc hs hz hl hv =>
    rename_i es
    simp only [V.child, Option.bind_eq_some_iff] at hx
    obtain ⟨e, hi, hj⟩ := hx
    have hlt : j < e.cells.length := (List.getElem?_eq_some_iff.1 hj).1
    have hil : i < es.length := (List.getElem?_eq_some_iff.1 hi).1
    have hze := hz e (List.mem_of_getElem? hi)
    have hk : i * sz + j < es.length * sz := by
      have := Nat.mul_le_mul_right sz (show i + 1 ≤ es.length by omega); rw [Nat.succ_mul] at this; omega
    obtain ⟨c', pre, bx, post, e1, rfl, e3, e4⟩ := RelL.at hl (flat_get hz hi hj)
    have e1' := e1
    rw [List.getElem?_take_of_lt hk, List.getElem?_drop] at e1
    refine ⟨c', ?_, b :: pre, bx, post, by simp, e3, ?_⟩
    · simp [childC, cellAt, hh]; simpa using e1
    · intro h' I' x' bx' hk' hI hxa hrx v' hv
      simp only [V.setChild, hi, Option.map_some, Option.some.injEq] at hv
      subst hv
      have h1 : RelL h' I' ((es.set i (e.setCell j x')).flatMap V.cells) ((cs.toList.drop off).take (es.length * sz)) (pre ++ bx' ++ post) := by
        have := e4 h' I' x' c' bx' (fun r hr => hk' r (by rcases hr with hr | hr | hr <;> simp [hr])) hI hrx
        rw [list_set_self _ _ _ e1'] at this
        rw [flat_set hz hi hlt hxa]; exact this
      have h2 : (es.set i (e.setCell j x')).length = es.length := by simp
      rw [← h2]
      simp only [List.cons_append]
      refine .ow sz _ b off cap cs el fr _ (by rw [hk' b (.inr (.inl (by simp)))]; exact hh) hf (by rw [h2]; exact hc) hs ?_ (by rw [h2]; exact h1) (by rw [h2]; exact hv)
      intro e' he'
      rcases List.mem_or_eq_of_mem_set he' with he' | rfl
      · exact hz _ he'
      · rw [V.setCell_cells_length _ _ _ hxa]; exact hze
  | box y b cs el fr bs hh hf hl hvv =>
    simp only [V.child] at hx
    split at hx
    · obtain ⟨c', pre, bx, post, e1, rfl, e3, e4⟩ := RelL.at hl hx
      refine ⟨c', by simp [childC, cellAt, hh]; simpa using e1, b :: pre, bx, post, by simp, e3, ?_⟩
      intro h' I' x' bx' hk' hI hxa hrx v' hv
      simp only [V.setChild, Option.some.injEq] at hv
      subst hv
      have := e4 h' I' x' c' bx' (fun r hr => hk' r (by rcases hr with hr | hr | hr <;> simp [hr])) hI hrx
      rw [list_set_self _ _ _ e1] at this
      simp only [List.cons_append]
      exact .box _ b cs el fr _ (by rw [hk' b (.inr (.inl (by simp)))]; exact hh) hf (by rw [V.setCell_cells _ _ _ hxa]; exact this) hvv
    · simp at hx
  | agg vs cs bs hl =>
    simp only [V.child] at hx
    split at hx
    · obtain ⟨c', pre, bx, post, e1, rfl, e3, e4⟩ := RelL.at hl hx
      refine ⟨c', by simp [childC]; simpa using e1, pre, bx, post, rfl, e3, ?_⟩
      intro h' I' x' bx' hk' hI hxa hrx v' hv
      simp only [V.setChild, Option.some.injEq] at hv
      subst hv
      have := e4 h' I' x' c' bx' hk' hI hrx
      rw [list_set_self _ _ _ e1] at this
      exact .agg _ _ _ this
    · simp at hx
  | tup vs cs bs hl =>
    simp only [V.child] at hx
    split at hx
    · obtain ⟨c', pre, bx, post, e1, rfl, e3, e4⟩ := RelL.at hl hx
      refine ⟨c', by simp [childC]; simpa using e1, pre, bx, post, rfl, e3, ?_⟩
      intro h' I' x' bx' hk' hI hxa hrx v' hv
      simp only [V.setChild, Option.some.injEq] at hv
      subst hv
      have := e4 h' I' x' c' bx' hk' hI hrx
      rw [list_set_self _ _ _ e1] at this
      exact .tup _ _ _ this
    · simp at hx

theorem V.setChild_isAgg {v x : V} {i j : Nat} {v' : V} (h : v.setChild i j x = some v') : v'.isAgg = v.isAgg := by
  cases v with
  | sl o sz es =>
    cases o
    · simp [V.setChild] at h
    · simp only [V.setChild, Option.map_eq_some_iff] at h
      obtain ⟨_, _, rfl⟩ := h; rfl
  | box | agg | tup => simp only [V.setChild, Option.some.injEq] at h; subst h; rfl
  | _ => simp [V.setChild] at h

/-- The tree around a place: what stands there may be replaced. -/
theorem ctx {h : Heap} {I : Nat → Prop} : ∀ {p : Path} {v : V} {c : Value} {bs : List Nat} {x : V}, RelV h I v c bs → v.get p = some x →
    ∃ c', walkC h v c p = some c' ∧ ∃ pre bx post, bs = pre ++ bx ++ post ∧ RelV h I x c' bx ∧
      ∀ h' I' x' bx', (∀ r, I r ∨ r ∈ pre ∨ r ∈ post → h'[r]? = h[r]?) → (∀ r, I r → I' r) → (p ≠ [] → x'.isAgg = false) → RelV h' I' x' c' bx' →
        ∀ v', v.put p x' = some v' → RelV h' I' v' c (pre ++ bx' ++ post) := by
  intro p
  induction p with
  | nil =>
    intro v c bs x hr hx
    simp only [V.get, Option.some.injEq] at hx
    subst hx
    refine ⟨c, rfl, [], bs, [], by simp, hr, ?_⟩
    intro h' I' x' bx' _ _ _ hrx v' hv
    simp only [V.put, Option.some.injEq] at hv
    subst hv; simpa using hrx
  | cons ij p ih =>
    obtain ⟨i, j⟩ := ij
    intro v c bs x hr hx
    simp only [V.get, Option.bind_eq_some_iff] at hx
    obtain ⟨y, hy, hx⟩ := hx
    obtain ⟨c1, hc1, pre, bx, post, rfl, hry, hset⟩ := child_rel hr hy
    obtain ⟨c2, hc2, pre2, bx2, post2, rfl, hrx, hset2⟩ := ih hry hx
    refine ⟨c2, by simp [walkC, hc1, hy, hc2], pre ++ pre2, bx2, post2 ++ post, by simp, hrx, ?_⟩
    intro h' I' x' bx' hk hI ha hrx' v' hv
    simp only [V.put, Option.bind_eq_some_iff] at hv
    obtain ⟨y0, hy0, hv⟩ := hv
    obtain rfl : y = y0 := by rw [hy] at hy0; simpa using hy0
    split at hv
    · simp at hv
    rename_i hya0
    simp only [Option.bind_eq_some_iff] at hv
    obtain ⟨y', hy', hv⟩ := hv
    have h1 := hset2 h' I' x' bx' (fun r hr => hk r (by rcases hr with hr | hr | hr <;> simp [hr])) hI (fun _ => ha (by simp)) hrx' y' hy'
    have hya : y'.isAgg = false := by
      cases p with
      | nil => simp only [V.put, Option.some.injEq] at hy'; subst hy'; exact ha (by simp)
      | cons ij' p' =>
        obtain ⟨i', j'⟩ := ij'
        simp only [V.put, Option.bind_eq_some_iff] at hy'
        obtain ⟨z, hz, hy'⟩ := hy'
        split at hy'
        · simp at hy'
        simp only [Option.bind_eq_some_iff] at hy'
        obtain ⟨z', hz', hy'⟩ := hy'
        rw [V.setChild_isAgg hy']; simpa using hya0
    have h2 := hset h' I' y' _ (fun r hr => hk r (by rcases hr with hr | hr | hr <;> simp [hr])) hI hya h1 v' hv
    simpa [List.append_assoc] using h2

end Go.Lm

namespace Go.Lm

/-! Types, as the program's tables tell them. -/
section types
variable (P : Program)
def sizeT (t : TypeId) : Option Nat := (P.info? t).map (·.size)
def bytesT (t : TypeId) : Option Nat := (P.info? t).map (·.bytes)
def aggT (t : TypeId) : Option Bool :=
  match P.underlying t with
  | none => none
  | some (.struct _) => some true
  | some (.array _ _) => some true
  | some _ => some false
def leafT (t : TypeId) : Bool :=
  match P.underlying t with
  | some .bool => true
  | some (.int _) => true
  | some .string => true
  | _ => false
/-- No slice, pointer or function stands in a value of this type. -/
def pureT : Nat → TypeId → Bool
  | 0, _ => false
  | d + 1, t =>
    match P.underlying t with
    | some .bool => true
    | some (.int _) => true
    | some .string => true
    | some (.struct fs) => fs.all fun f => pureT d f.type
    | some (.array _ e) => pureT d e
    | some (.tuple ts) => ts.all fun u => pureT d u
    | _ => false
def elemT (t : TypeId) : Option TypeId :=
  match P.underlying t with
  | some (.slice e) => some e
  | _ => none
def fieldT (s : TypeId) (f : Nat) : Option (Nat × TypeId) :=
  match P.underlying s with
  | some (.struct fs) => (fs[f]?).map fun x => (x.offset, x.type)
  | _ => none
/-- A constant, or a zero cell, of a type. -/
def ofVal (t : TypeId) : Value → Option V
  | .bool b => some (.bool b)
  | .int k n => some (.int k n)
  | .string s => some (.str s)
  | .slice none 0 0 => (elemT P t).bind fun e => (sizeT P e).map fun n => .sl true n []
  | .pointer none => some .nil
  | .nilFunc => some .nil
  | _ => none
def cellsT : Nat → TypeId → List TypeId
  | 0, _ => []
  | d + 1, t =>
    match P.underlying t with
    | some (.struct fs) => fs.toList.flatMap fun f => cellsT d f.type
    | some (.array n e) => (List.replicate n (cellsT d e)).flatten
    | _ => [t]
def ofVals : List TypeId → List Value → Option (List V)
  | [], [] => some []
  | t :: ts, v :: vs => (ofVal P t v).bind fun x => (ofVals ts vs).map (x :: ·)
  | _, _ => none
def zeroT (t : TypeId) : Option V :=
  (P.info? t).bind fun i => i.zero.bind fun z =>
    match z with
    | .agg cs => if aggT P t = some true then (ofVals P (cellsT P 12 t) cs.toList).map V.agg else none
    | v => if aggT P t = some false then ofVal P t v else none
end types

/-! Slots, and programs over slots. -/

inductive Cap where
  | r (s st ct : Nat)
  | v (x : V)

inductive Bd where
  | val (v : V)
  | own (st ct : Nat) (v : V)
  | rv (s st ct : Nat) (p : Path)
  | rs (s st ct : Nat) (p : Path) (lo n : Nat)
  | rp (s st ct : Nat) (p : Path) (i j : Nat)
  | clo (f : FuncId) (caps : List Cap)

abbrev Env := Nat → Bd
def upd (E : Env) (s : Nat) (b : Bd) : Env := fun t => if t = s then b else E t

inductive Prg (α : Type) where
  | ret (a : α)
  | fail
  | get (s : Nat) (k : Bd → Prg α)
  | set (s : Nat) (b : Bd) (k : Prg α)

namespace Prg
def bind {α β : Type} : Prg α → (α → Prg β) → Prg β
  | .ret a, f => f a
  | .fail, _ => .fail
  | .get s k, f => .get s fun b => (k b).bind f
  | .set s b k, f => .set s b (k.bind f)
instance : Monad Prg where
  pure := Prg.ret
  bind := Prg.bind
def run {α : Type} : Prg α → Env → Option (α × Env)
  | .ret a, E => some (a, E)
  | .fail, _ => none
  | .get s k, E => (k (E s)).run E
  | .set s b k, E => k.run (upd E s b)
def need (c : Bool) : Prg Unit := if c then .ret () else .fail
def opt {α : Type} : Option α → Prg α
  | some a => .ret a
  | none => .fail
def getS (s : Nat) : Prg Bd := .get s .ret
def setS (s : Nat) (b : Bd) : Prg Unit := .set s b (.ret ())
end Prg
open Prg

/-- Nothing to hold on to. -/
def V.loose : V → Bool
  | .any => true
  | .bool _ => true
  | .int _ _ => true
  | .str _ => true
  | _ => false

/-- What stands at a place; a cell that holds a number, a bool or a string is no place to hold on to. -/
def Bd.at (b : Bd) (st ct : Nat) (p : Path) : Option V :=
  match b with
  | .own st' ct' v =>
    if st' = st then
      match p with
      | [] => some v
      | _ :: _ => if ct' = ct then (v.get p).bind fun x => if x.loose then none else some x else none
    else none
  | _ => none

/-- Nobody owns anything inside. -/
def V.shared : V → Bool
  | .sl o _ _ => !o
  | .agg cs => sharedL cs
  | .tup cs => sharedL cs
  | .fn _ cs => sharedL cs
  | .box _ => false
  | _ => true
where sharedL : List V → Bool
  | [] => true
  | v :: vs => v.shared && sharedL vs

/-- Nothing inside lies in memory. -/
def V.solid : V → Bool
  | .sl _ _ es => es.isEmpty
  | .agg cs => solidL cs
  | .tup cs => solidL cs
  | .fn _ cs => solidL cs
  | .box _ => false
  | .cptr _ _ => false
  | _ => true
where solidL : List V → Bool
  | [] => true
  | v :: vs => v.solid && solidL vs

/-- Numbers, bools, strings, and structs of them. -/
def V.plain : V → Bool
  | .bool _ => true
  | .int _ _ => true
  | .str _ => true
  | .agg cs => plainL cs
  | .tup cs => plainL cs
  | _ => false
where plainL : List V → Bool
  | [] => true
  | v :: vs => v.plain && plainL vs

/-- Everything inside is owned. -/
def V.deep : V → Bool
  | .sl o _ es => es.isEmpty || (o && deepL es)
  | .agg cs => deepL cs
  | .tup cs => deepL cs
  | .fn _ cs => deepL cs
  | .box x => x.deep
  | .cptr _ _ => false
  | _ => true
where deepL : List V → Bool
  | [] => true
  | v :: vs => v.deep && deepL vs

def V.elem (v : V) (i : Nat) : Option V :=
  match v with
  | .sl _ _ es => es[i]?
  | .box x => if i = 0 then some x else none
  | _ => none
def V.setElem (v : V) (i : Nat) (e : V) : Option V :=
  match v with
  | .sl true sz es => some (.sl true sz (es.set i e))
  | .box _ => some (.box e)
  | _ => none
def V.setCells (e : V) (j : Nat) (xs : List V) : V :=
  match e with
  | .agg cs => .agg (cs.take j ++ xs ++ cs.drop (j + xs.length))
  | v => match j, xs with
    | 0, [x] => x
    | _, _ => v

section ops
variable (P : Program)

def ev (x : Operand) (t : TypeId) : Prg Bd :=
  match x with
  | .tmp s => do
    match ← getS s with
    | .own st ct _ => pure (.rv s st ct [])
    | b => pure b
  | .const v => do pure (.val (← opt (ofVal P t v)))
  | .func f => pure (.val (.fn f []))
  | .global _ => .fail

/-- What stands at a place. -/
def rdAt (s st ct : Nat) (p : Path) : Prg V := do opt ((← getS s).at st ct p)

def wrAt (s st ct : Nat) (p : Path) (x : V) (ct' : Option Nat) : Prg Unit := do
  match ← getS s with
  | .own st' ct0 v => if st' = st ∧ (p = [] ∨ ct0 = ct) then do setS s (.own st' (ct'.getD ct0) (← opt (v.put p x))) else .fail
  | _ => .fail

def readCap : Cap → Prg V
  | .v x => pure x
  | .r s st ct => do
    match ← rdAt s st ct [] with
    | .box x => pure (.cptr x.freeze 0)
    | _ => .fail
def readCaps : List Cap → Prg (List V)
  | [] => pure []
  | c :: cs => do let x ← readCap c; let xs ← readCaps cs; pure (x :: xs)

/-- The value of a slot, read as data that nobody writes meanwhile. -/
def readB (b : Bd) : Prg V :=
  match b with
  | .val v => pure v
  | .own _ _ _ => .fail
  | .rv s st ct p => do pure (← rdAt s st ct p).freeze
  | .rs s st ct p lo n => do
    match ← rdAt s st ct p with
    | .sl _ sz es => if lo + n ≤ es.length then pure (.sl false sz (V.freezeL ((es.drop lo).take n))) else .fail
    | _ => .fail
  | .rp s st ct p i j => do
    let e ← opt ((← rdAt s st ct p).elem i)
    if j ≤ e.cells.length then pure (.cptr e.freeze j) else .fail
  | .clo f caps => do pure (.fn f (← readCaps caps))

def evV (x : Operand) (t : TypeId) : Prg V := do readB (← ev P x t)

def freezeCap : Cap → Prg V
  | .v x => pure x
  | .r s st ct => do
    match ← rdAt s st ct [] with
    | .box x => do setS s (.val (.cptr x.freeze 0)); pure (.cptr x.freeze 0)
    | _ => .fail
def freezeCaps : List Cap → Prg (List V)
  | [] => pure []
  | c :: cs => do let x ← freezeCap c; let xs ← freezeCaps cs; pure (x :: xs)

def clearAt (s st ct : Nat) (p : Path) : Prg Unit := if p = [] then setS s (.val .any) else wrAt s st ct p .any none

/-- The value of a slot, taken: what was owned is owned by the taker. -/
def takeB (b : Bd) : Prg (Bool × V) :=
  match b with
  | .val v => pure (false, v)
  | .own _ _ _ => .fail
  | .rv s st ct p => do
    let x ← rdAt s st ct p
    if x.shared then pure (false, x) else do
      clearAt s st ct p
      pure (true, x)
  | .rs s st ct p lo n => do
    match ← rdAt s st ct p with
    | .sl o sz es =>
      if lo + n ≤ es.length then
        if o then do
          clearAt s st ct p
          pure (true, .sl true sz ((es.drop lo).take n))
        else pure (false, .sl false sz ((es.drop lo).take n))
      else .fail
    | _ => .fail
  | .rp _ _ _ _ _ _ => .fail
  | .clo f caps => do pure (false, .fn f (← freezeCaps caps))

def mk (ow : Bool) (st : Nat) (v : V) : Bd := if ow then .own st st v else .val v

def putD (dst : Option Tmp) (b : Bd) : Prg Unit :=
  match dst with
  | some d => setS d b
  | none => pure ()

inductive Ptr where
  | c (x : V) (j : Nat)
  | r (s st ct : Nat) (p : Path) (i j : Nat)

def asPtr (b : Bd) : Prg Ptr :=
  match b with
  | .val (.cptr x j) => pure (.c x j)
  | .rp s st ct p i j => pure (.r s st ct p i j)
  | .rv s st ct p => do
    match ← rdAt s st ct p with
    | .box _ => pure (.r s st ct p 0 0)
    | .cptr x j => pure (.c x j)
    | _ => .fail
  | _ => .fail

def loadP (st0 : Nat) (dst : Option Tmp) (t : TypeId) (a : Bd) : Prg Unit := do
  let n ← opt (sizeT P t)
  let ag ← opt (aggT P t)
  match ← asPtr a with
  | .c x j =>
    if ag then do need (decide (j + n ≤ x.cells.length)); putD dst (.val (.agg ((x.cells.drop j).take n)))
    else do putD dst (.val (← opt (x.cells[j]?)))
  | .r s st ct p i j => do
    let nd ← rdAt s st ct p
    let e ← opt (nd.elem i)
    if ag then do
      need (decide (j + n ≤ e.cells.length))
      let cs := (e.cells.drop j).take n
      if pureT P 12 t then do need (V.shared.sharedL cs); putD dst (.val (.agg cs))
      else do
        let nd' ← opt (nd.setElem i (e.setCells j (V.freezeL cs)))
        wrAt s st ct p nd' (some st0)
        putD dst (.val (.agg (V.freezeL cs)))
    else do
      let x ← opt (e.cells[j]?)
      if x.shared then putD dst (.val x) else putD dst (.rv s st ct (p ++ [(i, j)]))

def storeP (st0 : Nat) (t : TypeId) (a x : Bd) : Prg Unit := do
  let n ← opt (sizeT P t)
  let ag ← opt (aggT P t)
  let (_, v) ← takeB x
  need (decide (v.cells.length = n) && (v.isAgg == ag) && v.cells.all V.isCell)
  match ← asPtr a with
  | .c _ _ => .fail
  | .r s st ct p i j => do
    let nd ← rdAt s st ct p
    let e ← opt (nd.elem i)
    need (decide (j + n ≤ e.cells.length))
    let nd' ← opt (nd.setElem i (e.setCells j v.cells))
    wrAt s st ct p nd' (some st0)

def takeParts (st0 : Nat) (tOf : Nat → Option TypeId) : List (Nat × Operand) → Prg (Bool × List (Nat × V))
  | [] => pure (false, [])
  | (i, x) :: rest => do
    let t ← opt (tOf i)
    let (o, v) ← takeB (← ev P x t)
    let (o', vs) ← takeParts st0 tOf rest
    pure (o || o', (i, v) :: vs)

def fillV (place : Nat → Option (Nat × Nat)) : List V → List (Nat × V) → Option (List V)
  | cs, [] => some cs
  | cs, (i, v) :: rest =>
    (place i).bind fun (off, n) =>
      if (v.cells.length = n ∧ off + n ≤ cs.length) ∧ v.cells.all V.isCell = true then fillV place (cs.take off ++ v.cells ++ cs.drop (off + n)) rest else none

def fillE (n : Nat) : List V → List (Nat × V) → Option (List V)
  | es, [] => some es
  | es, (i, v) :: rest => if (v.cells.length = n ∧ i < es.length) ∧ v.cells.all V.isCell = true then fillE n (es.set i v) rest else none

def asI : V → Option (IntKind × Int)
  | .int k n => some (k, n)
  | _ => none
def asB : V → Option Bool
  | .bool b => some b
  | _ => none

def indexP (dst : Option Tmp) (t : TypeId) (b : Bd) (n : Int) : Prg Unit := do
  match P.underlying t with
  | some (.slice e) => do
    let z ← opt (sizeT P e)
    match b with
    | .val (.sl _ sz es) => do
      need (decide (0 ≤ n ∧ n.toNat < es.length) && sz == z)
      putD dst (.val (.cptr (← opt (es[n.toNat]?)) 0))
    | .rv s st ct p => do
      match ← rdAt s st ct p with
      | .sl o sz es => do
        need (decide (0 ≤ n ∧ n.toNat < es.length) && sz == z)
        if o then putD dst (.rp s st ct p n.toNat 0) else putD dst (.val (.cptr (← opt (es[n.toNat]?)) 0))
      | _ => .fail
    | .rs s st ct p lo m => do
      match ← rdAt s st ct p with
      | .sl o sz es => do
        need (decide (0 ≤ n ∧ n.toNat < m ∧ lo + m ≤ es.length) && sz == z)
        if o then putD dst (.rp s st ct p (lo + n.toNat) 0) else putD dst (.val (.cptr (← opt (es[lo + n.toNat]?)) 0))
      | _ => .fail
    | _ => .fail
  | some (.array len e) => do
    let z ← opt (sizeT P e)
    need (decide (0 ≤ n ∧ n < len))
    match ← asPtr b with
    | .c x j => do need (decide (j + n.toNat * z ≤ x.cells.length)); putD dst (.val (.cptr x (j + n.toNat * z)))
    | .r s st ct p i j => do
      let _ ← rdAt s st ct p
      putD dst (.rp s st ct p i (j + n.toNat * z))
  | _ => .fail

def partV (t : TypeId) (cs : List V) (off : Nat) : Prg V := do
  let n ← opt (sizeT P t)
  let ag ← opt (aggT P t)
  if ag then do need (decide (off + n ≤ cs.length)); pure (.agg ((cs.drop off).take n))
  else opt (cs[off]?)

def binV (op : BinOp) (x y : V) : Option V :=
  match x, y with
  | .int k a, .int k' b =>
    match op with
    | .shl => if b < 0 then none else some (.int k (k.wrap (a * 2 ^ (min b.toNat k.bits))))
    | .shr => if b < 0 then none else some (.int k (a.fdiv (2 ^ (min b.toNat k.bits))))
    | _ =>
      if k = k' then
        match op with
        | .add => some (.int k (k.wrap (a + b)))
        | .sub => some (.int k (k.wrap (a - b)))
        | .mul => some (.int k (k.wrap (a * b)))
        | .quo => if b = 0 then none else some (.int k (k.wrap (a.tdiv b)))
        | .rem => if b = 0 then none else some (.int k (a.tmod b))
        | .and => some (.int k (k.wrap (BitVec.ofInt k.bits a &&& BitVec.ofInt k.bits b).toNat))
        | .or => some (.int k (k.wrap (BitVec.ofInt k.bits a ||| BitVec.ofInt k.bits b).toNat))
        | .xor => some (.int k (k.wrap (BitVec.ofInt k.bits a ^^^ BitVec.ofInt k.bits b).toNat))
        | .andNot => some (.int k (k.wrap (BitVec.ofInt k.bits a &&& ~~~(BitVec.ofInt k.bits b)).toNat))
        | .eql => some (.bool (a == b))
        | .neq => some (.bool (a != b))
        | .lss => some (.bool (decide (a < b)))
        | .leq => some (.bool (decide (a ≤ b)))
        | .gtr => some (.bool (decide (a > b)))
        | .geq => some (.bool (decide (a ≥ b)))
        | _ => none
      else none
  | .str a, .str b =>
    match op with
    | .add => if a.size + b.size ≤ 9223372036854775807 then some (.str (a ++ b)) else none
    | .eql => some (.bool (a.toList == b.toList))
    | .neq => some (.bool (!(a.toList == b.toList)))
    | .lss => some (.bool (Op.bytesLess a.toList b.toList))
    | .leq => some (.bool (Op.bytesLess a.toList b.toList || a.toList == b.toList))
    | .gtr => some (.bool (!(Op.bytesLess a.toList b.toList || a.toList == b.toList)))
    | .geq => some (.bool (!Op.bytesLess a.toList b.toList))
    | _ => none
  | _, _ => none

def unV (op : UnOp) (x : V) : Option V :=
  match op, x with
  | .neg, .int k n => some (.int k (k.wrap (0 - n)))
  | .not, .bool b => some (.bool (!b))
  | _, _ => none

def bytesOf : List V → Option (List UInt8)
  | [] => some []
  | .int .u8 n :: r => (bytesOf r).map (UInt8.ofNat n.toNat :: ·)
  | _ => none

def convP (st0 : Nat) (dst : Option Tmp) (src to : TypeId) (x : Operand) : Prg Unit := do
  let v ← evV P x src
  match P.underlying src, P.underlying to, v with
  | some _, some (.int k), .int _ n => putD dst (.val (.int k (k.wrap n)))
  | some _, some .string, .str s => putD dst (.val (.str s))
  | some (.slice e), some .string, .sl _ _ es =>
    match P.underlying e with
    | some (.int .u8) => do putD dst (.val (.str ⟨(← opt (bytesOf es)).toArray⟩))
    | _ => .fail
  | some _, some (.slice e), .str s =>
    match P.underlying e with
    | some (.int .u8) => do
      need (decide (s.size ≤ 1099511627776))
      putD dst (.own st0 st0 (.sl true 1 (s.data.toList.map fun b => .int .u8 b.toNat)))
    | _ => .fail
  | _, _, _ => .fail

def sliceP (dst : Option Tmp) (t : TypeId) (b : Bd) (lo hi : Option Int) : Prg Unit := do
  let l := lo.getD 0
  need (decide (0 ≤ l))
  match P.underlying t with
  | some .string => do
    match ← readB b with
    | .str s => do
      let h := hi.getD s.size
      need (decide (l ≤ h ∧ h ≤ s.size))
      putD dst (.val (.str (s.extract l.toNat h.toNat)))
    | _ => .fail
  | some (.slice e) => do
    let z ← opt (sizeT P e)
    match b with
    | .val (.sl _ sz es) => do
      let h := hi.getD es.length
      need (decide (l ≤ h ∧ h ≤ es.length) && sz == z)
      putD dst (.val (.sl false sz ((es.drop l.toNat).take (h.toNat - l.toNat))))
    | .rv s st ct p => do
      match ← rdAt s st ct p with
      | .sl o sz es => do
        let h := hi.getD es.length
        need (decide (l ≤ h ∧ h ≤ es.length) && sz == z)
        if o then putD dst (.rs s st ct p l.toNat (h.toNat - l.toNat))
        else putD dst (.val (.sl false sz ((es.drop l.toNat).take (h.toNat - l.toNat))))
      | _ => .fail
    | .rs s st ct p lo0 n => do
      match ← rdAt s st ct p with
      | .sl o sz es => do
        let h := hi.getD n
        need (decide (l ≤ h ∧ h ≤ n ∧ lo0 + n ≤ es.length) && sz == z && o)
        putD dst (.rs s st ct p (lo0 + l.toNat) (h.toNat - l.toNat))
      | _ => .fail
    | _ => .fail
  | _ => .fail

def lenP (dst : Option Tmp) (t : TypeId) (b : Bd) : Prg Unit := do
  match P.underlying t with
  | some .string => do
    match ← readB b with
    | .str s => putD dst (.val (.int .i64 s.size))
    | _ => .fail
  | some (.array n _) => putD dst (.val (.int .i64 n))
  | some (.slice _) => do
    match b with
    | .val (.sl _ _ es) => putD dst (.val (.int .i64 es.length))
    | .rv s st ct p => do
      match ← rdAt s st ct p with
      | .sl _ _ es => putD dst (.val (.int .i64 es.length))
      | _ => .fail
    | .rs s st ct p _ n => do
      let _ ← rdAt s st ct p
      putD dst (.val (.int .i64 n))
    | _ => .fail
  | _ => .fail

/-- Numbers, bools and strings alone. -/
def leaves (es : List V) : Bool := es.all fun x => x.cells.all V.isLeaf

/-- The elements that an append takes. -/
def appended (e : TypeId) (b : Bd) : Prg (Nat × List V) := do
  if pureT P 12 e then
    match ← readB b with
    | .sl _ sz es => do need (leaves es); pure (sz, es)
    | _ => .fail
  else
    match ← takeB b with
    | (_, .sl _ sz es) => pure (sz, es)
    | _ => .fail

def appendP (st0 : Nat) (dst : Option Tmp) (t0 t1 : TypeId) (a b : Bd) : Prg Unit := do
  let e ← opt (elemT P t0)
  let e1 ← opt (elemT P t1)
  let z ← opt (sizeT P e)
  let z1 ← opt (sizeT P e1)
  let by_ ← opt (bytesT P e)
  let z0 ← opt (zeroT P e)
  need (decide (z0.cells.length = z ∧ 0 < z) && z0.cells.all V.isCell)
  match ← takeB a with
  | (_, .sl true sz es) => do
    let (sz1, xs) ← appended P e b
    need (sz == z && (sz1 == z || xs.isEmpty) && z1 == z)
    need (decide ((es.length + xs.length) * by_ ≤ 70368744177664 ∧ 0 < by_))
    putD dst (.own st0 st0 (.sl true z (es ++ xs)))
  | _ => .fail

def minmax (isMin : Bool) : V → List V → Option V
  | v, [] => some v
  | .int k a, .int _ b :: r => minmax isMin (.int k (if isMin then (if b < a then b else a) else (if b > a then b else a))) r
  | _, _ => none

def evVs : List (Operand × TypeId) → Prg (List V)
  | [] => pure []
  | (x, t) :: r => do let v ← evV P x t; let vs ← evVs r; pure (v :: vs)

end ops

/-! Calls, bodies. -/

inductive Lk where
  | val | own
  | ref (s : Nat)

inductive Key where
  | func (f : FuncId)
  | at_ (f : FuncId) (id : Nat)

/-- What is said of a program besides its text: which arguments are lent to be written, which results are new memory throughout, where a run is cut. -/
structure Ctx where
  P : Program
  mt : FuncId → List Bool
  ext : FuncId → List V → Option (List V)
  cuts : FuncId → List (Nat × List (Nat × Lk))

abbrev Sem_ := Key → List V → Option (List V)

section run
variable (C : Ctx) (m : Sem_)

/-- Where an argument lies that is lent to be written. -/
structure Place where
  s : Nat
  st : Nat
  ct : Nat
  p : Path

/-- First the arguments that are lent to be written are taken out. -/
def lend1 (wr : Bool) (x : Operand) (t : TypeId) : Prg (Option (V × Place)) :=
  if wr then do
    match ← ev C.P x t with
    | .rv s st ct p => do
      let v ← rdAt s st ct p
      clearAt s st ct p
      pure (some (v, ⟨s, st, ct, p⟩))
    | _ => .fail
  else pure none
def lendP : List Bool → List (Operand × TypeId) → Prg (List (Option (V × Place)))
  | _, [] => pure []
  | ws, (x, t) :: r => do
    let a ← lend1 C (ws.headD false) x t
    let as ← lendP ws.tail r
    pure (a :: as)

/-- Is this value read out of memory that somebody owns? -/
def lentFlag (b : Bd) (v : V) : Bool :=
  match b with
  | .val _ => false
  | _ => !v.plain

/-- Then the others are read; what is held by the operand's own slot goes over to what nobody writes. -/
def readRoot (s st ct : Nat) : Prg (V × Bool) := do
  match ← rdAt s st ct [] with
  | .box y => pure (.cptr y.freeze 0, true)
  | y => do
    setS s (.val y.freeze)
    pure (y.freeze, false)
def read1 (x : Operand) (t : TypeId) : Prg (V × Bool) := do
  let b ← ev C.P x t
  match x, b with
  | .tmp s', .rv s st ct [] => if s = s' then readRoot s st ct else do
    let v ← readB b
    pure (v, lentFlag b v)
  | _, _ => do
    let v ← readB b
    pure (v, lentFlag b v)
def readP : List (Option (V × Place)) → List (Operand × TypeId) → Prg (List V × Bool)
  | _, [] => pure ([], false)
  | some (v, _) :: ls, _ :: r => do
    let (vs, f) ← readP ls r
    pure (v :: vs, f)
  | none :: ls, (x, t) :: r => do
    let (v, f) ← read1 C x t
    let (vs, f') ← readP ls r
    pure (v :: vs, f || f')
  | [], _ => .fail

/-- What was lent comes back. -/
def back1 (st0 : Nat) (q : Place) (v : V) : Prg Unit :=
  match q.p with
  | [] => setS q.s (.own st0 st0 v)
  | _ :: _ => do
    need (!v.isAgg)
    wrAt q.s q.st q.ct q.p v (some st0)
def giveBack (st0 : Nat) : List (Option (V × Place)) → List V → Prg Unit
  | [], [] => pure ()
  | some (_, q) :: ls, v :: vs => do
    back1 st0 q v
    giveBack (st0 + 1) ls vs
  | none :: ls, vs => giveBack st0 ls vs
  | _, _ => .fail

def packR : List V → V
  | [v] => v
  | vs => .tup vs

def callP (st0 : Nat) (dst : Option Tmp) (f : FuncId) (vals : List V) (flag : Bool) (ls : List (Option (V × Place))) : Prg Unit := do
  let fn ← opt (C.P.funcs[f]?)
  need (fn.body.isSome && fn.name != "runtime.NumGoroutine")
  let outs ← opt (m (.func f) vals)
  let k := fn.resultTypes.size
  let pu := fn.resultTypes.all fun u => pureT C.P 12 u
  need (decide (k ≤ outs.length) && decide (ls.length ≤ 14 ∧ (C.mt f).length ≤ ls.length) && (!pu || V.plain.plainL (outs.take k)) && (!flag || (pu && outs.length == k) || V.deep.deepL outs))
  giveBack (st0 + 1) ls (outs.drop k)
  putD dst (mk (!pu) st0 (packR (outs.take k)))

def calleeP (st0 : Nat) (o : Oper) (c : Call) : Prg Unit := do
  let args := c.args.toList.zip c.argTypes.toList
  need (decide (c.args.size = c.argTypes.size))
  match c.callee with
  | .builtin .len => match args with
    | [(x, t)] => do lenP C.P o.dst t (← ev C.P x t)
    | _ => .fail
  | .builtin .append => match args with
    | [(x, t), (y, u)] => do let a ← ev C.P x t; let b ← ev C.P y u; appendP C.P st0 o.dst t u a b
    | _ => .fail
  | .builtin .min => do
    match ← evVs C.P args with
    | v :: vs => do need (!vs.isEmpty); putD o.dst (.val (← opt (minmax true v vs)))
    | [] => .fail
  | .builtin .max => do
    match ← evVs C.P args with
    | v :: vs => do need (!vs.isEmpty); putD o.dst (.val (← opt (minmax false v vs)))
    | [] => .fail
  | .value (.func f) => do
    let ls ← lendP C (C.mt f) args
    let (vs, flag) ← readP C ls args
    callP C m st0 o.dst f vs flag ls
  | .value x => do
    match ← ev C.P x 0 with
    | .val (.fn f caps) => do
      let ls ← lendP C (C.mt f) args
      let (vs, flag) ← readP C ls args
      callP C m st0 o.dst f (vs ++ caps) flag ls
    | .clo f caps => do
      let ls ← lendP C (C.mt f) args
      let (vs, flag) ← readP C ls args
      let cs ← readCaps caps
      callP C m st0 o.dst f (vs ++ cs) (flag || !caps.isEmpty) ls
    | _ => .fail
  | _ => .fail

def intOpt (x : Option Operand) : Prg (Option Int) :=
  match x with
  | none => pure none
  | some x => do
    match ← evV C.P x 0 with
    | .int _ n => pure (some n)
    | _ => .fail

def capsOf : List Operand → Prg (List Cap)
  | [] => pure []
  | x :: xs => do
    let c ← (do
      match ← ev C.P x 0 with
      | .rv s st ct [] => pure (Cap.r s st ct)
      | .val v => pure (Cap.v v)
      | _ => .fail)
    let cs ← capsOf xs
    pure (c :: cs)

/-- One operation; 'st0': a stamp that no other has. -/
def opP (st0 : Nat) (o : Oper) : Prg Unit :=
  match o.op with
  | .move x => do putD o.dst (← ev C.P x o.type)
  | .assign x => do
    let b ← ev C.P x o.type
    let (ow, v) ← takeB b
    putD o.dst (mk ow st0 v)
    match b, o.dst, ow with
    | .rv s _ _ [], some d, true => if s = d then pure () else setS s (.rv d st0 st0 [])
    | _, _, _ => pure ()
  | .pick c a b => do
    match ← evV C.P c 0 with
    | .bool true => do let v ← evV C.P a o.type; need v.solid; putD o.dst (.val v)
    | .bool false => do let v ← evV C.P b o.type; need v.solid; putD o.dst (.val v)
    | _ => .fail
  | .alloc e => do
    let z ← opt (zeroT C.P e)
    need (z.cells.all V.isCell)
    putD o.dst (.own st0 st0 (.box z))
  | .box e x => do
    let (_, v) ← takeB (← ev C.P x e)
    need (v.cells.all V.isCell)
    putD o.dst (.own st0 st0 (.box v))
  | .build t parts => do
    match (← opt (zeroT C.P t)), C.P.underlying t with
    | .agg zs, some (.struct fs) => do
      need (fs.toList.all fun f => (sizeT C.P f.type).isSome)
      let (ow, vs) ← takeParts C.P st0 (fun i => (fs[i]?).map (·.type)) parts.toList
      let cs ← opt (fillV (fun i => (fs[i]?).bind fun f => (sizeT C.P f.type).map fun n => (f.offset, n)) zs vs)
      putD o.dst (mk ow st0 (.agg cs))
    | .agg zs, some (.array _ e) => do
      let n ← opt (sizeT C.P e)
      let (ow, vs) ← takeParts C.P st0 (fun _ => some e) parts.toList
      let cs ← opt (fillV (fun i => some (i * n, n)) zs vs)
      putD o.dst (mk ow st0 (.agg cs))
    | _, _ => .fail
  | .buildSlice t len parts => do
    let e ← opt (elemT C.P t)
    let n ← opt (sizeT C.P e)
    let (_, vs) ← takeParts C.P st0 (fun _ => some e) parts.toList
    need (decide (len * n ≤ 65536 ∧ 0 < n))
    let z ← opt (zeroT C.P e)
    need (decide (z.cells.length = n))
    let es ← opt (fillE n (List.replicate len z) vs)
    need (z.cells.all V.isCell)
    putD o.dst (.own st0 st0 (.sl true n es))
  | .load t a => do loadP C.P st0 o.dst t (← ev C.P a 0)
  | .store t a x => do
    need o.dst.isNone
    let ba ← ev C.P a 0
    let bx ← ev C.P x t
    storeP C.P st0 t ba bx
  | .nilCheck x => do
    let b ← ev C.P x o.type
    match b with
    | .val (.cptr _ _) => putD o.dst b
    | .val (.fn _ _) => putD o.dst b
    | .rp s st ct p _ _ => do
      let _ ← rdAt s st ct p
      putD o.dst b
    | .clo _ _ => putD o.dst b
    | .rv s st ct p => do
      match ← rdAt s st ct p with
      | .box _ => putD o.dst b
      | .cptr x j => putD o.dst (.val (.cptr x j))
      | _ => .fail
    | _ => .fail
  | .binOp op xt x y yt => do
    let vx ← evV C.P x xt
    let vy ← evV C.P y yt
    putD o.dst (.val (← opt (binV op vx vy)))
  | .unOp op xt x => do putD o.dst (.val (← opt (unV op (← evV C.P x xt))))
  | .convert src dst x => convP C.P st0 o.dst src dst x
  | .makeFunc (.func f) first caps => do
    need first.isEmpty
    let cs ← capsOf C caps.toList
    putD o.dst (if cs.isEmpty then .val (.fn f []) else .clo f cs)
  | .makeSlice t l c => do
    let e ← opt (elemT C.P t)
    let n ← opt (sizeT C.P e)
    let by_ ← opt (bytesT C.P e)
    let z ← opt (zeroT C.P e)
    match (← evV C.P l 3), (← evV C.P c 3) with
    | .int _ a, .int _ b => do
      need (decide (0 ≤ a ∧ a ≤ b ∧ b ≤ 1099511627776 ∧ b * by_ ≤ 70368744177664 ∧ 0 < n ∧ z.cells.length = n) && z.cells.all V.isCell && z.shared)
      putD o.dst (.own st0 st0 (.sl true n (List.replicate a.toNat z)))
    | _, _ => .fail
  | .slice t x lo hi none => do
    let b ← ev C.P x t
    let l ← intOpt C lo
    let h ← intOpt C hi
    sliceP C.P o.dst t b l h
  | .fieldAddr s x f => do
    let (off, u) ← opt (fieldT C.P s f)
    need ((sizeT C.P u).any fun n => decide (0 < n))
    match ← asPtr (← ev C.P x 0) with
    | .c y j => do need (decide (j + off ≤ y.cells.length)); putD o.dst (.val (.cptr y (j + off)))
    | .r sl st ct p i j => do
      let _ ← rdAt sl st ct p
      putD o.dst (.rp sl st ct p i (j + off))
  | .field s x f => do
    let (off, u) ← opt (fieldT C.P s f)
    match ← ev C.P x s with
    | .val (.agg cs) => do putD o.dst (.val (← partV C.P u cs off))
    | .rv sl st ct p => do
      match ← rdAt sl st ct p with
      | .agg cs => do
        let v ← partV C.P u cs off
        if v.shared then putD o.dst (.val v) else do
          need (!v.isAgg)
          putD o.dst (.rv sl st ct (p ++ [(0, off)]))
      | _ => .fail
    | _ => .fail
  | .indexAddr t x ix => do
    let b ← ev C.P x t
    match ← evV C.P ix 3 with
    | .int _ n => indexP C.P o.dst t b n
    | _ => .fail
  | .index t x ix => do
    match (← evV C.P x t), (← evV C.P ix 3), C.P.underlying t with
    | .str s, .int _ n, some .string => do
      need (decide (0 ≤ n ∧ n.toNat < s.size))
      putD o.dst (.val (.int .u8 ((s.data.getD n.toNat 0).toNat : Nat)))
    | .agg cs, .int _ n, some (.array len e) => do
      let z ← opt (sizeT C.P e)
      need (decide (0 ≤ n ∧ n < len))
      let v ← partV C.P e cs (n.toNat * z)
      need v.solid
      putD o.dst (.val v)
    | _, _, _ => .fail
  | .extract x i => do
    match ← ev C.P x 0 with
    | .val (.tup vs) => do putD o.dst (.val (← opt (vs[i]?)))
    | .rv s st ct [] => do
      match ← rdAt s st ct [] with
      | .tup vs => do
        let v ← opt (vs[i]?)
        if v.shared then putD o.dst (.val v) else do
          wrAt s st ct [] (.tup (vs.set i .any)) none
          putD o.dst (.own st0 st0 v)
      | _ => .fail
    | _ => .fail
  | .call c => calleeP C m st0 o c
  | _ => .fail

/-- An operation that a guard may leave out. -/
def guardP (ops : Array Oper) (st0 : Nat) (o : Oper) : Prg Unit :=
  match o.guard with
  | none => opP C m st0 o
  | some (j, want) =>
    match (ops[j]?).bind (·.dst) with
    | some d => do
      match ← getS d with
      | .val (.bool b) => if b = want then opP C m st0 o else putD o.dst (.val (.tup []))
      | .val (.tup []) => putD o.dst (.val (.tup []))
      | _ => .fail
    | none => .fail

/-- The marks that a program over slots reads and writes on its way. -/
def Prg.foot {α : Type} : Prg α → Env → Nat × Nat
  | .ret _, _ => (0, 0)
  | .fail, _ => (0, 0)
  | .get s k, E => let (r, w) := (k (E s)).foot E; (r ||| 1 <<< s, w)
  | .set s b k, E => let (r, w) := k.foot (upd E s b); (r, w ||| 1 <<< s)

def opsP (ops : Array Oper) (clk : Nat) : Nat → List Oper → Env → Option Env
  | _, [], E => some E
  | i, o :: r, E => ((guardP C m ops (clk + 16 * i) o).run E).bind fun x => opsP ops clk (i + 1) r x.2

def feet (ops : Array Oper) (clk : Nat) : Nat → List Oper → Env → List (Nat × Nat)
  | _, [], _ => []
  | i, o :: r, E =>
    (guardP C m ops (clk + 16 * i) o).foot E :: (match (guardP C m ops (clk + 16 * i) o).run E with
      | some x => feet ops clk (i + 1) r x.2
      | none => [])

/-- No two operations meet in a slot, unless the text's order binds them. -/
def apart (b : Array Nat) (fs : List (Nat × Nat)) : Bool :=
  let l := fs.zipIdx
  l.all fun (y, j) => l.all fun (x, i) => !(i < j) || (b.getD j 0).testBit i ||
    ((x.2 &&& (y.1 ||| y.2) == 0) && (x.1 &&& y.2 == 0))

def regionP (ops : Array Oper) (draw : Bool) (clk : Nat) (E : Env) : Option Env :=
  if draw then
    if apart (Region.before ops) (feet C m ops clk 0 ops.toList E) then opsP C m ops clk 0 ops.toList E else none
  else opsP C m ops clk 0 ops.toList E

def firstId : Code → Option Nat
  | .region id _ _ => some id
  | .seq .skip b => firstId b
  | .seq a _ => firstId a
  | .block _ c => firstId c
  | .loop c => firstId c
  | _ => none

def liveOut (E : Env) : List (Nat × Lk) → Option (List V)
  | [] => some []
  | (s, .val) :: r => match E s with
    | .val v => (liveOut E r).map (v :: ·)
    | _ => none
  | (s, .own) :: r => match E s with
    | .own _ _ v => (liveOut E r).map (v :: ·)
    | .val .any => none
    | .val v => (liveOut E r).map (v :: ·)
    | _ => none
  | (s, .ref d) :: r => match E s, E d with
    | .rv d' st _ [], .own st' _ _ => if d' = d ∧ st = st' then liveOut E r else none
    | _, _ => none

def liveIn : List (Nat × Lk) → List V → Option Env
  | [], [] => some fun _ => .val .any
  | (s, .val) :: r, v :: vs => (liveIn r vs).map fun E => upd E s (.val v)
  | (s, .own) :: r, v :: vs => (liveIn r vs).map fun E => upd E s (.own s s v)
  | (s, .ref d) :: r, vs => (liveIn r vs).map fun E => upd E s (.rv d d d [])
  | _, _ => none

def cut (f : FuncId) (id : Nat) (lv : List (Nat × Lk)) (E : Env) : Option (List V) :=
  (liveOut E lv).bind fun vs => m (.at_ f id) vs

def resP : List ResultVar → Prg (List V)
  | [] => pure []
  | .tmp t :: r => do
    let (_, v) ← takeB (← ev C.P (.tmp t) 0)
    let vs ← resP r
    pure (v :: vs)
  | .cell a t :: r => do
    let n ← opt (sizeT C.P t)
    let ag ← opt (aggT C.P t)
    match ← ev C.P (.tmp a) 0 with
    | .rv s st ct [] => do
      match ← rdAt s st ct [] with
      | .box x => do
        need (x.isAgg == ag && decide (x.cells.length = n))
        setS s (.val .any)
        let vs ← resP r
        pure (x :: vs)
      | _ => .fail
    | _ => .fail

def outP : Nat → List Bool → Prg (List V)
  | _, [] => pure []
  | i, true :: r => do
    match ← getS i with
    | .own st _ v => if st = i then do let vs ← outP (i + 1) r; pure (v :: vs) else do let vs ← outP (i + 1) r; pure (.any :: vs)
    | _ => do let vs ← outP (i + 1) r; pure (.any :: vs)
  | i, false :: r => outP (i + 1) r

def finP (fn : Func) (mt : List Bool) : Prg (List V) := do
  need (decide (fn.results.size = fn.resultTypes.size))
  let rs ← resP C fn.results.toList
  let os ← outP 0 mt
  pure (rs ++ os)

def fin (f : FuncId) (E : Env) : Option (List V) :=
  (C.P.funcs[f]?).bind fun fn => ((finP C fn (C.mt f)).run E).map (·.1)

abbrev Kont := Nat → Env → Option (List V)

/-- From here to the function's end, or to the next cut. -/
def runC (f : FuncId) : Code → Kont → (Nat → Kont) → Kont
  | .skip, k, _ => k
  | .region id ops draw, k, _ => fun clk E =>
    match (C.cuts f).lookup id with
    | some lv => cut m f id lv E
    | none => (regionP C m ops draw clk E).bind fun E' => k (clk + 16 * ops.size) E'
  | .seq a b, k, x => runC f a (runC f b k x) x
  | .cond c a b, k, x => fun clk E =>
    match ((evV C.P c 0).run E).map (fun r : V × Env => r.1) with
    | some (V.bool t) => if t then runC f a k x clk E else runC f b k x clk E
    | _ => none
  | .block id c, k, x => runC f c k (fun i => if i = id then k else x i)
  | .loop c, _, _ => fun _ E =>
    match firstId c with
    | some id => match (C.cuts f).lookup id with
      | some lv => cut m f id lv E
      | none => none
    | none => none
  | .exit id, _, x => x id
  | .ret, _, _ => fun _ E => fin C f E
  | _, _, _ => fun _ _ => none

/-- The run that begins behind the cut 'id'. -/
def findC (f : FuncId) (id : Nat) : Code → Kont → (Nat → Kont) → Option Kont
  | .region id' ops draw, k, _ => if id' = id then some fun clk E => (regionP C m ops draw clk E).bind fun E' => k (clk + 16 * ops.size) E' else none
  | .seq a b, k, x => (findC f id a (runC C m f b k x) x).or (findC f id b k x)
  | .cond _ a b, k, x => (findC f id a k x).or (findC f id b k x)
  | .block i c, k, x => findC f id c k (fun j => if j = i then k else x j)
  | .loop c, _, x => findC f id c (runC C m f (.loop c) (fun _ _ => none) x) x
  | _, _, _ => none

def params (mt : List Bool) : Nat → List V → Env
  | _, [] => fun _ => .val .any
  | i, v :: vs => upd (params mt.tail (i + 1) vs) i (if mt.headD false then .own i i v else .val v)

/-- One unfolding: a function's call, or the run from a cut. -/
def step : Sem_ := fun key vals =>
  match key with
  | .func f => (C.P.funcs[f]?).bind fun fn => fn.body.bind fun c => if (C.mt f).length ≤ vals.length ∧ vals.length ≤ fn.ntmps then
      runC C m f c (fun _ E => fin C f E) (fun _ _ _ => none) 100000 (params (C.mt f) 0 vals) else none
  | .at_ f id => (C.P.funcs[f]?).bind fun fn => fn.body.bind fun c => ((C.cuts f).lookup id).bind fun lv =>
      (liveIn lv vals).bind fun E => (findC C m f id c (fun _ E => fin C f E) (fun _ _ _ => none)).bind fun k => k 100000 E
end run

/-- With what is known of some functions from elsewhere. -/
def stepX (C : Ctx) (m : Sem_) : Sem_ := fun key vals =>
  match key with
  | .func f => (C.ext f vals).or (step C m (.func f) vals)
  | .at_ f id => step C m (.at_ f id) vals

def iter (C : Ctx) : Nat → Sem_
  | 0 => fun _ _ => none
  | n + 1 => stepX C (iter C n)

end Go.Lm

namespace Go.Lm

def tmf (tm : Array Value) (s : Nat) : Value := tm.getD s undef

theorem tmf_set {tm : Array Value} {d : Nat} (c : Value) (h : d < tm.size) (s : Nat) :
    tmf (tm.setIfInBounds d c) s = if s = d then c else tmf tm s := by
  unfold tmf
  simp only [Array.getD_eq_getD_getElem?]
  by_cases e : s = d
  · subst e; simp [h]
  · rw [if_neg e, Array.getElem?_setIfInBounds_ne (Ne.symm e)]

def V.nsz : V → Nat
  | .sl _ sz _ => sz
  | _ => 0

/-- What a reference that still holds may rely on. -/
def Valid (E : Env) (h : Heap) (tm : Array Value) (s st ct : Nat) (p : Path) (Q : Nat → Value → Prop) : Prop :=
  ∀ ct' v x cn, E s = .own st ct' v → (p = [] ∨ ct' = ct) → v.get p = some x → (p = [] ∨ x.loose = false) → walkC h v (tmf tm s) p = some cn → Q x.nsz cn

def RelCap (E : Env) (h : Heap) (tm : Array Value) (I : Nat → Prop) : Cap → Value → Prop
  | .v x, c => RelV h I x c []
  | .r s st ct, c => Valid E h tm s st ct [] fun _ cn => c = cn

inductive RelCaps (E : Env) (h : Heap) (tm : Array Value) (I : Nat → Prop) : List Cap → List Value → Prop
  | nil : RelCaps E h tm I [] []
  | cons (k : Cap) (c : Value) (ks : List Cap) (cs : List Value) (h1 : RelCap E h tm I k c) (h2 : RelCaps E h tm I ks cs) : RelCaps E h tm I (k :: ks) (c :: cs)

def subOf (lo n : Nat) (c : Value) (z : Nat) (cn : Value) : Prop :=
  ∃ a len cap a', cn = .slice a len cap ∧ c = .slice a' n (cap - lo) ∧ lo + n ≤ cap ∧
    (cap = lo ∨ ∃ b off, a = some ⟨b, off, none⟩ ∧ a' = some ⟨b, off + lo * z, none⟩)

def ptrOf (i j : Nat) (c : Value) (z : Nat) (cn : Value) : Prop :=
  ∃ b off, ((∃ len cap, cn = .slice (some ⟨b, off, none⟩) len cap) ∨ cn = .pointer (some ⟨b, off, none⟩)) ∧
    c = .pointer (some ⟨b, off + (i * z + j), none⟩)

def RelB (E : Env) (h : Heap) (tm : Array Value) (I : Nat → Prop) (bs : List Nat) : Bd → Value → Prop
  | .val v, c => bs = [] ∧ RelV h I v c []
  | .own _ _ v, c => RelV h I v c bs
  | .rv s st ct p, c => bs = [] ∧ Valid E h tm s st ct p fun _ cn => c = cn
  | .rs s st ct p lo n, c => bs = [] ∧ Valid E h tm s st ct p (subOf lo n c)
  | .rp s st ct p i j, c => bs = [] ∧ Valid E h tm s st ct p (ptrOf i j c)
  | .clo f caps, c => bs = [] ∧ ∃ cs, c = .func (.func f) #[] cs ∧ RelCaps E h tm I caps cs.toList

def Cap.stamps (U : Nat → Prop) : Cap → Prop
  | .v _ => True
  | .r _ st ct => U st ∧ U ct

def Bd.stamps (U : Nat → Prop) : Bd → Prop
  | .val _ => True
  | .own st ct _ => U st ∧ U ct
  | .rv _ st ct _ => U st ∧ U ct
  | .rs _ st ct _ _ _ => U st ∧ U ct
  | .rp _ st ct _ _ _ => U st ∧ U ct
  | .clo _ caps => ∀ k ∈ caps, k.stamps U

def Bd.noRef : Bd → Prop
  | .val _ => True
  | .own _ _ _ => True
  | _ => False

structure Gh where
  h0 : Heap
  I0 : Nat → Prop
  bs0 : List Nat

structure SH (g : Gh) (n : Nat) (E : Env) (U : Nat → Prop) (tm : Array Value) (h : Heap) (I : Nat → Prop) (fp : Nat → List Nat) (H : List Nat) : Prop where
  size : tm.size = n
  slot : ∀ s, s < n → RelB E h tm I (fp s) (E s) (tmf tm s)
  stamp : ∀ s, s < n → (E s).stamps U
  far : ∀ s, n ≤ s → fp s = []
  out : ∀ s, n ≤ s → E s = .val .any
  disj : ∀ s t, s ≠ t → ∀ b ∈ fp s, b ∉ fp t
  nodup : ∀ s, (fp s).Nodup
  notI : ∀ s, ∀ b ∈ fp s, ¬ I b
  lt : ∀ s, ∀ b ∈ fp s, b < h.size
  base : ∀ s, ∀ b ∈ fp s, b ∈ g.bs0 ∨ g.h0.size ≤ b
  hnodup : H.Nodup
  hnotI : ∀ b ∈ H, ¬ I b
  hdisj : ∀ b ∈ H, ∀ s, b ∉ fp s
  hlt : ∀ b ∈ H, b < h.size
  hbase : ∀ b ∈ H, b ∈ g.bs0 ∨ g.h0.size ≤ b
  ilt : ∀ b, I b → b < h.size
  i0 : ∀ b, g.I0 b → I b
  ibase : ∀ b, I b → g.I0 b ∨ b ∈ g.bs0 ∨ g.h0.size ≤ b
  grow : g.h0.size ≤ h.size
  frame : ∀ r, r < g.h0.size → r ∉ g.bs0 → h[r]? = g.h0[r]?

theorem Cap.stamps_mono {U U' : Nat → Prop} (hU : ∀ x, U x → U' x) {k : Cap} (h : k.stamps U) : k.stamps U' := by
  cases k with
  | v => trivial
  | r => exact ⟨hU _ h.1, hU _ h.2⟩

theorem Bd.stamps_mono {U U' : Nat → Prop} (hU : ∀ x, U x → U' x) {b : Bd} (h : b.stamps U) : b.stamps U' := by
  cases b with
  | val => trivial
  | clo f caps => exact fun k hk => Cap.stamps_mono hU (h k hk)
  | own | rv | rs | rp => exact ⟨hU _ h.1, hU _ h.2⟩

/-! References outlive what does not touch their slot. -/

theorem Valid.mono {E : Env} {h : Heap} {tm : Array Value} {s st ct : Nat} {p : Path} {Q Q' : Nat → Value → Prop} (hv : Valid E h tm s st ct p Q)
    (hq : ∀ x cn, Q x cn → Q' x cn) : Valid E h tm s st ct p Q' :=
  fun ct' v x cn h1 h2 h3 h4 h5 => hq _ _ (hv ct' v x cn h1 h2 h3 h4 h5)

/-- The slot 'd' is written: either the reference points elsewhere, or what it pointed to is there no more. -/
theorem Valid.upd {E : Env} {h : Heap} {tm : Array Value} {s st ct : Nat} {p : Path} {Q : Nat → Value → Prop} {d : Nat} {b : Bd} {c : Value}
    (hv : Valid E h tm s st ct p Q) (hd : d < tm.size) (hb : ∀ st' ct' v, b = .own st' ct' v → st' ≠ st) : Valid (Lm.upd E d b) h (tm.setIfInBounds d c) s st ct p Q := by
  intro ct' v x cn h1 h2 h3 h4 h5
  simp only [Lm.upd] at h1
  rw [tmf_set c hd] at h5
  split at h1
  · exact absurd rfl (hb _ _ _ h1)
  · rename_i hne
    rw [if_neg hne] at h5
    exact hv ct' v x cn h1 h2 h3 h4 h5

theorem childC_congr {h h' : Heap} {I : Nat → Prop} {v : V} {c : Value} {bs : List Nat} (hr : RelV h I v c bs) (hk : ∀ b, I b ∨ b ∈ bs → h'[b]? = h[b]?) (i j : Nat) :
    v.child i j ≠ none → childC h' v c i j = childC h v c i j := by
  intro hn
  cases hr with
  | sh sz es b off cap cs el fr hb hh hc hs hz hl hv => simp [childC, cellAt, hk b (.inl hb)]
  | ow sz es b off cap cs el fr bs hh hf hc hs hz hl hv => simp [childC, cellAt, hk b (.inr (by simp))]
  | box x b cs el fr bs hh hf hl hv => simp [childC, cellAt, hk b (.inr (by simp))]
  | slE | slZ => simp [V.child] at hn
  | agg | tup => rfl
  | any | bool | int | str | cptr | fn | nilP | nilF => rfl

theorem walkC_congr {h h' : Heap} {I : Nat → Prop} : ∀ {p : Path} {v : V} {c : Value} {bs : List Nat}, RelV h I v c bs → (∀ b, I b ∨ b ∈ bs → h'[b]? = h[b]?) →
    v.get p ≠ none → walkC h' v c p = walkC h v c p
  | [], _, _, _, _, _, _ => rfl
  | (i, j) :: p, v, c, bs, hr, hk, hn => by
    cases hx : v.child i j with
    | none => simp [V.get, hx] at hn
    | some x =>
      have h1 := childC_congr hr hk i j (by simp [hx])
      obtain ⟨c', hc', pre, bx, post, rfl, hrx, _⟩ := child_rel hr hx
      simp only [walkC, h1, hx, hc', Option.bind_some]
      exact walkC_congr hrx (fun b hb => hk b (hb.imp id fun hm => by simp [hm])) (by simpa [V.get, hx] using hn)

/-- The memory changes elsewhere. -/
theorem Valid.heap {E : Env} {h h' : Heap} {tm : Array Value} {I : Nat → Prop} {bs : List Nat} {s st ct : Nat} {p : Path} {Q : Nat → Value → Prop}
    (hv : Valid E h tm s st ct p Q) (hr : ∀ st' ct' v, E s = .own st' ct' v → RelV h I v (tmf tm s) bs) (hk : ∀ b, I b ∨ b ∈ bs → h'[b]? = h[b]?) :
    Valid E h' tm s st ct p Q := by
  intro ct' v x cn h1 h2 h3 h4 h5
  rw [walkC_congr (hr _ _ _ h1) hk (by simp [h3])] at h5
  exact hv ct' v x cn h1 h2 h3 h4 h5

theorem RelCap.map {E E' : Env} {h h' : Heap} {tm tm' : Array Value} {I I' : Nat → Prop} (hI : ∀ b, I b → I' b) (hk : ∀ b, I b → h'[b]? = h[b]?)
    {U : Nat → Prop} (hv : ∀ s st ct p Q, U st → U ct → Valid E h tm s st ct p Q → Valid E' h' tm' s st ct p Q) :
    ∀ {k : Cap} {c : Value}, k.stamps U → RelCap E h tm I k c → RelCap E' h' tm' I' k c
  | .v _, _, _, h => RelV.mono hI h fun b hb => hk b (by simpa using hb)
  | .r s st ct, c, hs, h => hv s st ct [] (fun _ cn => c = cn) hs.1 hs.2 h

theorem RelCaps.map {E E' : Env} {h h' : Heap} {tm tm' : Array Value} {I I' : Nat → Prop} (hI : ∀ b, I b → I' b) (hk : ∀ b, I b → h'[b]? = h[b]?)
    {U : Nat → Prop} (hv : ∀ s st ct p Q, U st → U ct → Valid E h tm s st ct p Q → Valid E' h' tm' s st ct p Q)
    {ks : List Cap} {cs : List Value} (hs : ∀ k ∈ ks, k.stamps U) (hr : RelCaps E h tm I ks cs) : RelCaps E' h' tm' I' ks cs := by
  induction hr with
  | nil => exact .nil
  | cons k c ks cs h1 h2 ih => exact .cons k c ks cs (RelCap.map hI hk hv (hs k (by simp)) h1) (ih fun k hk => hs k (by simp [hk]))

/-- A slot's relation in another state: references map by 'hv', the tree by 'hk'. -/
theorem RelB.map {E E' : Env} {h h' : Heap} {tm tm' : Array Value} {I I' : Nat → Prop} {bs : List Nat} (hI : ∀ b, I b → I' b)
    (hk : ∀ b, I b ∨ b ∈ bs → h'[b]? = h[b]?) {U : Nat → Prop}
    (hv : ∀ s st ct p Q, U st → U ct → Valid E h tm s st ct p Q → Valid E' h' tm' s st ct p Q) {b : Bd} {c : Value} (hs : b.stamps U)
    (hr : RelB E h tm I bs b c) : RelB E' h' tm' I' bs b c := by
  cases b with
  | val v => exact ⟨hr.1, RelV.mono hI hr.2 fun b hb => hk b (.inl (by simpa using hb))⟩
  | own st ct v => exact RelV.mono hI hr hk
  | rv s st ct p => exact ⟨hr.1, hv s st ct p (fun _ cn => c = cn) hs.1 hs.2 hr.2⟩
  | rs s st ct p lo n => exact ⟨hr.1, hv _ _ _ _ _ hs.1 hs.2 hr.2⟩
  | rp s st ct p i j => exact ⟨hr.1, hv _ _ _ _ _ hs.1 hs.2 hr.2⟩
  | clo f caps =>
    obtain ⟨h1, cs, h2, h3⟩ := hr
    exact ⟨h1, cs, h2, RelCaps.map hI (fun b hb => hk b (.inl hb)) hv hs h3⟩

end Go.Lm

namespace Go.Lm

theorem list_three {α : Type} (l : List α) (k m : Nat) : l = l.take k ++ (l.drop k).take m ++ l.drop (k + m) := by
  rw [List.append_assoc, ← List.drop_drop, List.take_append_drop, List.take_append_drop]

/-- A segment inside a window of a list. -/
theorem window {α : Type} (l m : List α) (off N k : Nat) (h1 : off ≤ k) (h2 : k + m.length ≤ off + N) (h3 : off + N ≤ l.length) :
    ((l.take k ++ m ++ l.drop (k + m.length)).drop off).take N =
      ((l.drop off).take N).take (k - off) ++ m ++ ((l.drop off).take N).drop (k - off + m.length) := by
  have e1 : (l.take k ++ m ++ l.drop (k + m.length)).drop off = (l.drop off).take (k - off) ++ m ++ l.drop (k + m.length) := by
    rw [List.append_assoc, List.drop_append_of_le_length (by simp; omega), List.drop_take, List.append_assoc]
  rw [e1, List.take_append, List.take_append]
  have l1 : ((l.drop off).take (k - off)).length = k - off := by simp; omega
  rw [List.take_of_length_le (by rw [l1]; omega), List.take_of_length_le (l := m) (by rw [l1]; omega)]
  congr 1
  · congr 1
    rw [List.take_take, Nat.min_eq_left (by omega)]
  · rw [List.length_append, l1, List.drop_take, List.drop_drop, show off + (k - off + m.length) = k + m.length from by omega]

theorem flat_take {es : List V} {sz : Nat} (hz : ∀ e ∈ es, e.cells.length = sz) (i : Nat) (hi : i ≤ es.length) :
    ((es.take i).flatMap V.cells).length = i * sz := by
  rw [flat_len (sz := sz) fun e he => hz e (List.mem_of_mem_take he)]
  simp [Nat.min_eq_left hi]

theorem split_at {α : Type} : ∀ {l : List α} {i : Nat} {e : α}, l[i]? = some e → l = l.take i ++ e :: l.drop (i + 1)
  | [], _, _, h => by simp at h
  | a :: l, 0, e, h => by simp at h; simp [h]
  | a :: l, i + 1, e, h => by simp at h; simpa using split_at h

theorem set_at {α : Type} : ∀ {l : List α} {i : Nat} {e : α} (x : α), l[i]? = some e → l.set i x = l.take i ++ x :: l.drop (i + 1)
  | [], _, _, _, h => by simp at h
  | a :: l, 0, e, x, _ => by simp
  | a :: l, i + 1, e, x, h => by simp at h; simpa using set_at x h

theorem seg3 {α : Type} {L c1 c2 c3 : List α} {off N k m : Nat} (h : (L.drop off).take N = c1 ++ (c2 ++ c3)) (h1 : c1.length = k) (h2 : c2.length = m) (hk : k + m ≤ N) :
    (L.drop (off + k)).take m = c2 := by
  have e1 : (L.drop (off + k)).take m = (((L.drop off).take N).drop k).take m := by
    rw [List.drop_take, List.drop_drop, List.take_take, Nat.min_eq_left (by omega)]
  rw [e1, h, List.drop_append_of_le_length (by omega), List.drop_of_length_le (l := c1) (by omega), List.nil_append, List.take_append_of_le_length (by omega),
    List.take_of_length_le (by omega)]

def baseOf (c : Value) (b off : Nat) : Prop := (∃ len cap, c = .slice (some ⟨b, off, none⟩) len cap) ∨ c = .pointer (some ⟨b, off, none⟩)

/-- Where an element's cells lie, and what it takes to put others in their place. -/
theorem RelV.elem {h : Heap} {I : Nat → Prop} {v : V} {c : Value} {bs : List Nat} {i : Nat} {e : V} (hr : RelV h I v c bs) (he : v.elem i = some e) :
    ∃ b off cs el fr pre be post, baseOf c b off ∧ h[b]? = some (.cells cs el fr) ∧ off + i * v.nsz + e.cells.length ≤ cs.size ∧
      bs = pre ++ be ++ post ∧ RelL h I e.cells ((cs.toList.drop (off + i * v.nsz)).take e.cells.length) be ∧
      (∀ x ∈ (cs.toList.drop (off + i * v.nsz)).take e.cells.length, isC x = true) ∧
      (I b ∨ b ∈ pre) ∧ (∀ e' v', v.setElem i e' = some v' → (∃ pre', pre = b :: pre') ∧ ∀ k, k < cs.size → (fr.1 ≤ k && k < fr.2) = false) ∧
      (∀ sz es, v = .sl false sz es → I b ∧ be = []) ∧
      ∀ (h' : Heap) (I' : Nat → Prop) (e' : V) (be' : List Nat) (m : List Value) (cs' : Array Value), (∀ r, I r → I' r) →
        (∀ r, (I r ∨ r ∈ pre ∨ r ∈ post) → r ≠ b → h'[r]? = h[r]?) →
        (∀ r ∈ pre.tail ++ post, r ≠ b) → ¬ I b →
        cs'.toList = cs.toList.take (off + i * v.nsz) ++ m ++ cs.toList.drop (off + i * v.nsz + m.length) →
        h'[b]? = some (.cells cs' el fr) → m.length = e.cells.length → e'.cells.length = e.cells.length → (∀ x ∈ m, isC x = true) →
        RelL h' I' e'.cells m be' → ∀ v', v.setElem i e' = some v' → RelV h' I' v' c (pre ++ be' ++ post) := by
  cases hr with
  | any | bool | int | str | cptr | fn | nilP | nilF | agg | tup => simp [V.elem] at he
  | slE | slZ => simp [V.elem] at he
  | sh sz es b off cap cs el fr hb hh hc hs hz hl hv =>
    simp only [V.elem] at he
    have hi : i < es.length := (List.getElem?_eq_some_iff.1 he).1
    have hze := hz e (List.mem_of_getElem? he)
    have hk : i * sz + sz ≤ es.length * sz := by
      have := Nat.mul_le_mul_right sz (show i + 1 ≤ es.length by omega); rw [Nat.succ_mul] at this; omega
    have hsp : es.flatMap V.cells = (es.take i).flatMap V.cells ++ (e.cells ++ (es.drop (i + 1)).flatMap V.cells) := by
      conv => lhs; rw [split_at he]
      simp
    rw [hsp] at hl
    obtain ⟨c1, c23, b1, b23, ec, eb, r1, r23⟩ := RelL.split hl
    obtain ⟨c2, c3, b2, b3, rfl, rfl, r2, r3⟩ := RelL.split r23
    have l1 : c1.length = i * sz := by rw [← r1.length, flat_take hz i (by omega)]
    have l2 : c2.length = sz := by rw [← r2.length, hze]
    have hseg : (cs.toList.drop (off + i * sz)).take e.cells.length = c2 := by rw [hze]; exact seg3 ec l1 l2 hk
    obtain ⟨rfl, hb2⟩ : b1 = [] ∧ b2 ++ b3 = [] := by
      have := eb.symm; simp at this; simp [this]
    obtain ⟨rfl, rfl⟩ : b2 = [] ∧ b3 = [] := by simpa using hb2
    refine ⟨b, off, cs, el, fr, [], [], [], .inl ⟨_, _, rfl⟩, hh, by simp only [V.nsz]; omega, rfl, ?_, ?_, .inl hb, fun _ _ h => by simp [V.setElem] at h, fun _ _ _ => ⟨hb, rfl⟩, ?_⟩
    · simp only [V.nsz]; rw [hseg]; exact r2
    · simp only [V.nsz]; rw [hseg]; intro x hx; exact hv x (by rw [ec]; simp [hx])
    · intro h' I' e' be' m cs' _ _ _ hnI; exact absurd hb hnI
  | ow sz es b off cap cs el fr bs hh hf hc hs hz hl hv =>
    simp only [V.elem] at he
    have hi : i < es.length := (List.getElem?_eq_some_iff.1 he).1
    have hze := hz e (List.mem_of_getElem? he)
    have hk : i * sz + sz ≤ es.length * sz := by
      have := Nat.mul_le_mul_right sz (show i + 1 ≤ es.length by omega); rw [Nat.succ_mul] at this; omega
    have hcap := Nat.mul_le_mul_right sz hc
    have hsp : es.flatMap V.cells = (es.take i).flatMap V.cells ++ (e.cells ++ (es.drop (i + 1)).flatMap V.cells) := by
      conv => lhs; rw [split_at he]
      simp
    rw [hsp] at hl
    obtain ⟨c1, c23, b1, b23, ec, eb, r1, r23⟩ := RelL.split hl
    obtain ⟨c2, c3, b2, b3, rfl, rfl, r2, r3⟩ := RelL.split r23
    have l1 : c1.length = i * sz := by rw [← r1.length, flat_take hz i (by omega)]
    have l2 : c2.length = sz := by rw [← r2.length, hze]
    have hseg : (cs.toList.drop (off + i * sz)).take e.cells.length = c2 := by rw [hze]; exact seg3 ec l1 l2 hk
    subst eb
    refine ⟨b, off, cs, el, fr, b :: b1, b2, b3, .inl ⟨_, _, rfl⟩, hh, by simp only [V.nsz]; omega, by simp, ?_, ?_, .inr (by simp), fun _ _ _ => ⟨⟨_, rfl⟩, hf⟩, fun _ _ h => by simp at h, ?_⟩
    · simp only [V.nsz]; rw [hseg]; exact r2
    · simp only [V.nsz]; rw [hseg]; intro x hx; exact hv x (by rw [ec]; simp [hx])
    · intro h' I' e' be' m cs' hI hk' hne hnI hcs hh' hm he' hmc hrl v' hv'
      simp only [V.nsz] at hcs
      simp only [V.setElem, Option.some.injEq] at hv'
      subst hv'
      have hsz : cs'.size = cs.size := by
        rw [← Array.length_toList, hcs]
        simp; omega
      have hwin := window cs.toList m off (es.length * sz) (off + i * sz) (by omega) (by omega) (by simp; omega)
      rw [← hcs, ec, show off + i * sz - off = i * sz from by omega] at hwin
      have hw1 : (c1 ++ (c2 ++ c3)).take (i * sz) = c1 := by rw [List.take_append_of_le_length (by omega), List.take_of_length_le (by omega)]
      have hw2 : (c1 ++ (c2 ++ c3)).drop (i * sz + m.length) = c3 := by
        rw [← List.append_assoc, List.drop_append, List.drop_of_length_le (by simp; omega)]
        simp only [List.nil_append, List.length_append]
        rw [show i * sz + m.length - (c1.length + c2.length) = 0 from by omega, List.drop_zero]
      rw [hw1, hw2] at hwin
      have hlen : (es.set i e').length = es.length := by simp
      have hr1 := RelL.mono (h' := h') hI r1 fun r hr => hk' r (by rcases hr with hr | hr <;> simp [hr])
        (by rcases hr with hr | hr
            · intro e; exact hnI (e ▸ hr)
            · exact hne r (by simp [hr]))
      have hr3 := RelL.mono (h' := h') hI r3 fun r hr => hk' r (by rcases hr with hr | hr <;> simp [hr])
        (by rcases hr with hr | hr
            · intro e; exact hnI (e ▸ hr)
            · exact hne r (by simp [hr]))
      have hall := RelL.append (RelL.append hr1 hrl) hr3
      have hflat : (es.set i e').flatMap V.cells = (es.take i).flatMap V.cells ++ e'.cells ++ (es.drop (i + 1)).flatMap V.cells := by
        rw [set_at e' he]; simp
      rw [← hlen]
      simp only [List.cons_append]
      refine .ow sz _ b off cap cs' el fr _ hh' (by rw [hsz]; exact hf) (by rw [hlen]; exact hc) (by rw [hsz]; exact hs) ?_ ?_ ?_
      · intro y hy
        rcases List.mem_or_eq_of_mem_set hy with hy | rfl
        · exact hz _ hy
        · rw [he', hze]
      · rw [hlen, hwin, hflat]; exact hall
      · rw [hlen, hwin]
        intro x hx
        simp only [List.mem_append] at hx
        rcases hx with (hx | hx) | hx
        · exact hv x (by rw [ec]; simp [hx])
        · exact hmc x hx
        · exact hv x (by rw [ec]; simp [hx])
  | box x b cs el fr bs hh hf hl hv =>
    simp only [V.elem] at he
    split at he
    case isFalse => simp at he
    rename_i hi0
    subst hi0
    obtain rfl : x = e := by simpa using he
    have hle := hl.length
    have hle' : x.cells.length = cs.size := by simpa using hle
    refine ⟨b, 0, cs, el, fr, [b], bs, [], .inr rfl, hh, by simp; omega, by simp, ?_, ?_, .inr (by simp), fun _ _ _ => ⟨⟨_, rfl⟩, hf⟩, fun _ _ h => by simp at h, ?_⟩
    · simp only [Nat.zero_mul, Nat.add_zero, List.drop_zero]
      rw [List.take_of_length_le (by simp; omega)]; exact hl
    · simp only [Nat.zero_mul, Nat.add_zero, List.drop_zero]
      intro y hy; exact hv y (List.mem_of_mem_take hy)
    · intro h' I' e' be' m cs' hI hk' hne hnI hcs hh' hm he' hmc hrl v' hv'
      simp only [V.setElem, Option.some.injEq] at hv'
      subst hv'
      simp only [Nat.zero_mul, Nat.add_zero, List.take_zero, List.nil_append, Nat.zero_add] at hcs
      rw [List.drop_of_length_le (by simp; omega), List.append_nil] at hcs
      have hsz : cs'.size = cs.size := by rw [← Array.length_toList, hcs]; omega
      simp only [List.append_nil, List.cons_append, List.nil_append]
      exact .box _ b cs' el fr _ hh' (by rw [hsz]; exact hf) (by rw [hcs]; exact hrl) (by rw [hcs]; exact hmc)

/-- A part of a slice. -/
theorem RelV.sub {h : Heap} {I : Nat → Prop} {o : Bool} {sz : Nat} {es : List V} {c cn : Value} {bs : List Nat} {lo n : Nat}
    (hr : RelV h I (.sl o sz es) cn bs) (hs : subOf lo n c sz cn) (hn : lo + n ≤ es.length) :
    ∃ bs', RelV h I (.sl o sz ((es.drop lo).take n)) c bs' ∧ bs'.Sublist bs := by
  obtain ⟨a, len, cap, a', rfl, rfl, hc, hd⟩ := hs
  have hlen : ((es.drop lo).take n).length = n := by simp; omega
  generalize hcn : Value.slice a len cap = cn at hr
  cases hr with
  | slE sz a cap' =>
    obtain ⟨rfl, rfl⟩ : lo = 0 ∧ n = 0 := by simp at hn; omega
    exact ⟨[], by simpa using .slE _ _ _, by simp⟩
  | slZ o sz a =>
    obtain ⟨rfl, rfl⟩ : lo = 0 ∧ n = 0 := by simp at hn; omega
    simp only [Value.slice.injEq] at hcn
    obtain ⟨rfl, rfl, rfl⟩ := hcn
    exact ⟨[], by simpa using .slZ _ _ _, by simp⟩
  | sh sz es b off cap' cs el fr hb hh hc' hs' hz hl hv =>
    simp only [Value.slice.injEq] at hcn
    obtain ⟨rfl, rfl, rfl⟩ := hcn
    by_cases h0 : n = 0
    · subst h0; exact ⟨[], by simpa using .slE _ _ _, by simp⟩
    · rcases hd with hd | ⟨b2, off2, e1, rfl⟩
      · omega
      simp only [Option.some.injEq, Addr.mk.injEq, and_true] at e1
      obtain ⟨rfl, rfl⟩ := e1
      have hsp : es.flatMap V.cells = (es.take lo).flatMap V.cells ++ (((es.drop lo).take n).flatMap V.cells ++ (es.drop (lo + n)).flatMap V.cells) := by
        conv => lhs; rw [list_three es lo n]
        simp
      rw [hsp] at hl
      obtain ⟨c1, c23, b1, b23, ec, eb, r1, r23⟩ := RelL.split hl
      obtain ⟨c2, c3, b2, b3, rfl, rfl, r2, r3⟩ := RelL.split r23
      have hz2 : ∀ e ∈ (es.drop lo).take n, e.cells.length = sz := fun e he => hz e (List.mem_of_mem_drop (List.mem_of_mem_take he))
      have l1 : c1.length = lo * sz := by rw [← r1.length, flat_take hz lo (by omega)]
      have l2 : c2.length = n * sz := by rw [← r2.length, flat_len hz2, hlen]
      have hk : lo * sz + n * sz ≤ es.length * sz := by rw [← Nat.add_mul]; exact Nat.mul_le_mul_right sz hn
      have hseg : (cs.toList.drop (off + lo * sz)).take (n * sz) = c2 := seg3 ec l1 l2 hk
      obtain ⟨rfl, hb2⟩ : b1 = [] ∧ b2 ++ b3 = [] := by have := eb.symm; simp at this; simp [this]
      obtain ⟨rfl, rfl⟩ : b2 = [] ∧ b3 = [] := by simpa using hb2
      refine ⟨[], ?_, by simp⟩
      conv => arg 4; rw [← hlen]
      refine .sh sz _ b (off + lo * sz) (cap - lo) cs el fr hb hh (by rw [hlen]; omega) (by rw [hlen]; omega) hz2 (by rw [hlen, hseg]; exact r2) ?_
      rw [hlen, hseg]; intro x hx; exact hv x (by rw [ec]; simp [hx])
  | ow sz es b off cap' cs el fr bs hh hf hc' hs' hz hl hv =>
    simp only [Value.slice.injEq] at hcn
    obtain ⟨rfl, rfl, rfl⟩ := hcn
    rcases hd with hd | ⟨b2, off2, e1, rfl⟩
    · obtain rfl : n = 0 := by omega
      refine ⟨[], ?_, by simp⟩
      rw [hd, Nat.sub_self]
      simpa using .slZ _ _ _
    simp only [Option.some.injEq, Addr.mk.injEq, and_true] at e1
    obtain ⟨rfl, rfl⟩ := e1
    have hsp : es.flatMap V.cells = (es.take lo).flatMap V.cells ++ (((es.drop lo).take n).flatMap V.cells ++ (es.drop (lo + n)).flatMap V.cells) := by
      conv => lhs; rw [list_three es lo n]
      simp
    rw [hsp] at hl
    obtain ⟨c1, c23, b1, b23, ec, rfl, r1, r23⟩ := RelL.split hl
    obtain ⟨c2, c3, b2, b3, rfl, rfl, r2, r3⟩ := RelL.split r23
    have hz2 : ∀ e ∈ (es.drop lo).take n, e.cells.length = sz := fun e he => hz e (List.mem_of_mem_drop (List.mem_of_mem_take he))
    have l1 : c1.length = lo * sz := by rw [← r1.length, flat_take hz lo (by omega)]
    have l2 : c2.length = n * sz := by rw [← r2.length, flat_len hz2, hlen]
    have hk : lo * sz + n * sz ≤ es.length * sz := by rw [← Nat.add_mul]; exact Nat.mul_le_mul_right sz hn
    have hcap := Nat.mul_le_mul_right sz hc'
    have hcl : (cap - lo) * sz = cap * sz - lo * sz := Nat.sub_mul ..
    have hll : lo * sz ≤ cap * sz := Nat.mul_le_mul_right sz (by omega)
    have hseg : (cs.toList.drop (off + lo * sz)).take (n * sz) = c2 := seg3 ec l1 l2 hk
    refine ⟨b :: b2, ?_, ?_⟩
    · conv => arg 4; rw [← hlen]
      refine .ow sz _ b (off + lo * sz) (cap - lo) cs el fr _ hh hf (by rw [hlen]; omega) (by omega) hz2 (by rw [hlen, hseg]; exact r2) ?_
      rw [hlen, hseg]; intro x hx; exact hv x (by rw [ec]; simp [hx])
    · exact (List.sublist_append_of_sublist_right (List.sublist_append_left _ _)).cons_cons _

end Go.Lm

namespace Go.Lm

theorem at_some {b : Bd} {st ct : Nat} {p : Path} {x : V} (h : b.at st ct p = some x) :
    ∃ ct' v, b = .own st ct' v ∧ (p = [] ∨ ct' = ct) ∧ v.get p = some x ∧ (p = [] ∨ x.loose = false) := by
  cases b with
  | own st' ct' v =>
    simp only [Bd.at] at h
    split at h
    case isFalse => simp at h
    rename_i e
    subst e
    cases p with
    | nil => simp only [Option.some.injEq] at h; subst h; exact ⟨ct', v, rfl, .inl rfl, rfl, .inl rfl⟩
    | cons ij p =>
      simp only at h
      split at h
      case isFalse => simp at h
      rename_i e
      simp only [Option.bind_eq_some_iff] at h
      obtain ⟨y, hy, h⟩ := h
      split at h
      · simp at h
      · rename_i hl
        simp only [Option.some.injEq] at h
        subst h
        exact ⟨ct', v, rfl, .inr e, hy, .inr (by simpa using hl)⟩
  | _ => simp [Bd.at] at h

section
variable {g : Gh} {n : Nat} {E : Env} {U : Nat → Prop} {tm : Array Value} {h : Heap} {I : Nat → Prop} {fp : Nat → List Nat} {H : List Nat}

theorem SH.lt_of_own (S : SH g n E U tm h I fp H) {s st ct : Nat} {v : V} (e : E s = .own st ct v) : s < n := by
  by_cases hs : s < n
  · exact hs
  · have := S.out s (by omega); rw [e] at this; simp at this

theorem SH.own (S : SH g n E U tm h I fp H) {s st ct : Nat} {v : V} (e : E s = .own st ct v) : RelV h I v (tmf tm s) (fp s) := by
  have := S.slot s (S.lt_of_own e)
  rw [e] at this; exact this

/-- What stands at a place, and around it. -/
theorem SH.at (S : SH g n E U tm h I fp H) {s st ct : Nat} {p : Path} {x : V} (e : (E s).at st ct p = some x) :
    ∃ ct' v c', E s = .own st ct' v ∧ (p = [] ∨ ct' = ct) ∧ v.get p = some x ∧ (p = [] ∨ x.loose = false) ∧ walkC h v (tmf tm s) p = some c' ∧
      (∀ Q, Valid E h tm s st ct p Q → Q x.nsz c') ∧
      ∃ pre bx post, fp s = pre ++ bx ++ post ∧ RelV h I x c' bx ∧
        ∀ h' I' x' bx', (∀ r, I r ∨ r ∈ pre ∨ r ∈ post → h'[r]? = h[r]?) → (∀ r, I r → I' r) → (p ≠ [] → x'.isAgg = false) → RelV h' I' x' c' bx' →
          ∀ v', v.put p x' = some v' → RelV h' I' v' (tmf tm s) (pre ++ bx' ++ post) := by
  obtain ⟨ct', v, e1, e2, e3, e4⟩ := at_some e
  obtain ⟨c', hc', hrest⟩ := ctx (S.own e1) e3
  exact ⟨ct', v, c', e1, e2, e3, e4, hc', fun Q hQ => hQ ct' v x c' e1 e2 e3 e4 hc', hrest⟩

/-- An operand's slot, read as a reference. -/
theorem SH.operand (S : SH g n E U tm h I fp H) (s : Nat) : ∃ b, (match E s with | .own st ct _ => Bd.rv s st ct [] | b => b) = b ∧
    RelB E h tm I [] b (tmf tm s) ∧ b.stamps U ∧ (∀ st ct v, b ≠ .own st ct v) := by
  by_cases hs : s < n
  · have h1 := S.slot s hs
    have h2 := S.stamp s hs
    cases e : E s with
    | own st ct v =>
      rw [e] at h2
      refine ⟨_, rfl, ⟨rfl, ?_⟩, h2, by simp⟩
      intro ct' v' x cn h1 h2 h3 h4 h5
      simpa [walkC] using h5
    | val v => rw [e] at h1 h2; exact ⟨_, rfl, ⟨rfl, h1.2⟩, h2, by simp⟩
    | rv s' st ct p => rw [e] at h1 h2; exact ⟨_, rfl, ⟨rfl, h1.2⟩, h2, by simp⟩
    | rs s' st ct p lo m => rw [e] at h1 h2; exact ⟨_, rfl, ⟨rfl, h1.2⟩, h2, by simp⟩
    | rp s' st ct p i j => rw [e] at h1 h2; exact ⟨_, rfl, ⟨rfl, h1.2⟩, h2, by simp⟩
    | clo f caps => rw [e] at h1 h2; exact ⟨_, rfl, ⟨rfl, h1.2⟩, h2, by simp⟩
  · rw [S.out s (by omega)]
    exact ⟨_, rfl, ⟨rfl, .any _⟩, trivial, by simp⟩

/-- A slot is written with what is in hand. -/
theorem SH.put {bs : List Nat} (S : SH g n E U tm h I fp (bs ++ H)) {d : Nat} {b : Bd} {c : Value} (hd : d < n) {U' : Nat → Prop} (hU : ∀ x, U x → U' x)
    (hs : b.stamps U') (hf : ∀ st ct v, b = .own st ct v → ¬ U st) (hn : (∃ st ct v, b = .own st ct v) ∨ b.stamps U) (hr : RelB E h tm I bs b c) :
    SH g n (upd E d b) U' (tm.setIfInBounds d c) h I (fun s => if s = d then bs else fp s) H := by
  have hd' : d < tm.size := by rw [S.size]; exact hd
  have hV : ∀ s st ct p Q, U st → U ct → Valid E h tm s st ct p Q → Valid (Lm.upd E d b) h (tm.setIfInBounds d c) s st ct p Q :=
    fun s st ct p Q hst _ hv => hv.upd hd' fun st' ct' v e => by intro e'; subst e'; exact hf _ _ _ e hst
  have hnd := S.hnodup
  rw [List.nodup_append] at hnd
  refine { size := by simp [S.size], slot := ?_, stamp := ?_, far := ?_, out := ?_, disj := ?_, nodup := ?_, notI := ?_, lt := ?_, base := ?_,
           hnodup := hnd.2.1, hnotI := fun r hr => S.hnotI r (by simp [hr]), hdisj := ?_, hlt := fun r hr => S.hlt r (by simp [hr]),
           hbase := fun r hr => S.hbase r (by simp [hr]), ilt := S.ilt, i0 := S.i0, ibase := S.ibase, grow := S.grow, frame := S.frame }
  · intro s hsn
    rw [tmf_set c hd']
    by_cases e : s = d
    · subst e
      simp only [if_true, Lm.upd]
      rcases hn with ⟨st, ct, v, rfl⟩ | hn
      · exact hr
      · exact RelB.map (fun _ h => h) (fun _ _ => rfl) hV hn hr
    · simp only [if_neg e, Lm.upd]
      exact RelB.map (fun _ h => h) (fun _ _ => rfl) hV (S.stamp s hsn) (S.slot s hsn)
  · intro s hsn
    by_cases e : s = d
    · subst e; simp only [Lm.upd, if_true]; exact hs
    · simp only [Lm.upd, if_neg e]; exact Bd.stamps_mono hU (S.stamp s hsn)
  · intro s hsn
    have : s ≠ d := by omega
    simp [this, S.far s hsn]
  · intro s hsn
    have : s ≠ d := by omega
    simp [Lm.upd, this, S.out s hsn]
  · intro s t hst r hr1 hr2
    by_cases e : s = d
    · subst e
      rw [if_pos rfl] at hr1
      rw [if_neg (Ne.symm hst)] at hr2
      exact S.hdisj r (by simp [hr1]) t hr2
    · rw [if_neg e] at hr1
      by_cases e' : t = d
      · subst e'; rw [if_pos rfl] at hr2; exact S.hdisj r (by simp [hr2]) s hr1
      · rw [if_neg e'] at hr2; exact S.disj s t hst r hr1 hr2
  · intro s
    by_cases e : s = d
    · simp [e, hnd.1]
    · simp [e, S.nodup s]
  · intro s r hr1
    by_cases e : s = d
    · simp only [e, if_true] at hr1; exact S.hnotI r (by simp [hr1])
    · simp only [e, if_false] at hr1; exact S.notI s r hr1
  · intro s r hr1
    by_cases e : s = d
    · simp only [e, if_true] at hr1; exact S.hlt r (by simp [hr1])
    · simp only [e, if_false] at hr1; exact S.lt s r hr1
  · intro s r hr1
    by_cases e : s = d
    · simp only [e, if_true] at hr1; exact S.hbase r (by simp [hr1])
    · simp only [e, if_false] at hr1; exact S.base s r hr1
  · intro r hr1 s
    by_cases e : s = d
    · simp only [e, if_true]; intro hr2; exact hnd.2.2 r hr2 r hr1 rfl
    · simp only [e, if_false]; exact S.hdisj r (by simp [hr1]) s

/-- A slot's content is changed where it lies, the memory with it; it may take up what is in hand, and what it gives up comes into the hand. -/
theorem SH.edit {bs : List Nat} (S : SH g n E U tm h I fp (bs ++ H)) {s st ct : Nat} {v v' : V} (e : E s = .own st ct v) {h' : Heap} {I' : Nat → Prop} {fs hs : List Nat} {U' : Nat → Prop} {ct' : Nat}
    (hU : ∀ x, U x → U' x) (hct : U' ct') (hI : ∀ r, I r → I' r) (hI' : ∀ r, I' r → I r ∨ r ∈ fp s ∨ r ∈ bs)
    (hk : ∀ r, r ∉ fp s → h'[r]? = h[r]?) (hsz : h'.size = h.size)
    (hr : RelV h' I' v' (tmf tm s) fs) (hperm : ∀ r, r ∈ fs ∨ r ∈ hs → r ∈ fp s ∨ r ∈ bs) (hnd : (fs ++ hs).Nodup) (hni : ∀ r, r ∈ fs ∨ r ∈ hs → ¬ I' r)
    (hval : ∀ ct0 p Q, U ct0 → Valid E h tm s st ct0 p Q → Valid (upd E s (.own st ct' v')) h' tm s st ct0 p Q) :
    SH g n (upd E s (.own st ct' v')) U' tm h' I' (fun t => if t = s then fs else fp t) (hs ++ H) := by
  have hsn := S.lt_of_own e
  have hIk : ∀ r, I r → h'[r]? = h[r]? := fun r hr => hk r fun hm => S.notI s r hm hr
  have hV : ∀ s' st' ct0 p Q, U st' → U ct0 → Valid E h tm s' st' ct0 p Q → Valid (Lm.upd E s (.own st ct' v')) h' tm s' st' ct0 p Q := by
    intro s' st' ct0 p Q hst hct hv
    by_cases es : s' = s
    · subst es
      by_cases est : st' = st
      · subst est; exact hval _ _ _ hct hv
      · intro ct1 v1 x cn h1; simp [Lm.upd] at h1; exact absurd h1.1 (Ne.symm est)
    · intro ct1 v1 x cn h1 h2 h3 h4 h5
      simp only [Lm.upd, if_neg es] at h1
      refine (hv.heap (bs := fp s') (h' := h') (I := I) (fun st'' ct'' v'' e'' => S.own e'') ?_) ct1 v1 x cn h1 h2 h3 h4 h5
      intro r hr
      rcases hr with hr | hr
      · exact hIk r hr
      · exact hk r fun hm => S.disj s s' (Ne.symm es) r hm hr
  rw [List.nodup_append] at hnd
  have hnd0 := S.hnodup
  rw [List.nodup_append] at hnd0
  -- what the slot or the hand may hold is held by no other slot
  have hother : ∀ r, r ∈ fs ∨ r ∈ hs → ∀ t, t ≠ s → r ∉ fp t := by
    intro r hr t ht
    rcases hperm r hr with h1 | h1
    · exact S.disj s t (Ne.symm ht) r h1
    · exact S.hdisj r (by simp [h1]) t
  have hH : ∀ r, r ∈ fs ∨ r ∈ hs → r ∉ H := by
    intro r hr hm
    rcases hperm r hr with h1 | h1
    · exact S.hdisj r (by simp [hm]) s h1
    · exact hnd0.2.2 r h1 r hm rfl
  have hlt : ∀ r, r ∈ fs ∨ r ∈ hs → r < h.size := by
    intro r hr
    rcases hperm r hr with h1 | h1
    · exact S.lt s r h1
    · exact S.hlt r (by simp [h1])
  have hbase : ∀ r, r ∈ fs ∨ r ∈ hs → r ∈ g.bs0 ∨ g.h0.size ≤ r := by
    intro r hr
    rcases hperm r hr with h1 | h1
    · exact S.base s r h1
    · exact S.hbase r (by simp [h1])
  refine { size := S.size, slot := ?_, stamp := ?_, far := ?_, out := ?_, disj := ?_, nodup := ?_, notI := ?_, lt := ?_, base := ?_,
           hnodup := ?_, hnotI := ?_, hdisj := ?_, hlt := ?_, hbase := ?_, ilt := ?_, i0 := fun b hb => hI b (S.i0 b hb), ibase := ?_, grow := by rw [hsz]; exact S.grow, frame := ?_ }
  · intro t ht
    by_cases et : t = s
    · subst et; simp only [Lm.upd, if_true]; exact hr
    · simp only [Lm.upd, if_neg et]
      refine RelB.map hI ?_ hV (S.stamp t ht) (S.slot t ht)
      intro r hr
      rcases hr with hr | hr
      · exact hIk r hr
      · exact hk r fun hm => S.disj s t (Ne.symm et) r hm hr
  · intro t ht
    by_cases et : t = s
    · subst et; simp only [Lm.upd, if_true]
      have := S.stamp t ht; rw [e] at this
      exact ⟨hU _ this.1, hct⟩
    · simp only [Lm.upd, if_neg et]; exact Bd.stamps_mono hU (S.stamp t ht)
  · intro t ht
    have : t ≠ s := by omega
    simp [this, S.far t ht]
  · intro t ht
    have : t ≠ s := by omega
    simp [Lm.upd, this, S.out t ht]
  · intro a b hab r hr1 hr2
    by_cases ea : a = s
    · subst ea
      rw [if_pos rfl] at hr1
      rw [if_neg (Ne.symm hab)] at hr2
      exact hother r (.inl hr1) b (Ne.symm hab) hr2
    · rw [if_neg ea] at hr1
      by_cases eb : b = s
      · subst eb; rw [if_pos rfl] at hr2; exact hother r (.inl hr2) a ea hr1
      · rw [if_neg eb] at hr2; exact S.disj a b hab r hr1 hr2
  · intro t
    by_cases et : t = s
    · simp [et, hnd.1]
    · simp [et, S.nodup t]
  · intro t r hr1 hr2
    by_cases et : t = s
    · simp only [et, if_true] at hr1; exact hni r (.inl hr1) hr2
    · simp only [et, if_false] at hr1
      rcases hI' r hr2 with h1 | h1 | h1
      · exact S.notI t r hr1 h1
      · exact S.disj s t (Ne.symm et) r h1 hr1
      · exact S.hdisj r (by simp [h1]) t hr1
  · intro t r hr1
    rw [hsz]
    by_cases et : t = s
    · simp only [et, if_true] at hr1; exact hlt r (.inl hr1)
    · simp only [et, if_false] at hr1; exact S.lt t r hr1
  · intro t r hr1
    by_cases et : t = s
    · simp only [et, if_true] at hr1; exact hbase r (.inl hr1)
    · simp only [et, if_false] at hr1; exact S.base t r hr1
  · rw [List.nodup_append]
    refine ⟨hnd.2.1, hnd0.2.1, fun a ha b hb e' => ?_⟩
    subst e'; exact hH a (.inr ha) hb
  · intro r hr1 hr2
    rcases List.mem_append.1 hr1 with h1 | h1
    · exact hni r (.inr h1) hr2
    · rcases hI' r hr2 with h2 | h2 | h2
      · exact S.hnotI r (by simp [h1]) h2
      · exact S.hdisj r (by simp [h1]) s h2
      · exact hnd0.2.2 r h2 r h1 rfl
  · intro r hr1 t
    by_cases et : t = s
    · subst et; simp only [if_true]
      rcases List.mem_append.1 hr1 with h1 | h1
      · intro h2; exact hnd.2.2 r h2 r h1 rfl
      · intro h2; exact hH r (.inl h2) h1
    · simp only [et, if_false]
      rcases List.mem_append.1 hr1 with h1 | h1
      · exact hother r (.inr h1) t et
      · exact S.hdisj r (by simp [h1]) t
  · intro r hr1
    rw [hsz]
    rcases List.mem_append.1 hr1 with h1 | h1
    · exact hlt r (.inr h1)
    · exact S.hlt r (by simp [h1])
  · intro r hr1
    rcases List.mem_append.1 hr1 with h1 | h1
    · exact hbase r (.inr h1)
    · exact S.hbase r (by simp [h1])
  · intro r hr1
    rw [hsz]
    rcases hI' r hr1 with h1 | h1 | h1
    · exact S.ilt r h1
    · exact S.lt s r h1
    · exact S.hlt r (by simp [h1])
  · intro r hr1
    rcases hI' r hr1 with h1 | h1 | h1
    · exact S.ibase r h1
    · exact .inr (S.base s r h1)
    · exact .inr (S.hbase r (by simp [h1]))
  · intro r hr1 hr2
    by_cases hm : r ∈ fp s
    · rcases S.base s r hm with h1 | h1
      · exact absurd h1 hr2
      · omega
    · rw [hk r hm]; exact S.frame r hr1 hr2

/-- A slot that owned gives its tree into the hand. -/
theorem SH.empty (S : SH g n E U tm h I fp H) {s st ct : Nat} {v : V} (e : E s = .own st ct v) :
    SH g n (upd E s (.val .any)) U tm h I (fun t => if t = s then [] else fp t) (fp s ++ H) := by
  have hsn := S.lt_of_own e
  have hV : ∀ s' st' ct0 p Q, U st' → U ct0 → Valid E h tm s' st' ct0 p Q → Valid (Lm.upd E s (.val .any)) h tm s' st' ct0 p Q := by
    intro s' st' ct0 p Q _ _ hv ct1 v1 x cn h1
    simp only [Lm.upd] at h1
    split at h1
    · simp at h1
    · exact hv ct1 v1 x cn h1
  refine { size := S.size, slot := ?_, stamp := ?_, far := ?_, out := ?_, disj := ?_, nodup := ?_, notI := ?_, lt := ?_, base := ?_,
           hnodup := ?_, hnotI := ?_, hdisj := ?_, hlt := ?_, hbase := ?_, ilt := S.ilt, i0 := S.i0, ibase := S.ibase, grow := S.grow, frame := S.frame }
  · intro t ht
    by_cases et : t = s
    · subst et; simp only [Lm.upd, if_true]; exact ⟨rfl, .any _⟩
    · simp only [Lm.upd, if_neg et]
      exact RelB.map (fun _ h => h) (fun _ _ => rfl) hV (S.stamp t ht) (S.slot t ht)
  · intro t ht
    by_cases et : t = s
    · subst et; simp only [Lm.upd, if_true]; trivial
    · simp only [Lm.upd, if_neg et]; exact S.stamp t ht
  · intro t ht
    have : t ≠ s := by omega
    simp [this, S.far t ht]
  · intro t ht
    have : t ≠ s := by omega
    simp [Lm.upd, this, S.out t ht]
  · intro a b hab r hr1 hr2
    by_cases ea : a = s
    · simp [ea] at hr1
    · by_cases eb : b = s
      · simp [eb] at hr2
      · rw [if_neg ea] at hr1; rw [if_neg eb] at hr2; exact S.disj a b hab r hr1 hr2
  · intro t
    by_cases et : t = s
    · simp [et]
    · simp [et, S.nodup t]
  · intro t r hr1
    by_cases et : t = s
    · simp [et] at hr1
    · simp only [et, if_false] at hr1; exact S.notI t r hr1
  · intro t r hr1
    by_cases et : t = s
    · simp [et] at hr1
    · simp only [et, if_false] at hr1; exact S.lt t r hr1
  · intro t r hr1
    by_cases et : t = s
    · simp [et] at hr1
    · simp only [et, if_false] at hr1; exact S.base t r hr1
  · rw [List.nodup_append]
    refine ⟨S.nodup s, S.hnodup, fun a ha b hb e' => ?_⟩
    subst e'; exact S.hdisj a hb s ha
  · intro r hr1
    rcases List.mem_append.1 hr1 with h1 | h1
    · exact S.notI s r h1
    · exact S.hnotI r h1
  · intro r hr1 t
    by_cases et : t = s
    · simp [et]
    · simp only [et, if_false]
      rcases List.mem_append.1 hr1 with h1 | h1
      · exact S.disj s t (Ne.symm et) r h1
      · exact S.hdisj r h1 t
  · intro r hr1
    rcases List.mem_append.1 hr1 with h1 | h1
    · exact S.lt s r h1
    · exact S.hlt r h1
  · intro r hr1
    rcases List.mem_append.1 hr1 with h1 | h1
    · exact S.base s r h1
    · exact S.hbase r h1

/-- What is in hand may be let go. -/
theorem SH.drop {H' : List Nat} (S : SH g n E U tm h I fp H) (hs : H'.Sublist H) : SH g n E U tm h I fp H' :=
  { S with hnodup := S.hnodup.sublist hs, hnotI := fun b hb => S.hnotI b (hs.subset hb), hdisj := fun b hb => S.hdisj b (hs.subset hb),
           hlt := fun b hb => S.hlt b (hs.subset hb), hbase := fun b hb => S.hbase b (hs.subset hb) }

end

end Go.Lm

namespace Go.Lm

section
variable {α β : Type}
theorem run_bind (x : Prg α) (f : α → Prg β) (E : Env) : (x >>= f).run E = (x.run E).bind fun r => (f r.1).run r.2 := by
  show (Prg.bind x f).run E = _
  induction x generalizing E with
  | ret a => rfl
  | fail => rfl
  | get s k ih => exact ih _ _
  | set s b k ih => exact ih _
theorem run_pure (a : α) (E : Env) : (pure a : Prg α).run E = some (a, E) := rfl
theorem run_ret (a : α) (E : Env) : (Prg.ret a).run E = some (a, E) := rfl
theorem run_fail (E : Env) : (Prg.fail : Prg α).run E = none := rfl
theorem run_getS (s : Nat) (E : Env) : (Prg.getS s).run E = some (E s, E) := rfl
theorem run_setS (s : Nat) (b : Bd) (E : Env) : (Prg.setS s b).run E = some ((), upd E s b) := rfl
theorem run_opt (o : Option α) (E : Env) : (Prg.opt o).run E = o.map (·, E) := by cases o <;> rfl
theorem run_opt_some (a : α) (E : Env) : (Prg.opt (some a)).run E = some (a, E) := rfl
theorem run_need (c : Bool) (E : Env) : (Prg.need c).run E = if c then some ((), E) else none := by cases c <;> rfl
theorem upd_eq (E : Env) (s : Nat) (b : Bd) (t : Nat) : upd E s b t = if t = s then b else E t := rfl
theorem run_rdAt (s st ct : Nat) (p : Path) (E : Env) : (rdAt s st ct p).run E = ((E s).at st ct p).map (·, E) := by
  simp [rdAt, run_bind, run_getS, run_opt]
end

/-- Chains that came to something. -/
theorem run_bind_some {α β : Type} {x : Prg α} {f : α → Prg β} {E : Env} {r : β × Env} (h : (x >>= f).run E = some r) :
    ∃ a E', x.run E = some (a, E') ∧ (f a).run E' = some r := by
  rw [run_bind, Option.bind_eq_some_iff] at h
  obtain ⟨⟨a, E'⟩, h1, h2⟩ := h
  exact ⟨a, E', h1, h2⟩
theorem run_opt_some' {α : Type} {o : Option α} {E : Env} {r : α × Env} (h : (Prg.opt o).run E = some r) : o = some r.1 ∧ E = r.2 := by
  rw [run_opt, Option.map_eq_some_iff] at h
  obtain ⟨a, h1, rfl⟩ := h; exact ⟨h1, rfl⟩
theorem run_need_some {c : Bool} {E : Env} {r : Unit × Env} (h : (Prg.need c).run E = some r) : c = true ∧ E = r.2 := by
  rw [run_need] at h
  split at h
  · simp at h; subst h; exact ⟨by assumption, rfl⟩
  · simp at h
theorem run_rdAt_some {s st ct : Nat} {p : Path} {E : Env} {r : V × Env} (h : (rdAt s st ct p).run E = some r) : (E s).at st ct p = some r.1 ∧ E = r.2 := by
  rw [run_rdAt, Option.map_eq_some_iff] at h
  obtain ⟨a, h1, rfl⟩ := h; exact ⟨h1, rfl⟩
theorem run_pure_some {α : Type} {a : α} {E : Env} {r : α × Env} (h : (pure a : Prg α).run E = some r) : (a, E) = r := by
  rw [run_pure] at h; simpa using h

theorem setChild_nsz {v x v' : V} {i j : Nat} (h : v.setChild i j x = some v') : v'.nsz = v.nsz := by
  cases v with
  | sl o sz es =>
    cases o
    · simp [V.setChild] at h
    · simp only [V.setChild, Option.map_eq_some_iff] at h
      obtain ⟨_, _, rfl⟩ := h; rfl
  | box | agg | tup => simp only [V.setChild, Option.some.injEq] at h; subst h; rfl
  | _ => simp [V.setChild] at h

theorem put_nsz {v x v' : V} {p : Path} (hp : p ≠ []) (h : v.put p x = some v') : v'.nsz = v.nsz := by
  cases p with
  | nil => exact absurd rfl hp
  | cons ij p =>
    simp only [V.put, Option.bind_eq_some_iff] at h
    obtain ⟨y, _, h⟩ := h
    split at h
    · simp at h
    · simp only [Option.bind_eq_some_iff] at h
      obtain ⟨y', _, h⟩ := h
      exact setChild_nsz h

theorem put_isAgg {v x v' : V} {p : Path} (hp : p ≠ []) (h : v.put p x = some v') : v'.isAgg = v.isAgg := by
  cases p with
  | nil => exact absurd rfl hp
  | cons ij p =>
    simp only [V.put, Option.bind_eq_some_iff] at h
    obtain ⟨y, _, h⟩ := h
    split at h
    · simp at h
    · simp only [Option.bind_eq_some_iff] at h
      obtain ⟨y', _, h⟩ := h
      exact V.setChild_isAgg h

/-- A child of a changed node: the changed one, or one that was there. -/
theorem child_set {v y v' : V} {i j i0 j0 : Nat} (hy : y.isAgg = false) (h : v.setChild i j y = some v') {x0 : V} (hx : v'.child i0 j0 = some x0) :
    (x0 = y ∧ i0 = i ∧ j0 = j ∧ ∃ z, v.child i j = some z) ∨ (v.child i0 j0 = some x0) ∨ (x0 = y ∧ i0 ≠ i ∧ v.child i0 j0 ≠ none ∧ j0 = j ∧ ∀ o sz es, v ≠ .sl o sz es) := by
  cases v with
  | sl o sz es =>
    cases o
    · simp [V.setChild] at h
    · simp only [V.setChild, Option.map_eq_some_iff] at h
      obtain ⟨e, he, rfl⟩ := h
      simp only [V.child, Option.bind_eq_some_iff] at hx ⊢
      obtain ⟨e0, h0, hx⟩ := hx
      by_cases hi : i0 = i
      · subst hi
        have hlt := (List.getElem?_eq_some_iff.1 he).1
        rw [List.getElem?_set_self hlt] at h0
        simp only [Option.some.injEq] at h0
        subst h0
        rw [V.setCell_cells _ _ _ hy] at hx
        by_cases hj : j0 = j
        · subst hj
          have hlj : j0 < (e.cells.set j0 y).length := (List.getElem?_eq_some_iff.1 hx).1
          rw [List.length_set] at hlj
          rw [List.getElem?_set_self hlj] at hx
          exact .inl ⟨by simpa using hx.symm, rfl, rfl, e.cells[j0], e, he, by simp [hlj]⟩
        · rw [List.getElem?_set_ne (Ne.symm hj)] at hx
          exact .inr (.inl ⟨e, he, hx⟩)
      · rw [List.getElem?_set_ne (Ne.symm hi)] at h0
        exact .inr (.inl ⟨e0, h0, hx⟩)
  | box w =>
    simp only [V.setChild, Option.some.injEq] at h
    subst h
    simp only [V.child] at hx ⊢
    split at hx
    case isFalse => simp at hx
    rename_i hi0
    subst hi0
    rw [V.setCell_cells _ _ _ hy] at hx
    by_cases hj : j0 = j
    · subst hj
      have hlj : j0 < (w.cells.set j0 y).length := (List.getElem?_eq_some_iff.1 hx).1
      rw [List.length_set] at hlj
      rw [List.getElem?_set_self hlj] at hx
      by_cases hi : i = 0
      · subst hi; exact .inl ⟨by simpa using hx.symm, rfl, rfl, w.cells[j0], by simp [hlj]⟩
      · exact .inr (.inr ⟨by simpa using hx.symm, Ne.symm hi, by simp; omega, rfl, by simp⟩)
    · rw [List.getElem?_set_ne (Ne.symm hj)] at hx
      exact .inr (.inl (by simp [hx]))
  | agg w | tup w =>
    simp only [V.setChild, Option.some.injEq] at h
    subst h
    simp only [V.child] at hx ⊢
    split at hx
    case isFalse => simp at hx
    rename_i hi0
    subst hi0
    by_cases hj : j0 = j
    · subst hj
      have hlj : j0 < (w.set j0 y).length := (List.getElem?_eq_some_iff.1 hx).1
      rw [List.length_set] at hlj
      rw [List.getElem?_set_self hlj] at hx
      by_cases hi : i = 0
      · subst hi; exact .inl ⟨by simpa using hx.symm, rfl, rfl, w[j0], by simp [hlj]⟩
      · exact .inr (.inr ⟨by simpa using hx.symm, Ne.symm hi, by simp; omega, rfl, by simp⟩)
    · rw [List.getElem?_set_ne (Ne.symm hj)] at hx
      exact .inr (.inl (by simp [hx]))
  | _ => simp [V.setChild] at h

theorem childC_set {h : Heap} {v y v' : V} {c : Value} {i j i0 j0 : Nat} (hs : v.setChild i j y = some v') : childC h v' c i0 j0 = childC h v c i0 j0 := by
  cases v with
  | sl o sz es =>
    cases o
    · simp [V.setChild] at hs
    · simp only [V.setChild, Option.map_eq_some_iff] at hs
      obtain ⟨e, he, rfl⟩ := hs
      unfold childC; split <;> simp_all
  | box | agg | tup => simp only [V.setChild, Option.some.injEq] at hs; subst hs; unfold childC; split <;> simp_all
  | _ => simp [V.setChild] at hs

/-- What could be held on to behind 'nothing stands there any more' could be before. -/
theorem put_any {h : Heap} : ∀ {p : Path} {v v' : V} {c : Value}, p ≠ [] → v.put p .any = some v' → ∀ {p0 : Path} {x0 : V} {cn : Value}, v'.get p0 = some x0 →
    (p0 = [] ∨ x0.loose = false) → walkC h v' c p0 = some cn →
    ∃ x1, v.get p0 = some x1 ∧ (p0 = [] ∨ x1.loose = false) ∧ x1.nsz = x0.nsz ∧ walkC h v c p0 = some cn := by
  intro p
  induction p with
  | nil => intro v v' c hp; exact absurd rfl hp
  | cons ij p ih =>
    obtain ⟨i, j⟩ := ij
    intro v v' c _ hput p0 x0 cn hg hl hw
    cases p0 with
    | nil =>
      simp only [V.get, Option.some.injEq] at hg
      subst hg
      exact ⟨v, rfl, .inl rfl, (put_nsz (p := (i, j) :: p) (by simp) hput).symm, by simpa [walkC] using hw⟩
    | cons ij0 p0 =>
      obtain ⟨i0, j0⟩ := ij0
      simp only [V.put, Option.bind_eq_some_iff] at hput
      obtain ⟨y, hy, hput⟩ := hput
      split at hput
      case isTrue => simp at hput
      rename_i hya
      simp only [Option.bind_eq_some_iff] at hput
      obtain ⟨y', hy', hset⟩ := hput
      have hya' : y'.isAgg = false := by
        cases p with
        | nil => simp only [V.put, Option.some.injEq] at hy'; subst hy'; rfl
        | cons ij1 p1 => rw [put_isAgg (by simp) hy']; simpa using hya
      simp only [V.get, Option.bind_eq_some_iff] at hg
      obtain ⟨z, hz, hg⟩ := hg
      simp only [walkC, childC_set hset, hz, Option.bind_eq_some_iff] at hw
      obtain ⟨c1, hc1, z1, hz1, hw⟩ := hw
      obtain rfl : z = z1 := by simpa using hz1
      have hl0 : x0.loose = false := by rcases hl with hl | hl <;> simp_all
      rcases child_set hya' hset hz with ⟨rfl, rfl, rfl, _⟩ | hsame | ⟨rfl, hne, hnn, _, _⟩
      · cases p with
        | nil =>
          simp only [V.put, Option.some.injEq] at hy'
          subst hy'
          cases p0 with
          | nil => simp only [V.get, Option.some.injEq] at hg; subst hg; simp [V.loose] at hl0
          | cons _ _ => simp [V.get, V.child] at hg
        | cons ij1 p1 =>
          obtain ⟨x1, g1, g2, g3, g4⟩ := ih (c := c1) (by simp) hy' hg (.inr hl0) hw
          refine ⟨x1, by simp [V.get, hy, g1], .inr ?_, g3, by simp [walkC, hc1, hy, g4]⟩
          rcases g2 with g2 | g2
          · subst g2
            simp only [V.get, Option.some.injEq] at g1 hg
            subst g1 hg
            simp only [V.put, Option.bind_eq_some_iff] at hy'
            obtain ⟨q, hq, _⟩ := hy'
            cases y <;> simp_all [V.child, V.loose]
          · exact g2
      · refine ⟨x0, by simp [V.get, hsame, hg], .inr hl0, rfl, by simp [walkC, hc1, hsame, hw]⟩
      · -- a box, an aggregate or a tuple has places of row 0 alone: the put's own row is 0 as the place was there
        exfalso
        cases v with
        | box w => simp only [V.child] at hy hz hnn; split at hy <;> simp_all
        | agg w => simp only [V.child] at hy hz hnn; split at hy <;> simp_all
        | tup w => simp only [V.child] at hy hz hnn; split at hy <;> simp_all
        | sl o sz es => rename_i hh; exact hh _ _ _ rfl
        | _ => simp [V.setChild] at hset

end Go.Lm

namespace Go.Lm

def Bd.noOwn (b : Bd) : Prop := ∀ st ct v, b ≠ .own st ct v

def evc (tm : Array Value) : Operand → Value
  | .tmp t => tmf tm t
  | .const v => v
  | .global g => .pointer (some ⟨g, 0, none⟩)
  | .func f => .func (.func f) #[] #[]

theorem eval_evc (a : Act) : a.eval = evc a.tmps := by
  funext x; cases x <;> rfl

theorem ofVal_ok {P : Program} {t : TypeId} {c : Value} {v : V} {h : Heap} {I : Nat → Prop} (e : ofVal P t c = some v) : RelV h I v c [] := by
  unfold ofVal at e
  split at e
  · simp only [Option.some.injEq] at e; subst e; exact .bool _
  · simp only [Option.some.injEq] at e; subst e; exact .int _ _
  · simp only [Option.some.injEq] at e; subst e; exact .str _
  · simp only [Option.bind_eq_some_iff, Option.map_eq_some_iff] at e
    obtain ⟨_, _, _, _, rfl⟩ := e; exact .slZ _ _ _
  · simp only [Option.some.injEq] at e; subst e; exact .nilP
  · simp only [Option.some.injEq] at e; subst e; exact .nilF
  · simp at e

mutual
theorem shared_nil {h : Heap} {I : Nat → Prop} : ∀ {v : V} {c : Value} {bs : List Nat}, RelV h I v c bs → v.shared = true → bs = []
  | _, _, _, .any _, _ | _, _, _, .bool _, _ | _, _, _, .int _ _, _ | _, _, _, .str _, _ | _, _, _, .slE _ _ _, _
  | _, _, _, .slZ _ _ _, _ | _, _, _, .sh _ _ _ _ _ _ _ _ _ _ _ _ _ _ _, _ | _, _, _, .cptr _ _ _ _ _ _ _ _ _ _ _ _ _, _
  | _, _, _, .nilP, _ | _, _, _, .nilF, _ => rfl
  | _, _, _, .ow _ _ _ _ _ _ _ _ _ _ _ _ _ _ _ _, hs => by simp [V.shared] at hs
  | _, _, _, .box _ _ _ _ _ _ _ _ _ _, hs => by simp [V.shared] at hs
  | _, _, _, .agg _ _ _ hl, hs => sharedL_nil hl (by simpa [V.shared] using hs)
  | _, _, _, .tup _ _ _ hl, hs => sharedL_nil hl (by simpa [V.shared] using hs)
  | _, _, _, .fn _ _ _ _ hl, hs => sharedL_nil hl (by simpa [V.shared] using hs)
theorem sharedL_nil {h : Heap} {I : Nat → Prop} : ∀ {vs : List V} {cs : List Value} {bs : List Nat}, RelL h I vs cs bs → V.shared.sharedL vs = true → bs = []
  | _, _, _, .nil, _ => rfl
  | _, _, _, .cons _ _ _ _ _ _ h1 h2, hs => by
    simp only [V.shared.sharedL, Bool.and_eq_true] at hs
    rw [shared_nil h1 hs.1, sharedL_nil h2 hs.2]; rfl
end

section
variable {P : Program} {g : Gh} {n : Nat} {E : Env} {U : Nat → Prop} {tm : Array Value} {h : Heap} {I : Nat → Prop} {fp : Nat → List Nat} {H : List Nat}

theorem ev_ok (S : SH g n E U tm h I fp H) {x : Operand} {t : TypeId} {b : Bd} {E' : Env} (hr : (ev P x t).run E = some (b, E')) :
    E = E' ∧ RelB E h tm I [] b (evc tm x) ∧ b.stamps U ∧ b.noOwn := by
  cases x with
  | tmp s =>
    obtain ⟨b0, h1, h2, h3, h4⟩ := S.operand s
    simp only [ev] at hr
    obtain ⟨a, E1, e1, e2⟩ := run_bind_some hr
    simp only [run_getS, Option.some.injEq, Prod.mk.injEq] at e1
    obtain ⟨rfl, rfl⟩ := e1
    have hb : b = b0 ∧ E' = E := by
      rw [← h1]
      cases e : E s <;> rw [e] at e2 <;> simp [run_pure] at e2 <;> simp [e2]
    obtain ⟨rfl, rfl⟩ := hb
    exact ⟨rfl, h2, h3, h4⟩
  | const v =>
    simp only [ev] at hr
    obtain ⟨a, E1, e1, e2⟩ := run_bind_some hr
    obtain ⟨e3, rfl⟩ := run_opt_some' e1
    have := run_pure_some e2
    simp only [Prod.mk.injEq] at this
    obtain ⟨rfl, rfl⟩ := this
    exact ⟨rfl, ⟨rfl, ofVal_ok e3⟩, trivial, by intro; simp⟩
  | global => simp [ev, run_fail] at hr
  | func f =>
    have := run_pure_some hr
    simp only [Prod.mk.injEq] at this
    obtain ⟨rfl, rfl⟩ := this
    exact ⟨rfl, ⟨rfl, .fn f [] #[] [] (by simpa using .nil)⟩, trivial, by intro; simp⟩

/-- The blocks that are read as if nobody wrote them. -/
def zone (I : Nat → Prop) (fp : Nat → List Nat) (r : Nat) : Prop := I r ∨ ∃ s, r ∈ fp s

theorem readCap_ok (S : SH g n E U tm h I fp H) {k : Cap} {c : Value} (hb : RelCap E h tm I k c) {v : V} {E' : Env} (hr : (readCap k).run E = some (v, E')) :
    E = E' ∧ RelV h (zone I fp) v c [] := by
  cases k with
  | v x =>
    have := run_pure_some hr
    simp only [Prod.mk.injEq] at this
    obtain ⟨rfl, rfl⟩ := this
    exact ⟨rfl, RelV.mono (fun _ h => .inl h) hb fun _ _ => rfl⟩
  | r s st ct =>
    simp only [readCap] at hr
    obtain ⟨x, E1, e1, e2⟩ := run_bind_some hr
    obtain ⟨e3, e4⟩ := run_rdAt_some e1
    simp only at e3 e4; subst e4
    obtain ⟨ct', v0, c', h1, h2, h3, h4, h5, h6, pre, bx, post, h7, h8, _⟩ := S.at e3
    have hcc : c = c' := h6 (fun _ cn => c = cn) hb
    subst hcc
    split at e2
    · have := run_pure_some e2
      simp only [Prod.mk.injEq] at this
      obtain ⟨rfl, rfl⟩ := this
      exact ⟨rfl, RelV.frozen (fun _ h => .inl h) h8 fun b hb => .inr ⟨s, by rw [h7]; simp [hb]⟩⟩
    · simp [run_fail] at e2

theorem readCaps_ok (S : SH g n E U tm h I fp H) {ks : List Cap} {cs : List Value} (hb : RelCaps E h tm I ks cs) : ∀ {vs : List V} {E' : Env},
    (readCaps ks).run E = some (vs, E') → E = E' ∧ RelL h (zone I fp) vs cs [] := by
  induction hb with
  | nil =>
    intro vs E' hr
    have := run_pure_some hr
    simp only [Prod.mk.injEq] at this
    obtain ⟨rfl, rfl⟩ := this
    exact ⟨rfl, .nil⟩
  | cons k c ks cs h1 h2 ih =>
    intro vs E' hr
    simp only [readCaps] at hr
    obtain ⟨x, E1, e1, hr1⟩ := run_bind_some hr
    obtain ⟨xs, E2, e2, hr2⟩ := run_bind_some hr1
    obtain ⟨e3, r1⟩ := readCap_ok S h1 e1
    rw [← e3] at e2
    obtain ⟨e4, r2⟩ := ih e2
    rw [← e4] at hr2
    have := run_pure_some hr2
    simp only [Prod.mk.injEq] at this
    obtain ⟨rfl, rfl⟩ := this
    exact ⟨rfl, .cons _ _ [] _ _ [] r1 r2⟩

theorem readB_ok (S : SH g n E U tm h I fp H) {b : Bd} {c : Value} (hb : RelB E h tm I [] b c) {v : V} {E' : Env} (hr : (readB b).run E = some (v, E')) :
    E = E' ∧ RelV h (zone I fp) v c [] := by
  cases b with
  | val x =>
    have := run_pure_some hr
    simp only [Prod.mk.injEq] at this
    obtain ⟨rfl, rfl⟩ := this
    exact ⟨rfl, RelV.mono (fun _ h => .inl h) hb.2 fun _ _ => rfl⟩
  | own => simp [readB, run_fail] at hr
  | rv s st ct p =>
    simp only [readB] at hr
    obtain ⟨x, E1, e1, e2⟩ := run_bind_some hr
    obtain ⟨e3, e4⟩ := run_rdAt_some e1
    simp only at e3 e4; subst e4
    have := run_pure_some e2
    simp only [Prod.mk.injEq] at this
    obtain ⟨rfl, rfl⟩ := this
    obtain ⟨ct', v0, c', h1, h2, h3, h4, h5, h6, pre, bx, post, h7, h8, _⟩ := S.at e3
    have hcc : c = c' := h6 (fun _ cn => c = cn) hb.2
    subst hcc
    exact ⟨rfl, RelV.frozen (fun _ h => .inl h) h8 fun b hb => .inr ⟨s, by rw [h7]; simp [hb]⟩⟩
  | rs s st ct p lo m =>
    simp only [readB] at hr
    obtain ⟨x, E1, e1, e2⟩ := run_bind_some hr
    obtain ⟨e3, e4⟩ := run_rdAt_some e1
    simp only at e3 e4; subst e4
    obtain ⟨ct', v0, c', h1, h2, h3, h4, h5, h6, pre, bx, post, h7, h8, _⟩ := S.at e3
    have hcc := h6 _ hb.2
    split at e2
    case h_2 => simp [run_fail] at e2
    rename_i o sz es
    split at e2
    case isFalse => simp [run_fail] at e2
    rename_i hle
    have := run_pure_some e2
    simp only [Prod.mk.injEq] at this
    obtain ⟨rfl, rfl⟩ := this
    obtain ⟨bs', r1, r2⟩ := RelV.sub h8 hcc hle
    exact ⟨rfl, RelV.frozen (fun _ h => .inl h) r1 fun b hb => .inr ⟨s, by rw [h7]; simp [r2.subset hb]⟩⟩
  | rp s st ct p i j =>
    simp only [readB] at hr
    obtain ⟨x, E1, e1, e2⟩ := run_bind_some hr
    obtain ⟨e3, e4⟩ := run_rdAt_some e1
    simp only at e3 e4; subst e4
    obtain ⟨ct', v0, c', h1, h2, h3, h4, h5, h6, pre, bx, post, h7, h8, _⟩ := S.at e3
    obtain ⟨b2, off2, hbase, rfl⟩ := h6 _ hb.2
    obtain ⟨e, E2, e5, e6⟩ := run_bind_some e2
    obtain ⟨e7, e8⟩ := run_opt_some' e5
    simp only at e7 e8; subst e8
    split at e6
    case isFalse => simp [run_fail] at e6
    rename_i hj
    have := run_pure_some e6
    simp only [Prod.mk.injEq] at this
    obtain ⟨rfl, rfl⟩ := this
    obtain ⟨b3, off3, cs, el, fr, pre3, be, post3, g1, g2, g3, g4, g5, g6, g7, _, _, _⟩ := RelV.elem h8 e7
    obtain ⟨rfl, rfl⟩ : b2 = b3 ∧ off2 = off3 := by
      rcases hbase with ⟨len, cap, rfl⟩ | rfl <;> rcases g1 with ⟨len', cap', g1⟩ | g1 <;> simp_all
    refine ⟨rfl, ?_⟩
    have hmem : ∀ r, r ∈ bx → zone I fp r := fun r hr => .inr ⟨s, by rw [h7]; simp [hr]⟩
    have hz : zone I fp b2 := by
      rcases g7 with g7 | g7
      · exact .inl g7
      · exact hmem _ (by rw [g4]; simp [g7])
    have r5 := RelL.frozen (I' := zone I fp) (fun _ h => .inl h) g5 fun r hr => hmem r (by rw [g4]; simp [hr])
    rw [← V.freeze_cells] at r5
    rw [← Nat.add_assoc]
    refine .cptr e.freeze j b2 (off2 + i * x.nsz) cs el fr hz g2 (by rw [V.freeze_cells_length]; exact g3) (by rw [V.freeze_cells_length]; exact hj) ?_ ?_
    · rw [V.freeze_cells_length]; exact r5
    · rw [V.freeze_cells_length]; exact g6
  | clo f caps =>
    obtain ⟨_, cs, rfl, hcs⟩ := hb
    simp only [readB] at hr
    obtain ⟨vs, E1, e1, e2⟩ := run_bind_some hr
    obtain ⟨rfl, r1⟩ := readCaps_ok S hcs e1
    have := run_pure_some e2
    simp only [Prod.mk.injEq] at this
    obtain ⟨rfl, rfl⟩ := this
    exact ⟨rfl, .fn f vs cs [] r1⟩

/-- The other operands keep their meaning. -/
def Keeps (E : Env) (U : Nat → Prop) (I : Nat → Prop) (E' : Env) (I' : Nat → Prop) (h : Heap) (tm : Array Value) : Prop :=
  ∀ b c, b.stamps U → b.noOwn → RelB E h tm I [] b c → RelB E' h tm I' [] b c

theorem Keeps.refl : Keeps E U I E I h tm := fun _ _ _ _ h => h
theorem Keeps.trans {E1 E2 : Env} {I1 I2 : Nat → Prop} (h1 : Keeps E U I E1 I1 h tm) (h2 : Keeps E1 U I1 E2 I2 h tm) : Keeps E U I E2 I2 h tm :=
  fun b c hs hn hr => h2 b c hs hn (h1 b c hs hn hr)

theorem RelB.keep {E' : Env} {I' : Nat → Prop} (hI : ∀ b, I b → I' b) (hv : ∀ s st ct p Q, U st → U ct → Valid E h tm s st ct p Q → Valid E' h tm s st ct p Q) :
    Keeps E U I E' I' h tm := fun _ _ hs _ hr => RelB.map hI (fun _ _ => rfl) hv hs hr

theorem valid_any {s : Nat} : ∀ s' st' ct0 p Q, U st' → U ct0 → Valid E h tm s' st' ct0 p Q → Valid (upd E s (.val .any)) h tm s' st' ct0 p Q := by
  intro s' st' ct0 p Q _ _ hv ct1 v1 x cn h1
  simp only [upd] at h1
  split at h1
  · simp at h1
  · exact hv ct1 v1 x cn h1

theorem valid_taken {s st ct : Nat} {p : Path} {v v' : V} (e : E s = .own st ct v) (hp : p ≠ []) (hv' : v.put p .any = some v') :
    ∀ s' st' ct0 p0 Q, U st' → U ct0 → Valid E h tm s' st' ct0 p0 Q → Valid (upd E s (.own st ct v')) h tm s' st' ct0 p0 Q := by
  intro s' st' ct0 p0 Q _ _ hv ct1 v1 x cn h1 h2 h3 h4 h5
  simp only [upd] at h1
  split at h1
  · rename_i es
    subst es
    simp only [Bd.own.injEq] at h1
    obtain ⟨rfl, rfl, rfl⟩ := h1
    obtain ⟨x1, q1, q2, q3, q4⟩ := put_any (h := h) (c := tmf tm s') hp hv' h3 h4 h5
    rw [← q3]
    exact hv ct v x1 cn e h2 q1 q2 q4
  · exact hv ct1 v1 x cn h1 h2 h3 h4 h5

/-- What is in hand is never written any more. -/
theorem SH.toI {bs : List Nat} (S : SH g n E U tm h I fp (bs ++ H)) : SH g n E U tm h (fun r => I r ∨ r ∈ bs) fp H := by
  have hnd := S.hnodup
  rw [List.nodup_append] at hnd
  have hI : ∀ r, I r → (I r ∨ r ∈ bs) := fun _ h => .inl h
  refine { size := S.size, slot := ?_, stamp := S.stamp, far := S.far, out := S.out, disj := S.disj, nodup := S.nodup, notI := ?_, lt := S.lt, base := S.base,
           hnodup := hnd.2.1, hnotI := ?_, hdisj := fun b hb => S.hdisj b (by simp [hb]), hlt := fun b hb => S.hlt b (by simp [hb]), hbase := fun b hb => S.hbase b (by simp [hb]),
           ilt := ?_, i0 := fun b hb => .inl (S.i0 b hb), ibase := ?_, grow := S.grow, frame := S.frame }
  · intro s hs
    exact RelB.map (U := U) hI (fun _ _ => rfl) (fun _ _ _ _ _ _ _ h => h) (S.stamp s hs) (S.slot s hs)
  · intro s r hr hr2
    rcases hr2 with h1 | h1
    · exact S.notI s r hr h1
    · exact S.hdisj r (by simp [h1]) s hr
  · intro r hr hr2
    rcases hr2 with h1 | h1
    · exact S.hnotI r (by simp [hr]) h1
    · exact hnd.2.2 r h1 r hr rfl
  · intro r hr
    rcases hr with h1 | h1
    · exact S.ilt r h1
    · exact S.hlt r (by simp [h1])
  · intro r hr
    rcases hr with h1 | h1
    · exact S.ibase r h1
    · exact .inr (S.hbase r (by simp [h1]))

theorem setIf_self (tm : Array Value) (s : Nat) (hs : s < tm.size) : tm.setIfInBounds s (tmf tm s) = tm := by
  have : tmf tm s = tm[s] := by simp [tmf, hs]
  rw [this]
  apply Array.ext_getElem?; intro i
  by_cases e : s = i
  · subst e; simp [hs]
  · rw [Array.getElem?_setIfInBounds_ne e]

/-- A slot keeps its value, and is read another way. -/
theorem SH.relabel (S : SH g n E U tm h I fp H) {s : Nat} (hs : s < n) (he : fp s = []) {b : Bd} (hb : RelB E h tm I [] b (tmf tm s)) (hst : b.stamps U) (hno : b.noOwn) :
    SH g n (upd E s b) U tm h I fp H := by
  have := SH.put (bs := []) (by simpa using S) hs (fun _ h => h) hst (fun st ct v e => absurd e (hno st ct v)) (.inr hst) hb
  rw [setIf_self tm s (by rw [S.size]; exact hs)] at this
  have e : (fun t => if t = s then [] else fp t) = fp := by funext t; split <;> simp_all
  rw [e] at this; exact this

/-- The place 'p' of slot 's' is emptied. -/
theorem SH.takeAt (S : SH g n E U tm h I fp H) {s st ct : Nat} {p : Path} {x : V} (hx : (E s).at st ct p = some x) {E' : Env} {u : Unit}
    (hr : (clearAt s st ct p).run E = some (u, E')) :
    ∃ fp' bx c', SH g n E' U tm h I fp' (bx ++ H) ∧ Keeps E U I E' I h tm ∧ RelV h I x c' bx ∧ (∀ Q, Valid E h tm s st ct p Q → Q x.nsz c') ∧
      (∀ t, t ≠ s → E' t = E t) ∧ (p = [] → E' s = .val .any ∧ fp' s = []) := by
  obtain ⟨ct', v0, c', h1, h2, h3, h4, h5, h6, pre, bx, post, h7, h8, h9⟩ := S.at hx
  unfold clearAt at hr
  by_cases hp : p = []
  · subst hp
    simp only [if_true, run_setS, Option.some.injEq, Prod.mk.injEq, true_and] at hr
    subst hr
    simp only [V.get, Option.some.injEq] at h3
    subst h3
    simp only [walkC, Option.some.injEq] at h5
    subst h5
    exact ⟨_, _, _, S.empty h1, RelB.keep (fun _ h => h) valid_any, S.own h1, h6, fun t ht => by simp [upd, ht], fun _ => by simp [upd]⟩
  · rw [if_neg hp] at hr
    simp only [wrAt] at hr
    simp only [run_bind, run_getS, Option.bind_some, h1] at hr
    split at hr
    case isFalse => simp [run_fail] at hr
    obtain ⟨v', E2, e2, hr2⟩ := run_bind_some hr
    obtain ⟨e3, e4⟩ := run_opt_some' e2
    simp only at e3 e4; subst e4
    simp only [run_setS, Option.some.injEq, Prod.mk.injEq, true_and, Option.getD_none] at hr2
    subst hr2
    have hnd : (pre ++ bx ++ post).Nodup := by rw [← h7]; exact S.nodup s
    have hstamp : U ct' := by have := S.stamp s (S.lt_of_own h1); rw [h1] at this; exact this.2
    refine ⟨_, bx, c', SH.edit (bs := []) (fs := pre ++ [] ++ post) (hs := bx) (by simpa using S) h1 (fun _ h => h) hstamp (fun _ h => h) (fun _ h => .inl h) (fun _ _ => rfl) rfl ?_ ?_ ?_ ?_ ?_,
      RelB.keep (fun _ h => h) (valid_taken h1 hp e3), h8, h6, fun t ht => by simp [upd, ht], fun h => absurd h hp⟩
    · exact h9 h I .any [] (fun _ _ => rfl) (fun _ h => h) (fun _ => rfl) (.any _) v' e3
    · intro r hr; left; rw [h7]; simp at hr ⊢; rcases hr with (hr | hr) | hr <;> simp [hr]
    · simp only [List.append_nil, List.append_assoc]
      have : (pre ++ (post ++ bx)).Perm (pre ++ bx ++ post) := by
        rw [List.append_assoc]; exact List.Perm.append_left _ List.perm_append_comm
      exact this.symm.nodup hnd
    · intro r hr; exact S.notI s r (by rw [h7]; simp at hr ⊢; rcases hr with (hr | hr) | hr <;> simp [hr])
    · intro ct0 p0 Q hct hv; exact valid_taken h1 hp e3 s st ct0 p0 Q (by have := S.stamp s (S.lt_of_own h1); rw [h1] at this; exact this.1) hct hv

theorem freezeCap_ok {k : Cap} {c : Value} (S : SH g n E U tm h I fp H) (hs : k.stamps U) (hb : RelCap E h tm I k c) {v : V} {E' : Env} (hr : (freezeCap k).run E = some (v, E')) :
    ∃ I' fp', SH g n E' U tm h I' fp' H ∧ (∀ r, I r → I' r) ∧ Keeps E U I E' I' h tm ∧
      (∀ k' c', k'.stamps U → RelCap E h tm I k' c' → RelCap E' h tm I' k' c') ∧ RelV h I' v c [] := by
  cases k with
  | v x =>
    have := run_pure_some hr
    simp only [Prod.mk.injEq] at this
    obtain ⟨rfl, rfl⟩ := this
    exact ⟨I, fp, S, fun _ h => h, Keeps.refl, fun _ _ _ h => h, hb⟩
  | r s st ct =>
    simp only [freezeCap] at hr
    obtain ⟨x, E1, e1, e2⟩ := run_bind_some hr
    obtain ⟨e3, e4⟩ := run_rdAt_some e1
    simp only at e3 e4; subst e4
    obtain ⟨ct', v0, c', h1, h2, h3, h4, h5, h6, pre, bx, post, h7, h8, _⟩ := S.at e3
    have hcc : c = c' := h6 (fun _ cn => c = cn) hb
    subst hcc
    split at e2
    case h_2 => simp [run_fail] at e2
    rename_i y
    obtain ⟨u, E2, e5, e6⟩ := run_bind_some e2
    simp only [run_setS, Option.some.injEq, Prod.mk.injEq, true_and] at e5
    subst e5
    have := run_pure_some e6
    simp only [Prod.mk.injEq] at this
    obtain ⟨rfl, rfl⟩ := this
    simp only [V.get, Option.some.injEq] at h3
    subst h3
    simp only [walkC, Option.some.injEq] at h5
    have hsn := S.lt_of_own h1
    have hown := S.own h1
    have S1 := (S.empty h1).toI
    have hfz : RelV h (fun r => I r ∨ r ∈ fp s) (V.cptr y.freeze 0) (tmf tm s) [] := RelV.frozen (fun _ h => .inl h) hown fun b hb => .inr hb
    have S2 := S1.relabel (b := .val (.cptr y.freeze 0)) hsn (by simp) ⟨rfl, hfz⟩ trivial (by intro; simp)
    have eupd : upd (upd E s (.val .any)) s (.val (.cptr y.freeze 0)) = upd E s (.val (.cptr y.freeze 0)) := by funext t; simp [upd]; split <;> rfl
    rw [eupd] at S2
    have hV : ∀ s' st' ct0 p Q, U st' → U ct0 → Valid E h tm s' st' ct0 p Q → Valid (upd E s (.val (.cptr y.freeze 0))) h tm s' st' ct0 p Q := by
      intro s' st' ct0 p Q _ _ hv ct1 v1 x cn h1
      simp only [upd] at h1
      split at h1
      · simp at h1
      · exact hv ct1 v1 x cn h1
    refine ⟨_, _, S2, fun _ h => .inl h, RelB.keep (fun _ h => .inl h) hV, fun k' c' hk' hr' => RelCap.map (fun _ h => .inl h) (fun _ _ => rfl) hV hk' hr', ?_⟩
    rw [← h5]; exact hfz

theorem freezeCaps_ok {ks : List Cap} : ∀ {cs : List Value} {E : Env} {I : Nat → Prop} {fp : Nat → List Nat}, SH g n E U tm h I fp H → (∀ k ∈ ks, k.stamps U) → RelCaps E h tm I ks cs →
    ∀ {vs : List V} {E' : Env}, (freezeCaps ks).run E = some (vs, E') →
    ∃ I' fp', SH g n E' U tm h I' fp' H ∧ (∀ r, I r → I' r) ∧ Keeps E U I E' I' h tm ∧ RelL h I' vs cs [] := by
  induction ks with
  | nil =>
    intro cs E I fp S _ hb vs E' hr
    have := run_pure_some hr
    simp only [Prod.mk.injEq] at this
    obtain ⟨rfl, rfl⟩ := this
    cases hb
    exact ⟨I, fp, S, fun _ h => h, Keeps.refl, .nil⟩
  | cons k ks ih =>
    intro cs E I fp S hs hb vs E' hr
    cases hb with
    | cons _ c _ cs h1 h2 =>
    simp only [freezeCaps] at hr
    obtain ⟨x, E1, e1, hr1⟩ := run_bind_some hr
    obtain ⟨I1, fp1, S1, hI1, K1, C1, r1⟩ := freezeCap_ok S (hs k (by simp)) h1 e1
    obtain ⟨xs, E2, e2, hr2⟩ := run_bind_some hr1
    have hks : ∀ k' ∈ ks, k'.stamps U := fun k' hk => hs k' (by simp [hk])
    have h2' : RelCaps E1 h tm I1 ks cs := by
      clear ih hs e2 hr2 hr1 hr
      induction h2 with
      | nil => exact .nil
      | cons k' c' ks' cs' g1 g2 ihh => exact .cons _ _ _ _ (C1 _ _ (hks _ (by simp)) g1) (ihh fun k' hk => hks k' (by simp [hk]))
    obtain ⟨I2, fp2, S2, hI2, K2, r2⟩ := ih S1 hks h2' e2
    have := run_pure_some hr2
    simp only [Prod.mk.injEq] at this
    obtain ⟨rfl, rfl⟩ := this
    exact ⟨I2, fp2, S2, fun r h => hI2 r (hI1 r h), K1.trans K2, .cons _ _ [] _ _ [] (RelV.mono hI2 r1 fun _ _ => rfl) r2⟩

theorem takeB_ok (S : SH g n E U tm h I fp H) {b : Bd} {c : Value} (hst : b.stamps U) (hb : RelB E h tm I [] b c) {ow : Bool} {v : V} {E' : Env}
    (hr : (takeB b).run E = some ((ow, v), E')) :
    ∃ I' fp' bs, SH g n E' U tm h I' fp' (bs ++ H) ∧ (∀ r, I r → I' r) ∧ Keeps E U I E' I' h tm ∧ RelV h I' v c bs ∧ (ow = false → bs = []) ∧
      (∀ s st ct, b = .rv s st ct [] → ow = true → s < n ∧ E' s = .val .any ∧ fp' s = []) := by
  cases b with
  | val x =>
    have := run_pure_some hr
    simp only [Prod.mk.injEq] at this
    obtain ⟨⟨rfl, rfl⟩, rfl⟩ := this
    exact ⟨I, fp, [], by simpa using S, fun _ h => h, Keeps.refl, hb.2, fun _ => rfl, by simp⟩
  | own => simp [takeB, run_fail] at hr
  | rv s st ct p =>
    simp only [takeB] at hr
    obtain ⟨x, E1, e1, hr1⟩ := run_bind_some hr
    obtain ⟨e3, e4⟩ := run_rdAt_some e1
    simp only at e3 e4; subst e4
    split at hr1
    · rename_i hsh
      have := run_pure_some hr1
      simp only [Prod.mk.injEq] at this
      obtain ⟨⟨rfl, rfl⟩, rfl⟩ := this
      obtain ⟨ct', v0, c', h1, h2, h3, h4, h5, h6, pre, bx, post, h7, h8, _⟩ := S.at e3
      have hcc : c = c' := h6 (fun _ cn => c = cn) hb.2
      subst hcc
      obtain rfl := shared_nil h8 hsh
      exact ⟨I, fp, [], by simpa using S, fun _ h => h, Keeps.refl, h8, fun _ => rfl, by simp⟩
    · obtain ⟨u, E2, e5, e6⟩ := run_bind_some hr1
      obtain ⟨fp', bx, c', S', K', r', q', _, z'⟩ := S.takeAt e3 e5
      have := run_pure_some e6
      simp only [Prod.mk.injEq] at this
      obtain ⟨⟨rfl, rfl⟩, rfl⟩ := this
      have hcc : c = c' := q' (fun _ cn => c = cn) hb.2
      subst hcc
      refine ⟨I, fp', bx, S', fun _ h => h, K', r', by simp, ?_⟩
      intro s' st' ct' e _
      simp only [Bd.rv.injEq] at e
      obtain ⟨rfl, rfl, rfl, rfl⟩ := e
      obtain ⟨_, _, _, h1, _⟩ := S.at e3
      exact ⟨S.lt_of_own h1, z' rfl⟩
  | rs s st ct p lo m =>
    simp only [takeB] at hr
    obtain ⟨x, E1, e1, hr1⟩ := run_bind_some hr
    obtain ⟨e3, e4⟩ := run_rdAt_some e1
    simp only at e3 e4; subst e4
    split at hr1
    case h_2 => simp [run_fail] at hr1
    rename_i o sz es
    split at hr1
    case isFalse => simp [run_fail] at hr1
    rename_i hle
    split at hr1
    · rename_i ho
      subst ho
      obtain ⟨u, E2, e5, e6⟩ := run_bind_some hr1
      obtain ⟨fp', bx, c', S', K', r', q', _, _⟩ := S.takeAt e3 e5
      have := run_pure_some e6
      simp only [Prod.mk.injEq] at this
      obtain ⟨⟨rfl, rfl⟩, rfl⟩ := this
      obtain ⟨bs', r1, r2⟩ := RelV.sub r' (q' _ hb.2) hle
      exact ⟨I, fp', bs', S'.drop (r2.append_right H), fun _ h => h, K', r1, by simp, by simp⟩
    · rename_i ho
      have ho' : o = false := by simpa using ho
      subst ho'
      have := run_pure_some hr1
      simp only [Prod.mk.injEq] at this
      obtain ⟨⟨rfl, rfl⟩, rfl⟩ := this
      obtain ⟨ct', v0, c', h1, h2, h3, h4, h5, h6, pre, bx, post, h7, h8, _⟩ := S.at e3
      obtain ⟨bs', r1, r2⟩ := RelV.sub h8 (h6 _ hb.2) hle
      obtain rfl := shared_nil r1 rfl
      exact ⟨I, fp, [], by simpa using S, fun _ h => h, Keeps.refl, r1, fun _ => rfl, by simp⟩
  | rp => simp [takeB, run_fail] at hr
  | clo f caps =>
    obtain ⟨_, cs, rfl, hcs⟩ := hb
    simp only [takeB] at hr
    obtain ⟨vs, E1, e1, e2⟩ := run_bind_some hr
    obtain ⟨I', fp', S', hI', K', r'⟩ := freezeCaps_ok S hst hcs e1
    have := run_pure_some e2
    simp only [Prod.mk.injEq] at this
    obtain ⟨⟨rfl, rfl⟩, rfl⟩ := this
    exact ⟨I', fp', [], by simpa using S', hI', K', .fn f vs cs [] r', fun _ => rfl, by simp⟩

end

end Go.Lm

namespace Go.Lm

theorem isC_one (v : Value) : v.oneCell' = isC v := by cases v <;> rfl

theorem add_none (b off k : Nat) : (⟨b, off, none⟩ : Addr).add k = ⟨b, off + k, none⟩ := by
  unfold Addr.add; split
  · subst_vars; rfl
  · rfl

theorem cell_at {w : World} {b k : Nat} {cs : Array Value} {el : TypeId} {fr : Nat × Nat} (hh : w.heap[b]? = some (.cells cs el fr)) :
    w.cell? ⟨b, k, none⟩ = cs[k]? := by
  simp [World.cell?, hh]

/-- The streams and the tape are left alone. -/
structure Quiet (w w' : World) : Prop where
  os : w'.os = w.os
  tape : w'.tape = w.tape
  output : w'.output = w.output
theorem Quiet.refl (w : World) : Quiet w w := ⟨rfl, rfl, rfl⟩
theorem Quiet.trans {a b c : World} (h : Quiet a b) (k : Quiet b c) : Quiet a c := ⟨k.os.trans h.os, k.tape.trans h.tape, k.output.trans h.output⟩

mutual
theorem RelV.solid {h h' : Heap} {I I' : Nat → Prop} : ∀ {v : V} {c : Value} {bs : List Nat}, RelV h I v c bs → bs = [] → v.solid = true → RelV h' I' v c []
  | _, _, _, .any c, _, _ => .any c
  | _, _, _, .bool b, _, _ => .bool b
  | _, _, _, .int k n, _, _ => .int k n
  | _, _, _, .str s, _, _ => .str s
  | _, _, _, .slE sz a cap, _, _ => .slE sz a cap
  | _, _, _, .slZ o sz a, _, _ => .slZ o sz a
  | _, _, _, .sh sz es b off cap _ _ _ _ _ _ _ _ _ _, _, hs => by
    have : es = [] := by simpa [V.solid] using hs
    subst this; exact .slE _ _ _
  | _, _, _, .ow _ _ _ _ _ _ _ _ _ _ _ _ _ _ _ _, hb, _ => by simp at hb
  | _, _, _, .box _ _ _ _ _ _ _ _ _ _, hb, _ => by simp at hb
  | _, _, _, .cptr _ _ _ _ _ _ _ _ _ _ _ _ _, _, hs => by simp [V.solid] at hs
  | _, _, _, .agg vs cs bs hl, hb, hs => .agg vs cs [] (RelL.solid hl hb (by simpa [V.solid] using hs))
  | _, _, _, .tup vs cs bs hl, hb, hs => .tup vs cs [] (RelL.solid hl hb (by simpa [V.solid] using hs))
  | _, _, _, .fn f vs cs bs hl, hb, hs => .fn f vs cs [] (RelL.solid hl hb (by simpa [V.solid] using hs))
  | _, _, _, .nilP, _, _ => .nilP
  | _, _, _, .nilF, _, _ => .nilF
theorem RelL.solid {h h' : Heap} {I I' : Nat → Prop} : ∀ {vs : List V} {cs : List Value} {bs : List Nat}, RelL h I vs cs bs → bs = [] → V.solid.solidL vs = true → RelL h' I' vs cs []
  | _, _, _, .nil, _, _ => .nil
  | _, _, _, .cons v c b1 vs cs b2 h1 h2, hb, hs => by
    simp only [V.solid.solidL, Bool.and_eq_true] at hs
    have hb' := List.append_eq_nil_iff.1 hb
    exact .cons v c [] vs cs [] (RelV.solid h1 hb'.1 hs.1) (RelL.solid h2 hb'.2 hs.2)
end

theorem V.deep.cells {v : V} (h : v.deep = true) : V.deep.deepL v.cells = true := by
  cases v <;> simp_all [V.cells, V.deep, V.deep.deepL]
theorem V.deep.append {a b : List V} (ha : V.deep.deepL a = true) (hb : V.deep.deepL b = true) : V.deep.deepL (a ++ b) = true := by
  induction a with
  | nil => exact hb
  | cons v a ih => simp only [V.deep.deepL, Bool.and_eq_true, List.cons_append] at ha ⊢; exact ⟨ha.1, ih ha.2⟩
theorem V.deep.flat {es : List V} (h : V.deep.deepL es = true) : V.deep.deepL (es.flatMap V.cells) = true := by
  induction es with
  | nil => rfl
  | cons v a ih =>
    simp only [V.deep.deepL, Bool.and_eq_true, List.flatMap_cons] at h ⊢
    exact V.deep.append (V.deep.cells h.1) (ih h.2)

mutual
theorem RelV.deep {h : Heap} {I I' : Nat → Prop} : ∀ {v : V} {c : Value} {bs : List Nat}, RelV h I v c bs → v.deep = true → RelV h I' v c bs
  | _, _, _, .any c, _ => .any c
  | _, _, _, .bool b, _ => .bool b
  | _, _, _, .int k n, _ => .int k n
  | _, _, _, .str s, _ => .str s
  | _, _, _, .slE sz a cap, _ => .slE sz a cap
  | _, _, _, .slZ o sz a, _ => .slZ o sz a
  | _, _, _, .sh sz es b off cap _ _ _ _ _ _ _ _ _ _, hs => by
    have : es = [] := by simpa [V.deep] using hs
    subst this; exact .slE _ _ _
  | _, _, _, .ow sz es b off cap cs el fr bs hh hf hc hs hz hl hv, hd => by
    simp only [V.deep, Bool.true_and, Bool.or_eq_true] at hd
    refine .ow sz es b off cap cs el fr bs hh hf hc hs hz ?_ hv
    rcases hd with hd | hd
    · have : es = [] := by simpa using hd
      subst this
      simp only [List.flatMap_nil, List.length_nil, Nat.zero_mul, List.take_zero] at hl ⊢
      cases hl; exact .nil
    · exact RelL.deep hl (V.deep.flat hd)
  | _, _, _, .box x b cs el fr bs hh hf hl hv, hd => .box x b cs el fr bs hh hf (RelL.deep hl (V.deep.cells (by simpa [V.deep] using hd))) hv
  | _, _, _, .cptr _ _ _ _ _ _ _ _ _ _ _ _ _, hs => by simp [V.deep] at hs
  | _, _, _, .agg vs cs bs hl, hs => .agg vs cs bs (RelL.deep hl (by simpa [V.deep] using hs))
  | _, _, _, .tup vs cs bs hl, hs => .tup vs cs bs (RelL.deep hl (by simpa [V.deep] using hs))
  | _, _, _, .fn f vs cs bs hl, hs => .fn f vs cs bs (RelL.deep hl (by simpa [V.deep] using hs))
  | _, _, _, .nilP, _ => .nilP
  | _, _, _, .nilF, _ => .nilF
theorem RelL.deep {h : Heap} {I I' : Nat → Prop} : ∀ {vs : List V} {cs : List Value} {bs : List Nat}, RelL h I vs cs bs → V.deep.deepL vs = true → RelL h I' vs cs bs
  | _, _, _, .nil, _ => .nil
  | _, _, _, .cons v c b1 vs cs b2 h1 h2, hs => by
    simp only [V.deep.deepL, Bool.and_eq_true] at hs
    exact .cons v c b1 vs cs b2 (RelV.deep h1 hs.1) (RelL.deep h2 hs.2)
end

end Go.Lm

namespace Go.Lm

def putTm (tm : Array Value) (dst : Option Tmp) (c : Value) : Array Value :=
  match dst with
  | some d => tm.setIfInBounds d c
  | none => tm

theorem put_putTm (a : Act) (dst : Option Tmp) (c : Value) : a.put dst c = ⟨putTm a.tmps dst c, a.defers⟩ := by
  cases dst <;> rfl

abbrev more (U : Nat → Prop) (st : Nat) : Nat → Prop := fun x => U x ∨ x = st

section
variable {P : Program} {g : Gh} {n : Nat} {E : Env} {U : Nat → Prop} {tm : Array Value} {h : Heap} {I : Nat → Prop} {fp : Nat → List Nat} {H : List Nat}

/-- The state behind a write of the operation's own slot. -/
def Post (g : Gh) (n : Nat) (E' : Env) (U' : Nat → Prop) (tm' : Array Value) (h' : Heap) : Prop := ∃ I' fp', SH g n E' U' tm' h' I' fp' []

theorem SH.widen (S : SH g n E U tm h I fp H) {U' : Nat → Prop} (hU : ∀ x, U x → U' x) : SH g n E U' tm h I fp H :=
  { S with stamp := fun s hs => Bd.stamps_mono hU (S.stamp s hs) }

theorem fin_ref {bs : List Nat} {st0 : Nat} (S : SH g n E U tm h I fp bs) {dst : Option Tmp} (hd : ∀ d, dst = some d → d < n) {b : Bd} {c : Value} {E' : Env} {u : Unit}
    (hr : (putD dst b).run E = some (u, E')) (hs : b.stamps U) (hn : b.noOwn) (hb : RelB E h tm I [] b c) : Post g n E' (more U st0) (putTm tm dst c) h := by
  cases dst with
  | none =>
    have := run_pure_some hr
    simp only [Prod.mk.injEq] at this
    obtain ⟨_, rfl⟩ := this
    exact ⟨I, fp, (S.drop (List.nil_sublist _)).widen fun _ h => .inl h⟩
  | some d =>
    simp only [putD, run_setS, Option.some.injEq, Prod.mk.injEq] at hr
    obtain ⟨_, rfl⟩ := hr
    exact ⟨I, _, ((S.drop (List.nil_sublist _)).put (bs := []) (H := []) (hd d rfl) (fun _ h => h) hs (fun st ct v e => absurd e (hn st ct v)) (.inr hs) hb).widen fun _ h => .inl h⟩

theorem fin_val {bs : List Nat} {st0 : Nat} (S : SH g n E U tm h I fp bs) {dst : Option Tmp} (hd : ∀ d, dst = some d → d < n) {v : V} {c : Value} {E' : Env} {u : Unit}
    (hr : (putD dst (.val v)).run E = some (u, E')) (hb : RelV h I v c []) : Post g n E' (more U st0) (putTm tm dst c) h :=
  fin_ref S hd hr trivial (by intro; simp) ⟨rfl, hb⟩

theorem fin_own {bs : List Nat} {st0 : Nat} (hst : ¬ U st0) (S : SH g n E U tm h I fp (bs ++ [])) {dst : Option Tmp} (hd : ∀ d, dst = some d → d < n) {v : V} {c : Value} {E' : Env} {u : Unit}
    (hr : (putD dst (.own st0 st0 v)).run E = some (u, E')) (hb : RelV h I v c bs) : Post g n E' (more U st0) (putTm tm dst c) h := by
  cases dst with
  | none =>
    have := run_pure_some hr
    simp only [Prod.mk.injEq] at this
    obtain ⟨_, rfl⟩ := this
    exact ⟨I, fp, (S.drop (List.nil_sublist _)).widen fun _ h => .inl h⟩
  | some d =>
    simp only [putD, run_setS, Option.some.injEq, Prod.mk.injEq] at hr
    obtain ⟨_, rfl⟩ := hr
    exact ⟨I, _, S.put (U' := more U st0) (hd d rfl) (fun _ h => .inl h) ⟨.inr rfl, .inr rfl⟩ (fun st ct v e => by simp only [Bd.own.injEq] at e; rw [← e.1]; exact hst)
      (.inl ⟨_, _, _, rfl⟩) hb⟩

theorem fin_mk {bs : List Nat} {st0 : Nat} {ow : Bool} (hst : ¬ U st0) (S : SH g n E U tm h I fp (bs ++ [])) {dst : Option Tmp} (hd : ∀ d, dst = some d → d < n) {v : V} {c : Value} {E' : Env} {u : Unit}
    (hr : (putD dst (mk ow st0 v)).run E = some (u, E')) (hb : RelV h I v c bs) (hw : ow = false → bs = []) : Post g n E' (more U st0) (putTm tm dst c) h := by
  cases ow with
  | true => exact fin_own hst S hd hr hb
  | false =>
    obtain rfl := hw rfl
    exact fin_val S hd hr hb

/-! What Go's own words for types and cells come to. -/

theorem sizeOf_run {t : TypeId} {k : Nat} (e : sizeT P t = some k) (w : World) : (sizeOf t).run P w = .ok k w := by
  unfold sizeT at e
  rw [Option.map_eq_some_iff] at e
  obtain ⟨i, hi, rfl⟩ := e
  simp [sizeOf, typeInfo, hi]

theorem isAgg_run {t : TypeId} {b : Bool} (e : aggT P t = some b) (w : World) : (Go.isAgg t).run P w = .ok b w := by
  unfold aggT at e
  split at e
  · simp at e
  all_goals
    rename_i hu
    simp only [Option.some.injEq] at e
    subst e
    simp [Go.isAgg, underlying, hu]

theorem loadCells_run {w : World} {b off : Nat} {cs : Array Value} {el : TypeId} {fr : Nat × Nat} (hh : w.heap[b]? = some (.cells cs el fr)) (k : Nat)
    (hk : off + k ≤ cs.size) : (loadCells ⟨b, off, none⟩ k).run P w = .ok ((cs.toList.drop off).take k).toArray w := by
  have hl : ((cs.toList.drop off).take k).length = k := by simp; omega
  have := run_loadCells_list (P := P) w ⟨b, off, none⟩ ((cs.toList.drop off).take k) (fun j v hj => by
    rw [add_none, cell_at hh]
    have hjl : j < k := by rw [← hl]; exact (List.getElem?_eq_some_iff.1 hj).1
    rw [List.getElem?_take_of_lt hjl, List.getElem?_drop] at hj
    simpa using hj)
  rw [hl] at this; exact this

theorem load_run {w : World} {b off : Nat} {cs : Array Value} {el : TypeId} {fr : Nat × Nat} (hh : w.heap[b]? = some (.cells cs el fr)) {v : Value}
    (hv : cs[off]? = some v) : (load ⟨b, off, none⟩).run P w = .ok v w := by
  simp [cell_at hh, hv]

/-- Cells are written into one block. -/
theorem storeCells_run {b : Nat} {el : TypeId} {fr : Nat × Nat} : ∀ (vs : List Value) (off i : Nat) (w : World) (cs : Array Value), w.heap[b]? = some (.cells cs el fr) →
    (∀ k, k < cs.size → (fr.1 ≤ k && k < fr.2) = false) → off + i + vs.length ≤ cs.size → (∀ v ∈ vs, isC v = true) →
    ∃ w' cs', (storeCells ⟨b, off, none⟩ vs i).run P w = .ok () w' ∧ Quiet w w' ∧ w'.heap.size = w.heap.size ∧ (∀ r, r ≠ b → w'.heap[r]? = w.heap[r]?) ∧
      w'.heap[b]? = some (.cells cs' el fr) ∧ cs'.toList = cs.toList.take (off + i) ++ vs ++ cs.toList.drop (off + i + vs.length) := by
  intro vs
  induction vs with
  | nil =>
    intro off i w cs hh hf hs hv
    exact ⟨w, cs, rfl, .refl w, rfl, fun _ _ => rfl, hh, by simp⟩
  | cons v vs ih =>
    intro off i w cs hh hf hs hv
    simp only [List.length_cons] at hs
    have hlt : off + i < cs.size := by omega
    have hc : w.cell? ⟨b, off + i, none⟩ = some cs[off + i] := by rw [cell_at hh]; simp [hlt]
    have hfz : w.frozen? ⟨b, off + i, none⟩ = false := by simp only [World.frozen?, hh]; exact hf _ hlt
    have hst : (store ((⟨b, off, none⟩ : Addr).add i) v).run P w = .ok () (w.setCell ⟨b, off + i, none⟩ v) := by
      rw [add_none, run_store P w _ v _ (by rw [isC_one]; exact hv v (by simp)), hc]
      simp [hfz]
    have hh1 : (w.setCell ⟨b, off + i, none⟩ v).heap[b]? = some (.cells (cs.setIfInBounds (off + i) v) el fr) := by
      simp [World.setCell, Array.getElem?_modify, hh]
    obtain ⟨w', cs', e1, e2, e3, e4, e5, e6⟩ := ih off (i + 1) (w.setCell ⟨b, off + i, none⟩ v) (cs.setIfInBounds (off + i) v) hh1 (by simpa using hf) (by simp; omega) (fun x hx => hv x (by simp [hx]))
    have hq : Quiet w (w.setCell ⟨b, off + i, none⟩ v) := ⟨rfl, rfl, rfl⟩
    refine ⟨w', cs', ?_, hq.trans e2, by rw [e3]; simp [World.setCell], ?_, e5, ?_⟩
    · simp only [storeCells, Sem.run_bind, hst, Result.andThen_ok, e1]
    · intro r hr
      rw [e4 r hr]
      simp [World.setCell, Array.getElem?_modify, Ne.symm hr]
    · rw [e6, Array.toList_setIfInBounds]
      have h1 : off + (i + 1) = off + i + 1 := by omega
      have hle : off + i < cs.toList.length := by simpa using hlt
      rw [h1, List.take_set, List.drop_set, if_pos (by omega)]
      have h2 : (cs.toList.take (off + i + 1)).set (off + i) v = cs.toList.take (off + i) ++ [v] := by
        rw [List.take_succ_eq_append_getElem hle, List.set_append_right _ _ (by simp; omega)]
        simp [Nat.min_eq_left (Nat.le_of_lt hlt)]
      rw [h2]
      simp [show off + i + 1 + vs.length = off + i + (vs.length + 1) from by omega]

/-! Pointers. -/

def PtrOk (E : Env) (U : Nat → Prop) (h : Heap) (tm : Array Value) (I : Nat → Prop) : Ptr → Value → Prop
  | .c x j, c => RelV h I (.cptr x j) c []
  | .r s st ct p i j, c => U st ∧ U ct ∧ Valid E h tm s st ct p (ptrOf i j c)

theorem asPtr_ok (S : SH g n E U tm h I fp H) {b : Bd} {c : Value} (hs : b.stamps U) (hb : RelB E h tm I [] b c) {q : Ptr} {E' : Env}
    (hr : (asPtr b).run E = some (q, E')) : E = E' ∧ PtrOk E U h tm I q c := by
  unfold asPtr at hr
  split at hr
  · have := run_pure_some hr
    simp only [Prod.mk.injEq] at this
    obtain ⟨rfl, rfl⟩ := this
    exact ⟨rfl, hb.2⟩
  · have := run_pure_some hr
    simp only [Prod.mk.injEq] at this
    obtain ⟨rfl, rfl⟩ := this
    exact ⟨rfl, hs.1, hs.2, hb.2⟩
  · rename_i s st ct p
    obtain ⟨x, E1, e1, e2⟩ := run_bind_some hr
    obtain ⟨e3, rfl⟩ := run_rdAt_some e1
    obtain ⟨ct', v0, c', h1, h2, h3, h4, h5, h6, pre, bx, post, h7, h8, _⟩ := S.at e3
    have hcc : c = c' := h6 (fun _ cn => c = cn) hb.2
    subst hcc
    split at e2
    · have := run_pure_some e2
      simp only [Prod.mk.injEq] at this
      obtain ⟨rfl, rfl⟩ := this
      refine ⟨rfl, hs.1, hs.2, ?_⟩
      intro ct1 v1 x1 cn g1 g2 g3 g4 g5
      have hcn : c = cn := hb.2 ct1 v1 x1 cn g1 g2 g3 g4 g5
      subst hcn
      cases h8 with
      | box y b cs el fr bs hh hf hl hv => exact ⟨b, 0, .inr rfl, by simp⟩
    · have := run_pure_some e2
      simp only [Prod.mk.injEq] at this
      obtain ⟨rfl, rfl⟩ := this
      refine ⟨rfl, ?_⟩
      obtain rfl := shared_nil h8 rfl
      exact h8
    · simp [run_fail] at e2
  · simp [run_fail] at hr

theorem base_inj {c : Value} {b off b' off' : Nat} (h1 : baseOf c b off) (h2 : (∃ len cap, c = .slice (some ⟨b', off', none⟩) len cap) ∨ c = .pointer (some ⟨b', off', none⟩)) :
    b' = b ∧ off' = off := by
  rcases h1 with ⟨_, _, rfl⟩ | rfl <;> rcases h2 with ⟨_, _, h2⟩ | h2 <;> simp_all

theorem RelL.take {h : Heap} {I : Nat → Prop} {vs : List V} {cs : List Value} {bs : List Nat} (hr : RelL h I vs cs bs) (j k : Nat) :
    ∃ pre bm post, bs = pre ++ bm ++ post ∧ RelL h I ((vs.drop j).take k) ((cs.drop j).take k) bm ∧
      RelL h I (vs.take j) (cs.take j) pre ∧ RelL h I (vs.drop (j + k)) (cs.drop (j + k)) post := by
  have e1 := list_three vs j k
  rw [List.append_assoc] at e1
  rw [e1] at hr
  obtain ⟨c1, c23, b1, b23, rfl, rfl, r1, r23⟩ := RelL.split hr
  obtain ⟨c2, c3, b2, b3, rfl, rfl, r2, r3⟩ := RelL.split r23
  have l1 := r1.length
  have l2 := r2.length
  have l3 := r3.length
  have a1 : (c1 ++ (c2 ++ c3)).take j = c1 := by
    rw [List.take_append]
    simp only [List.length_take, List.length_drop] at l1 l2 l3
    by_cases hj : j ≤ vs.length
    · rw [List.take_of_length_le (by omega), show j - c1.length = 0 from by omega]; simp
    · have : c2 = [] := List.eq_nil_of_length_eq_zero (by omega)
      have h3 : c3 = [] := List.eq_nil_of_length_eq_zero (by omega)
      subst this h3; rw [List.append_nil, List.take_nil, List.append_nil]; exact List.take_of_length_le (by omega)
  have a2 : ((c1 ++ (c2 ++ c3)).drop j).take k = c2 := by
    simp only [List.length_take, List.length_drop] at l1 l2 l3
    by_cases hj : j ≤ vs.length
    · rw [List.drop_append, List.drop_of_length_le (by omega), show j - c1.length = 0 from by omega, List.drop_zero, List.nil_append, List.take_append]
      by_cases hk : k ≤ vs.length - j
      · rw [List.take_of_length_le (by omega), show k - c2.length = 0 from by omega]; simp
      · have h3 : c3 = [] := List.eq_nil_of_length_eq_zero (by omega)
        subst h3; rw [List.take_nil, List.append_nil]; exact List.take_of_length_le (by omega)
    · have : c2 = [] := List.eq_nil_of_length_eq_zero (by omega)
      have h3 : c3 = [] := List.eq_nil_of_length_eq_zero (by omega)
      subst this h3; rw [List.append_nil, List.append_nil, List.drop_of_length_le (by omega)]; simp
  have a3 : (c1 ++ (c2 ++ c3)).drop (j + k) = c3 := by
    simp only [List.length_take, List.length_drop] at l1 l2 l3
    by_cases hj : j + k ≤ vs.length
    · rw [← List.append_assoc, List.drop_append, List.drop_of_length_le (by simp; omega)]
      simp only [List.length_append, List.nil_append]
      rw [show j + k - (c1.length + c2.length) = 0 from by omega]; simp
    · have h3 : c3 = [] := List.eq_nil_of_length_eq_zero (by omega)
      subst h3; rw [List.append_nil, List.drop_of_length_le (by rw [List.length_append]; omega)]
  refine ⟨b1, b2, b3, by simp, ?_, ?_, ?_⟩
  · rw [a2]; exact r2
  · rw [a1]; exact r1
  · rw [a3]; exact r3

end

end Go.Lm

namespace Go.Lm

section
variable {C : Ctx} {g : Gh} {n : Nat} {E : Env} {U : Nat → Prop} {tm : Array Value} {w : World} {I : Nat → Prop} {fp : Nat → List Nat} {H : List Nat}

/-- What an operation that is no call comes to. -/
def Res (P : Program) (o : Oper) (tm : Array Value) (w : World) (K : Array Value → World → Prop) : Prop :=
  ∃ w', (∃ v, (execOp (evc tm) o).run P w = .ok (.value v) w' ∧ K (putTm tm o.dst v) w') ∨
    ((execOp (evc tm) o).run P w = .ok .skip w' ∧ K (putTm tm o.dst undef) w')

def Goal (g : Gh) (n : Nat) (E' : Env) (U' : Nat → Prop) (w : World) (tm' : Array Value) (w' : World) : Prop := Quiet w w' ∧ Post g n E' U' tm' w'.heap

theorem Res.value {P : Program} {o : Oper} {K : Array Value → World → Prop} {v : Value} {w' : World} (h : (execOp (evc tm) o).run P w = .ok (.value v) w') (k : K (putTm tm o.dst v) w') :
    Res P o tm w K := ⟨w', .inl ⟨v, h, k⟩⟩

theorem ite_fail {α : Type} {c : Prop} [Decidable c] {x : Prg α} {E : Env} {r : α × Env} (h : (if c then x else .fail).run E = some r) : c ∧ x.run E = some r := by
  split at h
  · exact ⟨by assumption, h⟩
  · simp [run_fail] at h

theorem isAgg_cells {v : V} (h : v.isAgg = false) : v.cells.length = 1 := by rw [V.cells_one h]; rfl

/-- A cell inside an element. -/
theorem RelL.cell {h : Heap} {I : Nat → Prop} {vs : List V} {cs : List Value} {bs : List Nat} {j : Nat} {x : V} (hr : RelL h I vs cs bs) (hx : vs[j]? = some x) :
    ∃ c pre bx post, cs[j]? = some c ∧ bs = pre ++ bx ++ post ∧ RelV h I x c bx := by
  obtain ⟨c, pre, bx, post, h1, h2, h3, _⟩ := RelL.at hr hx
  exact ⟨c, pre, bx, post, h1, h2, h3⟩

theorem run_load_op {P : Program} {o : Oper} {t : TypeId} {a : Operand} {b off k : Nat} {cs : Array Value} {el : TypeId} {fr : Nat × Nat} (ho : o.op = .load t a)
    (ha : evc tm a = .pointer (some ⟨b, off, none⟩)) (hh : w.heap[b]? = some (.cells cs el fr)) {ag : Bool} (hk : sizeT P t = some k) (hag : aggT P t = some ag) :
    (ag = true → off + k ≤ cs.size → (execOp (evc tm) o).run P w = .ok (.value (.agg ((cs.toList.drop off).take k).toArray)) w) ∧
    (ag = false → ∀ v, cs[off]? = some v → (execOp (evc tm) o).run P w = .ok (.value v) w) := by
  constructor
  · intro h1 h2
    subst h1
    simp only [execOp, ho, Instr.loadAt, ha, Instr.sureAddr, loadVar, Sem.run_bind, Sem.run_pure, Result.andThen_ok, isAgg_run hag, if_true, sizeOf_run hk, loadCells_run hh k h2]
  · intro h1 v hv
    subst h1
    simp only [execOp, ho, Instr.loadAt, ha, Instr.sureAddr, loadVar, Sem.run_bind, Sem.run_pure, Result.andThen_ok, isAgg_run hag, Bool.false_eq_true, if_false, load_run hh hv]

theorem setElem_nsz {v e v' : V} {i : Nat} (h : v.setElem i e = some v') : v'.nsz = v.nsz ∧ v'.isAgg = v.isAgg := by
  unfold V.setElem at h
  split at h
  · simp only [Option.some.injEq] at h; subst h; exact ⟨rfl, rfl⟩
  · simp only [Option.some.injEq] at h; subst h; exact ⟨rfl, rfl⟩
  · simp at h

theorem elem_noAgg {v e : V} {i : Nat} (h : v.elem i = some e) : v.isAgg = false := by
  cases v <;> simp_all [V.elem, V.isAgg]

/-- An element of a node is changed, in memory or in what is known of it. -/
theorem SH.elemEdit {bsx : List Nat} {h : Heap} (S : SH g n E U tm h I fp (bsx ++ H)) {st0 : Nat} (hst : ¬ U st0) {s st ct i : Nat} {p : Path} {nd e : V}
    (hnd : (E s).at st ct p = some nd) (he : nd.elem i = some e) {e' nd' v0 v' : V} {ct0 : Nat} (hv0 : E s = .own st ct0 v0)
    (hnd' : nd.setElem i e' = some nd') (hv' : v0.put p nd' = some v') (hlen : e'.cells.length = e.cells.length) :
    ∃ b off cs el fr be, (∀ Q, Valid E h tm s st ct p Q → ∃ cn, Q nd.nsz cn ∧ baseOf cn b off) ∧ h[b]? = some (.cells cs el fr) ∧ off + i * nd.nsz + e.cells.length ≤ cs.size ∧
      RelL h I e.cells ((cs.toList.drop (off + i * nd.nsz)).take e.cells.length) be ∧ (∀ x ∈ (cs.toList.drop (off + i * nd.nsz)).take e.cells.length, isC x = true) ∧
      (∀ k, k < cs.size → (fr.1 ≤ k && k < fr.2) = false) ∧ be.Nodup ∧ (∀ r ∈ be, ¬ I r ∧ r ≠ b ∧ r ∈ fp s) ∧ ¬ I b ∧ b ∈ fp s ∧
      ∀ (h' : Heap) (I' : Nat → Prop) (be' : List Nat) (m : List Value) (cs' : Array Value), (∀ r, I r → I' r) → (∀ r, I' r → I r ∨ r ∈ be ∨ r ∈ bsx) →
        (∀ r, r ≠ b → h'[r]? = h[r]?) → h'.size = h.size →
        cs'.toList = cs.toList.take (off + i * nd.nsz) ++ m ++ cs.toList.drop (off + i * nd.nsz + m.length) →
        h'[b]? = some (.cells cs' el fr) → m.length = e.cells.length → (∀ x ∈ m, isC x = true) → RelL h' I' e'.cells m be' →
        be'.Nodup → (∀ r ∈ be', r ∈ be ∨ r ∈ bsx) → (∀ r ∈ be', ¬ I' r) →
        ∃ fp', SH g n (upd E s (.own st st0 v')) (more U st0) tm h' I' fp' H := by
  obtain ⟨ct', v1, c', h1, h2, h3, h4, h5, h6, pre, bx, post, h7, h8, h9⟩ := S.at hnd
  rw [hv0] at h1
  simp only [Bd.own.injEq, true_and] at h1
  obtain ⟨rfl, rfl⟩ := h1
  obtain ⟨b, off, cs, el, fr, pre2, be, post2, g1, g2, g3, g4, g5, g6, g7, g10, g8, g9⟩ := RelV.elem h8 he
  obtain ⟨⟨pre2', rfl⟩, hfr⟩ := g10 _ _ hnd'
  have hnodup : (pre ++ bx ++ post).Nodup := by rw [← h7]; exact S.nodup s
  have hmem : ∀ r, r ∈ bx → r ∈ fp s := fun r hr => by rw [h7]; simp [hr]
  have hb : b ∈ fp s := hmem b (by rw [g4]; simp)
  have hnI : ¬ I b := S.notI s b hb
  subst g4
  have hperm0 : (pre ++ (b :: pre2' ++ be ++ post2) ++ post).Perm (b :: (be ++ (pre ++ pre2' ++ post2 ++ post))) := by
    simp only [List.append_assoc, List.cons_append]
    refine (List.perm_middle).trans (List.Perm.cons b ?_)
    rw [← List.append_assoc pre pre2', ← List.append_assoc (pre ++ pre2') be, ← List.append_assoc be]
    refine List.Perm.trans ?_ (List.Perm.of_eq (List.append_assoc _ _ _))
    have := List.Perm.append_right (post2 ++ post) (List.perm_append_comm (l₁ := pre ++ pre2') (l₂ := be))
    simpa [List.append_assoc] using this
  have hnd1 := hperm0.nodup hnodup
  rw [List.nodup_cons, List.nodup_append] at hnd1
  obtain ⟨hb1, hbe, hrest, hdis⟩ := hnd1
  refine ⟨b, off, cs, el, fr, be, fun Q hQ => ⟨c', h6 Q hQ, g1⟩, g2, g3, g5, g6, hfr, hbe, ?_, hnI, hb, ?_⟩
  · intro r hr
    have hm := hmem r (by simp [hr])
    exact ⟨S.notI s r hm, fun e => hb1 (by rw [← e]; simp [hr]), hm⟩
  · intro h' I' be' m cs' hI hI' hk hsz hcs hh' hm hmc hrl hbn hbsub hbI
    have hpI : ∀ r, r ∈ pre ++ pre2' ++ post2 ++ post → r ≠ b := fun r hr e => hb1 (by rw [← e]; simp only [List.mem_append] at hr ⊢; exact .inr (by simpa using hr))
    have hrel2 : RelV h' I' nd' c' (b :: pre2' ++ be' ++ post2) := by
      refine g9 h' I' e' be' m cs' hI (fun r _ hne => hk r hne) ?_ hnI hcs hh' hm hlen hmc hrl nd' hnd'
      intro r hr
      simp only [List.tail_cons, List.mem_append] at hr
      exact hpI r (by simp only [List.mem_append]; rcases hr with hr | hr <;> simp [hr])
    have hrel3 : RelV h' I' v' (tmf tm s) (pre ++ (b :: pre2' ++ be' ++ post2) ++ post) := by
      refine h9 h' I' nd' _ ?_ hI (fun _ => by rw [(setElem_nsz hnd').2]; exact elem_noAgg he) hrel2 v' hv'
      intro r hr
      rcases hr with hr | hr | hr
      · exact hk r fun e => hnI (e ▸ hr)
      · exact hk r (hpI r (by simp [hr]))
      · exact hk r (hpI r (by simp [hr]))
    have hrestI : ∀ r, r ∈ b :: (pre ++ pre2' ++ post2 ++ post) → r ∈ fp s ∧ r ∉ be ∧ r ∉ bsx := by
      intro r hr
      have hf : r ∈ fp s := by rw [h7]; simp only [List.mem_cons, List.mem_append] at hr ⊢; rcases hr with rfl | ((hr | hr) | hr) | hr <;> simp_all
      refine ⟨hf, ?_, fun hx => S.hdisj r (by simp [hx]) s hf⟩
      intro hx
      rcases List.mem_cons.1 hr with rfl | hr
      · exact hb1 (by simp [hx])
      · exact hdis r hx r hr rfl
    have hpermN : (pre ++ (b :: pre2' ++ be' ++ post2) ++ post).Perm (be' ++ (b :: (pre ++ pre2' ++ post2 ++ post))) := by
      have e1 : (pre ++ (b :: pre2' ++ be' ++ post2) ++ post).Perm (b :: (be' ++ (pre ++ pre2' ++ post2 ++ post))) := by
        simp only [List.append_assoc, List.cons_append]
        refine (List.perm_middle).trans (List.Perm.cons b ?_)
        rw [← List.append_assoc pre pre2', ← List.append_assoc (pre ++ pre2') be', ← List.append_assoc be']
        refine List.Perm.trans ?_ (List.Perm.of_eq (List.append_assoc _ _ _))
        have := List.Perm.append_right (post2 ++ post) (List.perm_append_comm (l₁ := pre ++ pre2') (l₂ := be'))
        simpa [List.append_assoc] using this
      exact e1.trans List.perm_middle.symm
    have hmemN : ∀ r, r ∈ pre ++ (b :: pre2' ++ be' ++ post2) ++ post → r ∈ be' ∨ r ∈ b :: (pre ++ pre2' ++ post2 ++ post) :=
      fun r hr => List.mem_append.1 (hpermN.mem_iff.1 hr)
    refine ⟨_, SH.edit (hs := []) (fs := pre ++ (b :: pre2' ++ be' ++ post2) ++ post) S hv0 (fun _ h => .inl h) (.inr rfl) hI ?_ ?_ hsz hrel3 ?_ ?_ ?_ ?_⟩
    · intro r hr
      rcases hI' r hr with h | h | h
      · exact .inl h
      · exact .inr (.inl (hmem r (by simp [h])))
      · exact .inr (.inr h)
    · intro r hr; exact hk r fun e => hr (e ▸ hb)
    · intro r hr
      simp only [List.not_mem_nil, or_false] at hr
      rcases hmemN r hr with h | h
      · rcases hbsub r h with h | h
        · exact .inl (hmem r (by simp [h]))
        · exact .inr h
      · exact .inl (hrestI r h).1
    · rw [List.append_nil]
      refine hpermN.symm.nodup ?_
      rw [List.nodup_append]
      refine ⟨hbn, List.nodup_cons.2 ⟨fun hx => hpI b hx rfl, hrest⟩, ?_⟩
      intro a ha c hc e
      subst e
      have := hrestI a hc
      rcases hbsub a ha with h | h
      · exact this.2.1 h
      · exact this.2.2 h
    · intro r hr hx
      simp only [List.not_mem_nil, or_false] at hr
      rcases hmemN r hr with h | h
      · exact hbI r h hx
      · have := hrestI r h
        rcases hI' r hx with h' | h' | h'
        · exact S.notI s r this.1 h'
        · exact this.2.1 h'
        · exact this.2.2 h'
    · intro ctr p0 Q hctr hv ct1 v1 x cn k1 k2 k3 k4 k5
      simp only [upd, if_true, Bd.own.injEq, true_and] at k1
      obtain ⟨rfl, rfl⟩ := k1
      have hp0 : p0 = [] := by
        rcases k2 with k2 | k2
        · exact k2
        · subst k2; exact absurd hctr hst
      subst hp0
      simp only [V.get, Option.some.injEq] at k3
      subst k3
      have hns : v'.nsz = v0.nsz := by
        by_cases hp : p = []
        · subst hp
          simp only [V.put, Option.some.injEq] at hv'
          simp only [V.get, Option.some.injEq] at h3
          subst hv' h3
          exact (setElem_nsz hnd').1
        · exact put_nsz hp hv'
      rw [hns]
      exact hv ct0 v0 v0 cn hv0 (.inl rfl) rfl (.inl rfl) (by simpa [walkC] using k5)

theorem freeze_isAgg (v : V) : v.freeze.isAgg = v.isAgg := by cases v <;> rfl

theorem setCells_one {e : V} (h : e.isAgg = false) (j : Nat) (xs : List V) : e.setCells j xs = match j, xs with | 0, [x] => x | _, _ => e := by
  cases e <;> first | rfl | simp [V.isAgg] at h

theorem setCells_cells {e : V} {j : Nat} {xs : List V} (hj : j + xs.length ≤ e.cells.length) (hx : e.isAgg = true ∨ ∀ x ∈ xs, x.isAgg = false) :
    (e.setCells j xs).cells = e.cells.take j ++ xs ++ e.cells.drop (j + xs.length) := by
  cases hea : e.isAgg with
  | true =>
    cases e <;> simp_all [V.isAgg, V.setCells, V.cells]
  | false =>
    have hone := V.cells_one hea
    rw [hone] at hj ⊢
    simp only [List.length_singleton] at hj
    have hxs : ∀ x ∈ xs, x.isAgg = false := hx.resolve_left (by simp [hea])
    rw [setCells_one hea]
    match j, xs with
    | 0, [] => simp [hone]
    | 0, [x] => simp [V.cells_one (hxs x (by simp))]
    | 0, x :: y :: r => simp at hj
    | 1, [] => simp [hone]
    | 1, x :: r => simp at hj; omega
    | k + 2, r => omega

theorem get_append : ∀ {p q : Path} {v : V}, v.get (p ++ q) = (v.get p).bind fun x => x.get q
  | [], q, v => by simp [V.get]
  | (i, j) :: p, q, v => by
    simp only [List.cons_append, V.get]
    cases v.child i j with
    | none => simp
    | some x => simp only [Option.bind_some]; exact get_append

theorem walkC_append {h : Heap} : ∀ {p q : Path} {v : V} {c : Value}, walkC h v c (p ++ q) = (walkC h v c p).bind fun c' => (v.get p).bind fun x => walkC h x c' q
  | [], q, v, c => by simp [walkC, V.get]
  | (i, j) :: p, q, v, c => by
    simp only [List.cons_append, walkC, V.get]
    cases childC h v c i j with
    | none => simp
    | some c1 =>
      simp only [Option.bind_some]
      cases v.child i j with
      | none => simp
      | some x => simp only [Option.bind_some]; exact walkC_append

theorem childC_elem {h : Heap} {v : V} {c : Value} {i j : Nat} {e : V} {b off : Nat} (hb : baseOf c b off) (he : v.elem i = some e) (hc : ∃ x, childC h v c i j = some x) :
    childC h v c i j = cellAt h b (off + (i * v.nsz + j)) := by
  rcases hb with ⟨len, cap, rfl⟩ | rfl <;> cases v <;> simp_all [V.elem, childC, V.nsz]

theorem load_ok (S : SH g n E U tm w.heap I fp []) {st0 : Nat} (hst : ¬ U st0) {o : Oper} {t : TypeId} {a : Operand} (ho : o.op = .load t a) (hd : ∀ d, o.dst = some d → d < n) {E' : Env} {u : Unit}
    {ba : Bd} {ta : TypeId} (hba : (ev C.P a ta).run E = some (ba, E)) (hr : (loadP C.P st0 o.dst t ba).run E = some (u, E')) :
    Res C.P o tm w (Goal g n E' (more U st0) w) := by
  obtain ⟨_, rb, sb, nb⟩ := ev_ok S hba
  unfold loadP at hr
  obtain ⟨k, E1, e1, hr1⟩ := run_bind_some hr
  obtain ⟨hk, rfl⟩ := run_opt_some' e1
  obtain ⟨ag, E2, e2, hr2⟩ := run_bind_some hr1
  obtain ⟨hag, rfl⟩ := run_opt_some' e2
  obtain ⟨q, E3, e3, hr3⟩ := run_bind_some hr2
  obtain ⟨rfl, hq⟩ := asPtr_ok S sb rb e3
  simp only at hk hag hr3
  cases q with
  | c x j =>
    have hq' : RelV w.heap I (.cptr x j) (evc tm a) [] := hq
    generalize hc : evc tm a = c at hq'
    cases hq' with
    | cptr x j b off cs el fr hb hh hs hj hl hv =>
    obtain ⟨r1, r2⟩ := run_load_op (P := C.P) ho hc hh hk hag
    simp only at hr3
    split at hr3
    · rename_i hagt
      obtain ⟨u1, E4, e4, hr4⟩ := run_bind_some hr3
      obtain ⟨hle, rfl⟩ := run_need_some e4
      simp only [decide_eq_true_eq] at hle
      obtain ⟨pre, bm, post, hbs, rm, _, _⟩ := RelL.take hl j k
      obtain ⟨rfl, rfl, rfl⟩ : pre = [] ∧ bm = [] ∧ post = [] := by simpa using hbs.symm
      have hwin : ((cs.toList.drop off).take x.cells.length |>.drop j |>.take k) = (cs.toList.drop (off + j)).take k := by
        rw [List.drop_take, List.drop_drop, List.take_take, Nat.min_eq_left (by omega)]
      rw [hwin] at rm
      exact .value (r1 hagt (by omega)) ⟨.refl w, fin_val S hd hr4 (.agg _ _ [] rm)⟩
    · rename_i hagf
      obtain ⟨y, E4, e4, hr4⟩ := run_bind_some hr3
      obtain ⟨hy, rfl⟩ := run_opt_some' e4
      simp only at hy
      obtain ⟨c', pre, bx, post, h1, h2, h3⟩ := RelL.cell hl hy
      obtain ⟨rfl, rfl, rfl⟩ : pre = [] ∧ bx = [] ∧ post = [] := by simpa using h2.symm
      have hjl : j < x.cells.length := (List.getElem?_eq_some_iff.1 hy).1
      rw [List.getElem?_take_of_lt hjl, List.getElem?_drop] at h1
      exact .value (r2 (by simpa using hagf) c' (by simpa using h1)) ⟨.refl w, fin_val S hd hr4 h3⟩
  | r s st ct p i j =>
    obtain ⟨us, uc, hval⟩ : U st ∧ U ct ∧ Valid E w.heap tm s st ct p (ptrOf i j (evc tm a)) := hq
    simp only at hr3
    obtain ⟨nd, E4, e4, hr4⟩ := run_bind_some hr3
    obtain ⟨hnd, rfl⟩ := run_rdAt_some e4
    obtain ⟨e, E5, e5, hr5⟩ := run_bind_some hr4
    obtain ⟨he, rfl⟩ := run_opt_some' e5
    simp only at hnd he hr5
    obtain ⟨ct', v0, c', h1, h2, h3, h4, h5, h6, pre, bx, post, h7, h8, h9⟩ := S.at hnd
    obtain ⟨b2, off2, hbase, hca⟩ := h6 _ hval
    obtain ⟨b, off, cs, el, fr, pre2, be, post2, g1, g2, g3, g4, g5, g6, _, _, _, _⟩ := RelV.elem h8 he
    obtain ⟨rfl, rfl⟩ := base_inj g1 hbase
    obtain ⟨r1, r2⟩ := run_load_op (P := C.P) ho hca g2 hk hag
    split at hr5
    · rename_i hagt
      obtain ⟨u1, E6, e6, hr6⟩ := run_bind_some hr5
      obtain ⟨hle, rfl⟩ := run_need_some e6
      simp only [decide_eq_true_eq] at hle
      split at hr6
      · obtain ⟨pre3, bm, post3, hbs, rm, rpre, rpost⟩ := RelL.take g5 j k
        have hwin : (((cs.toList.drop (off2 + i * nd.nsz)).take e.cells.length).drop j).take k = (cs.toList.drop (off2 + (i * nd.nsz + j))).take k := by
          rw [List.drop_take, List.drop_drop, List.take_take, Nat.min_eq_left (by omega), Nat.add_assoc]
        rw [hwin] at rm
        have hrun := r1 hagt (by omega)
        obtain ⟨u2, E7, e7, hr7⟩ := run_bind_some hr6
        obtain ⟨hsh, rfl⟩ := run_need_some e7
        have := sharedL_nil rm hsh
        subst this
        exact .value hrun ⟨.refl w, fin_val S hd hr7 (.agg _ _ [] rm)⟩
      · obtain ⟨nd', E7, e7, hr7⟩ := run_bind_some hr6
        obtain ⟨hnd', rfl⟩ := run_opt_some' e7
        obtain ⟨u3, E8, e8, hr8⟩ := run_bind_some hr7
        simp only at hnd'
        simp only [wrAt, run_bind, run_getS, Option.bind_some, h1] at e8
        obtain ⟨_, e8⟩ := ite_fail e8
        obtain ⟨v', E9, e9, e10⟩ := run_bind_some e8
        obtain ⟨hv', rfl⟩ := run_opt_some' e9
        simp only at hv'
        have hlc : ((e.cells.drop j).take k).length = k := by simp; omega
        have hlf : (V.freezeL ((e.cells.drop j).take k)).length = k := by rw [V.freezeL_eq, List.length_map, hlc]
        have hce : (e.setCells j (V.freezeL ((e.cells.drop j).take k))).cells = e.cells.take j ++ V.freezeL ((e.cells.drop j).take k) ++ e.cells.drop (j + k) := by
          rw [setCells_cells (by rw [hlf]; exact hle), hlf]
          by_cases hea : e.isAgg = true
          · exact .inl hea
          · right
            rw [V.cells_one (by simpa using hea), V.freezeL_eq]
            intro x hx
            obtain ⟨y, hy, rfl⟩ := List.mem_map.1 hx
            have hy' := List.mem_of_mem_drop (List.mem_of_mem_take hy)
            simp only [List.mem_singleton] at hy'
            subst hy'
            rw [freeze_isAgg]; simpa using hea
        obtain ⟨b3, off3, cs3, el3, fr3, be3, q1, q2, q3, q4, q5, q6, q7, q8, q9, q10, q11⟩ := SH.elemEdit (bsx := []) (by simpa using S) hst hnd he h1 hnd' hv'
          (by rw [hce]; simp only [List.length_append, hlf, List.length_take, List.length_drop]; omega)
        obtain ⟨cn, hcn1, hcn2⟩ := q1 _ hval
        obtain ⟨b4, off4, hb4, hca4⟩ := hcn1
        obtain ⟨rfl, rfl⟩ := base_inj hcn2 hb4
        rw [hca] at hca4
        simp only [Value.pointer.injEq, Option.some.injEq, Addr.mk.injEq, and_true] at hca4
        obtain ⟨rfl, hoff⟩ := hca4
        obtain rfl : off2 = off4 := by omega
        rw [g2] at q2
        simp only [Option.some.injEq, Obj.cells.injEq] at q2
        obtain ⟨rfl, rfl, rfl⟩ := q2
        obtain ⟨pre3, bm, post3, hbs, rm, rpre, rpost⟩ := RelL.take q4 j k
        have hwin : (((cs.toList.drop (off2 + i * nd.nsz)).take e.cells.length).drop j).take k = (cs.toList.drop (off2 + (i * nd.nsz + j))).take k := by
          rw [List.drop_take, List.drop_drop, List.take_take, Nat.min_eq_left (by omega), Nat.add_assoc]
        have hml : ((cs.toList.drop (off2 + i * nd.nsz)).take e.cells.length).length = e.cells.length := by
          have hcl : cs.toList.length = cs.size := Array.length_toList
          rw [List.length_take, List.length_drop, hcl]; omega
        have hI : ∀ r, I r → (I r ∨ r ∈ bm) := fun _ h => .inl h
        have hrm : RelL w.heap (fun r => I r ∨ r ∈ bm) (V.freezeL ((e.cells.drop j).take k)) ((((cs.toList.drop (off2 + i * nd.nsz)).take e.cells.length).drop j).take k) [] :=
          RelL.frozen hI rm fun r hr => .inr hr
        have hall := RelL.append (RelL.append (RelL.mono (h' := w.heap) hI rpre fun _ _ => rfl) hrm) (RelL.mono (h' := w.heap) hI rpost fun _ _ => rfl)
        rw [← hce, ← list_three] at hall
        rw [hbs, List.nodup_append, List.nodup_append] at q7
        obtain ⟨⟨n1, n2, n12⟩, n3, n123⟩ := q7
        obtain ⟨fp', S'⟩ := q11 w.heap (fun r => I r ∨ r ∈ bm) (pre3 ++ [] ++ post3) _ cs hI
          (fun r hr => hr.imp id fun h => .inl (by rw [hbs]; simp [h])) (fun _ _ => rfl) rfl (by rw [hml, ← list_three]) g2 hml q5 hall
          (by
            rw [List.append_nil, List.nodup_append]
            exact ⟨n1, n3, fun a ha c hc => n123 a (by simp [ha]) c hc⟩)
          (fun r hr => .inl (by rw [hbs]; simp only [List.append_nil, List.mem_append] at hr ⊢; rcases hr with hr | hr <;> simp [hr]))
          (by
            intro r hr hx
            have hrb : r ∈ be3 := by rw [hbs]; simp only [List.append_nil, List.mem_append] at hr ⊢; rcases hr with hr | hr <;> simp [hr]
            rcases hx with hx | hx
            · exact (q8 r hrb).1 hx
            · simp only [List.append_nil, List.mem_append] at hr
              rcases hr with hr | hr
              · exact n12 r hr r hx rfl
              · exact n123 r (by simp [hx]) r hr rfl)
        simp only [run_setS, Option.some.injEq, Prod.mk.injEq] at e10
        obtain ⟨_, rfl⟩ := e10
        rw [Option.getD_some] at hr8
        rw [hwin] at hrm
        obtain ⟨I'', fp'', S''⟩ := fin_val (st0 := st0) S' hd hr8 (.agg _ _ [] hrm)
        exact .value (r1 hagt (by omega)) ⟨.refl w, I'', fp'', S''.widen fun x hx => hx.elim id .inr⟩
    · rename_i hagf
      obtain ⟨y, E6, e6, hr6⟩ := run_bind_some hr5
      obtain ⟨hy, rfl⟩ := run_opt_some' e6
      simp only at hy hr6
      obtain ⟨cy, prey, by_, posty, y1, y2, y3⟩ := RelL.cell g5 hy
      have hjl : j < e.cells.length := (List.getElem?_eq_some_iff.1 hy).1
      rw [List.getElem?_take_of_lt hjl, List.getElem?_drop, Nat.add_assoc] at y1
      have hrun := r2 (by simpa using hagf) cy (by simpa using y1)
      split at hr6
      · rename_i hsh
        have := shared_nil y3 hsh
        subst this
        exact .value hrun ⟨.refl w, fin_val S hd hr6 y3⟩
      · refine .value hrun ⟨.refl w, fin_ref S hd hr6 ⟨us, uc⟩ (by intro; simp) ⟨rfl, ?_⟩⟩
        intro ct1 v1 x1 cn k1 k2 k3 k4 k5
        rw [h1] at k1
        simp only [Bd.own.injEq, true_and] at k1
        obtain ⟨rfl, rfl⟩ := k1
        rw [walkC_append, h5, h3] at k5
        simp only [Option.bind_some, walkC, Option.bind_eq_some_iff] at k5
        obtain ⟨c1, hc1, x2, hx2, hc2⟩ := k5
        simp only [Option.some.injEq] at hc2
        subst hc2
        rw [childC_elem g1 he ⟨_, hc1⟩] at hc1
        simp only [cellAt, g2] at hc1
        rw [← Array.getElem?_toList, y1] at hc1
        simpa using hc1

end

end Go.Lm

namespace Go.Lm

theorem cells_rel {h : Heap} {I : Nat → Prop} {v : V} {c : Value} {bs : List Nat} (hr : RelV h I v c bs) (hc : v.cells.all V.isCell = true) :
    RelL h I v.cells c.cells.toList bs ∧ ∀ x ∈ c.cells.toList, isC x = true := by
  have key : ∀ {vs : List V} {cs : List Value} {bs : List Nat}, RelL h I vs cs bs → vs.all V.isCell = true → ∀ x ∈ cs, isC x = true := by
    intro vs
    induction vs with
    | nil => intro cs bs hl _ x hx; cases hl; simp at hx
    | cons v vs ih =>
      intro cs bs hl ha x hx
      simp only [List.all_cons, Bool.and_eq_true] at ha
      cases hl with
      | cons _ c b1 _ cs b2 h1 h2 =>
        rcases List.mem_cons.1 hx with rfl | hx
        · have h3 := ha.1
          clear ih h2 ha
          cases h1 <;> first | rfl | simp [V.isCell] at h3
        · exact ih h2 ha.2 x hx
  cases hr with
  | any => simp [V.cells, V.isCell] at hc
  | agg vs cs bs hl => exact ⟨hl, key hl hc⟩
  | tup => simp [V.cells, V.isCell] at hc
  | bool b => exact ⟨by simpa [V.cells, Value.cells] using RelL.cons _ _ [] _ _ [] (.bool b) .nil, by simp [Value.cells, isC]⟩
  | int k n => exact ⟨by simpa [V.cells, Value.cells] using RelL.cons _ _ [] _ _ [] (.int k n) .nil, by simp [Value.cells, isC]⟩
  | str s => exact ⟨by simpa [V.cells, Value.cells] using RelL.cons _ _ [] _ _ [] (.str s) .nil, by simp [Value.cells, isC]⟩
  | slE a b d => exact ⟨by simpa [V.cells, Value.cells] using RelL.cons _ _ [] _ _ [] (.slE a b d) .nil, by simp [Value.cells, isC]⟩
  | slZ a b d => exact ⟨by simpa [V.cells, Value.cells] using RelL.cons _ _ [] _ _ [] (.slZ a b d) .nil, by simp [Value.cells, isC]⟩
  | sh sz es b off cap cs el fr hb hh hc' hs hz hl hv => exact ⟨by simpa [V.cells, Value.cells] using RelL.cons _ _ [] _ _ [] (.sh sz es b off cap cs el fr hb hh hc' hs hz hl hv) .nil, by simp [Value.cells, isC]⟩
  | ow sz es b off cap cs el fr bs hh hf hc' hs hz hl hv => exact ⟨by simpa [V.cells, Value.cells] using RelL.cons _ _ (b :: bs) _ _ [] (.ow sz es b off cap cs el fr bs hh hf hc' hs hz hl hv) .nil, by simp [Value.cells, isC]⟩
  | box x b cs el fr bs hh hf hl hv => exact ⟨by simpa [V.cells, Value.cells] using RelL.cons _ _ (b :: bs) _ _ [] (.box x b cs el fr bs hh hf hl hv) .nil, by simp [Value.cells, isC]⟩
  | cptr x j b off cs el fr hb hh hs hj hl hv => exact ⟨by simpa [V.cells, Value.cells] using RelL.cons _ _ [] _ _ [] (.cptr x j b off cs el fr hb hh hs hj hl hv) .nil, by simp [Value.cells, isC]⟩
  | fn f vs cs bs hl => exact ⟨by simpa [V.cells, Value.cells] using RelL.cons _ _ bs _ _ [] (.fn f vs cs bs hl) .nil, by simp [Value.cells, isC]⟩
  | nilP => exact ⟨by simpa [V.cells, Value.cells] using RelL.cons _ _ [] _ _ [] .nilP .nil, by simp [Value.cells, isC]⟩
  | nilF => exact ⟨by simpa [V.cells, Value.cells] using RelL.cons _ _ [] _ _ [] .nilF .nil, by simp [Value.cells, isC]⟩

/-- A segment of a segment, replaced. -/
theorem seg_nest {α : Type} (L vs : List α) (o N j : Nat) (hj : j + vs.length ≤ N) (hN : o + N ≤ L.length) :
    L.take (o + j) ++ vs ++ L.drop (o + j + vs.length) =
      L.take o ++ (((L.drop o).take N).take j ++ vs ++ ((L.drop o).take N).drop (j + vs.length)) ++ L.drop (o + N) := by
  have e1 : L.take (o + j) = L.take o ++ ((L.drop o).take N).take j := by
    rw [List.take_take, Nat.min_eq_left (by omega), List.take_add]
  have e2 : L.drop (o + j + vs.length) = ((L.drop o).take N).drop (j + vs.length) ++ L.drop (o + N) := by
    rw [List.drop_take, List.drop_drop, show L.drop (o + N) = (L.drop (o + (j + vs.length))).drop (N - (j + vs.length)) from by rw [List.drop_drop]; congr 1; omega,
      List.take_append_drop, Nat.add_assoc]
  rw [e1, e2]; simp only [List.append_assoc]

section
variable {C : Ctx} {g : Gh} {n : Nat} {E : Env} {U : Nat → Prop} {tm : Array Value} {w : World} {I : Nat → Prop} {fp : Nat → List Nat} {H : List Nat}

theorem store_ok (S : SH g n E U tm w.heap I fp []) {st0 : Nat} (hst : ¬ U st0) {o : Oper} {t : TypeId} {a x : Operand} (ho : o.op = .store t a x) (hd : o.dst = none) {E' : Env} {u : Unit}
    {ba bx : Bd} {ta tx : TypeId} (hba : (ev C.P a ta).run E = some (ba, E)) (hbx : (ev C.P x tx).run E = some (bx, E)) (hr : (storeP C.P st0 t ba bx).run E = some (u, E')) :
    Res C.P o tm w (Goal g n E' (more U st0) w) := by
  obtain ⟨_, rba, sba, nba⟩ := ev_ok S hba
  obtain ⟨_, rbx, sbx, nbx⟩ := ev_ok S hbx
  unfold storeP at hr
  obtain ⟨k, E1, e1, hr1⟩ := run_bind_some hr
  obtain ⟨hk, rfl⟩ := run_opt_some' e1
  obtain ⟨ag, E2, e2, hr2⟩ := run_bind_some hr1
  obtain ⟨hag, rfl⟩ := run_opt_some' e2
  obtain ⟨⟨ow, v⟩, E3, e3, hr3⟩ := run_bind_some hr2
  obtain ⟨I1, fp1, bs, S1, hI1, K1, rv, _, _⟩ := takeB_ok S sbx rbx e3
  obtain ⟨u1, E4, e4, hr4⟩ := run_bind_some hr3
  obtain ⟨hneed, rfl⟩ := run_need_some e4
  simp only [Bool.and_eq_true, decide_eq_true_eq, beq_iff_eq] at hneed hk hag
  obtain ⟨⟨hvl, hva⟩, hvc⟩ := hneed
  obtain ⟨q, E5, e5, hr5⟩ := run_bind_some hr4
  obtain ⟨rfl, hq⟩ := asPtr_ok S1 sba (K1 _ _ sba nba rba) e5
  obtain ⟨hcr, hcc⟩ := cells_rel rv hvc
  cases q with
  | c y j => simp [run_fail] at hr5
  | r s st ct p i j =>
    obtain ⟨us, uc, hval⟩ : U st ∧ U ct ∧ Valid E3 w.heap tm s st ct p (ptrOf i j (evc tm a)) := hq
    simp only at hr5
    obtain ⟨nd, E6, e6, hr6⟩ := run_bind_some hr5
    obtain ⟨hnd, rfl⟩ := run_rdAt_some e6
    obtain ⟨e, E7, e7, hr7⟩ := run_bind_some hr6
    obtain ⟨he, rfl⟩ := run_opt_some' e7
    obtain ⟨u2, E8, e8, hr8⟩ := run_bind_some hr7
    obtain ⟨hle, rfl⟩ := run_need_some e8
    obtain ⟨nd', E9, e9, hr9⟩ := run_bind_some hr8
    obtain ⟨hnd', rfl⟩ := run_opt_some' e9
    simp only [decide_eq_true_eq] at hnd he hle hnd'
    obtain ⟨ct', v0, c', h1, _⟩ := S1.at hnd
    simp only [wrAt, run_bind, run_getS, Option.bind_some, h1] at hr9
    obtain ⟨_, hr9⟩ := ite_fail hr9
    obtain ⟨v', E10, e10, e11⟩ := run_bind_some hr9
    obtain ⟨hv', rfl⟩ := run_opt_some' e10
    simp only at hv'
    have hce : (e.setCells j v.cells).cells = e.cells.take j ++ v.cells ++ e.cells.drop (j + v.cells.length) := by
      refine setCells_cells (by omega) (.inr ?_)
      intro y hy
      have := List.all_eq_true.1 hvc y hy
      cases y <;> simp_all [V.isCell, V.isAgg]
    obtain ⟨b, off, cs, el, fr, be, q1, q2, q3, q4, q5, q6, q7, q8, q9, q10, q11⟩ := SH.elemEdit S1 hst hnd he h1 hnd' hv'
      (by rw [hce]; simp only [List.length_append, List.length_take, List.length_drop]; omega)
    obtain ⟨cn, ⟨b4, off4, hb4, hca⟩, hcn2⟩ := q1 _ hval
    obtain ⟨rfl, rfl⟩ := base_inj hcn2 hb4
    have hcl : cs.toList.length = cs.size := Array.length_toList
    have hvcl : v.cells.length = (evc tm x).cells.toList.length := hcr.length
    obtain ⟨w', cs', s1, s2, s3, s4, s5, s6⟩ := storeCells_run (P := C.P) (evc tm x).cells.toList (off4 + (i * nd.nsz + j)) 0 w cs q2 q6 (by omega) hcc
    have hsz : (evc tm x).cells.size = k := by rw [← Array.length_toList, ← hvcl, hvl]
    have hrun : (execOp (evc tm) o).run C.P w = .ok .skip w' := by
      simp only [execOp, ho, Instr.storeAt, hca, Instr.sureAddr, storeVar, Sem.run_bind, Sem.run_pure, Result.andThen_ok, sizeOf_run hk, hsz, ne_eq, not_true_eq_false, if_false, s1]
    obtain ⟨pre3, bm, post3, hbs, rm, rpre, rpost⟩ := RelL.take q4 j k
    have hml : ((cs.toList.drop (off4 + i * nd.nsz)).take e.cells.length).length = e.cells.length := by
      rw [List.length_take, List.length_drop, hcl]; omega
    rw [hbs, List.nodup_append, List.nodup_append] at q7
    obtain ⟨⟨n1, n2, n12⟩, n3, n123⟩ := q7
    have hbsn := S1.hnodup
    rw [List.append_nil] at hbsn
    have hbe : ∀ r, r ∈ pre3 ∨ r ∈ post3 → r ∈ be := fun r hr => by rw [hbs]; simp only [List.mem_append]; rcases hr with hr | hr <;> simp [hr]
    have hkeep : ∀ r, I1 r ∨ r ∈ pre3 ∨ r ∈ post3 ∨ r ∈ bs → w'.heap[r]? = w.heap[r]? := by
      intro r hr
      refine s4 r ?_
      rintro rfl
      rcases hr with hr | hr | hr | hr
      · exact q9 hr
      · exact (q8 _ (hbe _ (.inl hr))).2.1 rfl
      · exact (q8 _ (hbe _ (.inr hr))).2.1 rfl
      · exact S1.hdisj _ (by simp [hr]) s q10
    have hall := RelL.append (RelL.append (RelL.mono (h' := w'.heap) (I' := I1) (fun _ h => h) rpre fun r hr => hkeep r (by rcases hr with hr | hr <;> simp [hr]))
      (RelL.mono (h' := w'.heap) (I' := I1) (fun _ h => h) hcr fun r hr => hkeep r (by rcases hr with hr | hr <;> simp [hr])))
      (RelL.mono (h' := w'.heap) (I' := I1) (fun _ h => h) rpost fun r hr => hkeep r (by rcases hr with hr | hr <;> simp [hr]))
    rw [show e.cells.drop (j + k) = e.cells.drop (j + v.cells.length) from by rw [hvl], ← hce] at hall
    have hmem : ∀ r, r ∈ pre3 ++ bs ++ post3 → r ∈ be ∨ r ∈ bs := by
      intro r hr
      simp only [List.mem_append] at hr
      rcases hr with (hr | hr) | hr
      · exact .inl (hbe r (.inl hr))
      · exact .inr hr
      · exact .inl (hbe r (.inr hr))
    obtain ⟨fp', S'⟩ := q11 w'.heap I1 (pre3 ++ bs ++ post3) _ cs' (fun _ h => h) (fun r hr => .inl hr) s4 s3
      (by
        rw [s6, Nat.add_zero, ← Nat.add_assoc]
        have := seg_nest cs.toList (evc tm x).cells.toList (off4 + i * nd.nsz) e.cells.length j (by omega) (by omega)
        rw [this]
        congr 2
        simp only [List.length_append, List.length_take, List.length_drop, hcl]; omega)
      s5 (by simp only [List.length_append, List.length_take, List.length_drop, hcl]; omega)
      (by
        intro y hy
        simp only [List.mem_append] at hy
        rcases hy with (hy | hy) | hy
        · exact q5 y (List.mem_of_mem_take hy)
        · exact hcc y hy
        · exact q5 y (List.mem_of_mem_drop hy))
      (by rw [← hvcl, hvl]; exact hall)
      (by
        rw [List.nodup_append, List.nodup_append]
        refine ⟨⟨n1, hbsn, ?_⟩, n3, ?_⟩
        · intro r hr r2 hr2 e'; subst e'
          exact S1.hdisj r (by simp [hr2]) s (q8 r (hbe r (.inl hr))).2.2
        · intro r hr r2 hr2 e'; subst e'
          rcases List.mem_append.1 hr with hr | hr
          · exact n123 r (by simp [hr]) r hr2 rfl
          · exact S1.hdisj r (by simp [hr]) s (q8 r (hbe r (.inr hr2))).2.2)
      hmem
      (by
        intro r hr hx
        rcases hmem r hr with h | h
        · exact (q8 r h).1 hx
        · exact S1.hnotI r (by simp [h]) hx)
    simp only [run_setS, Option.some.injEq, Prod.mk.injEq] at e11
    obtain ⟨_, rfl⟩ := e11
    refine ⟨w', .inr ⟨hrun, s2, ?_⟩⟩
    rw [hd]; exact ⟨I1, fp', S'⟩

end

end Go.Lm

namespace Go.Lm

section
variable {C : Ctx} {m : Sem_} {g : Gh} {n : Nat} {E : Env} {U : Nat → Prop} {tm : Array Value} {w : World} {I : Nat → Prop} {fp : Nat → List Nat} {H : List Nat}

/-- The hand may be told another way, and let go in part. -/
theorem SH.sub {h : Heap} (S : SH g n E U tm h I fp H) {H' : List Nat} (hn : H'.Nodup) (hs : ∀ r ∈ H', r ∈ H) : SH g n E U tm h I fp H' :=
  { S with hnodup := hn, hnotI := fun b hb => S.hnotI b (hs b hb), hdisj := fun b hb => S.hdisj b (hs b hb),
           hlt := fun b hb => S.hlt b (hs b hb), hbase := fun b hb => S.hbase b (hs b hb) }

/-- A new block. -/
theorem SH.alloc {h : Heap} (S : SH g n E U tm h I fp H) (o : Obj) : SH g n E U tm (h.push o) I fp (h.size :: H) := by
  have hk : ∀ r, r < h.size → (h.push o)[r]? = h[r]? := fun r hr => by rw [Array.getElem?_push, if_neg (by omega)]
  have hV : ∀ s' st' ct0 p Q, U st' → U ct0 → Valid E h tm s' st' ct0 p Q → Valid E (h.push o) tm s' st' ct0 p Q := by
    intro s' st' ct0 p Q _ _ hv
    refine hv.heap (bs := fp s') (I := I) (fun st'' ct'' v'' e'' => S.own e'') ?_
    intro r hr
    rcases hr with hr | hr
    · exact hk r (S.ilt r hr)
    · exact hk r (S.lt s' r hr)
  refine { size := S.size, slot := ?_, stamp := S.stamp, far := S.far, out := S.out, disj := S.disj, nodup := S.nodup, notI := S.notI, lt := ?_, base := S.base,
           hnodup := ?_, hnotI := ?_, hdisj := ?_, hlt := ?_, hbase := ?_, ilt := ?_, i0 := S.i0, ibase := S.ibase, grow := ?_, frame := ?_ }
  · intro s hs
    refine RelB.map (fun _ h => h) ?_ hV (S.stamp s hs) (S.slot s hs)
    intro r hr
    rcases hr with hr | hr
    · exact hk r (S.ilt r hr)
    · exact hk r (S.lt s r hr)
  · intro s r hr; rw [Array.size_push]; have := S.lt s r hr; omega
  · exact List.nodup_cons.2 ⟨fun hm => by have := S.hlt _ hm; omega, S.hnodup⟩
  · intro r hr hI
    rcases List.mem_cons.1 hr with rfl | hr
    · have := S.ilt _ hI; omega
    · exact S.hnotI r hr hI
  · intro r hr s hm
    rcases List.mem_cons.1 hr with rfl | hr
    · have := S.lt s _ hm; omega
    · exact S.hdisj r hr s hm
  · intro r hr
    rw [Array.size_push]
    rcases List.mem_cons.1 hr with rfl | hr
    · omega
    · have := S.hlt r hr; omega
  · intro r hr
    rcases List.mem_cons.1 hr with rfl | hr
    · exact .inr S.grow
    · exact S.hbase r hr
  · intro r hr; rw [Array.size_push]; have := S.ilt r hr; omega
  · rw [Array.size_push]; have := S.grow; omega
  · intro r hr hb
    rw [hk r (by have := S.grow; omega)]; exact S.frame r hr hb

theorem zeroT_ok {P : Program} {t : TypeId} {z : V} (e : zeroT P t = some z) (w : World) :
    ∃ c, (zeroValue t).run P w = .ok c w ∧ ∀ (h : Heap) (I : Nat → Prop), RelV h I z c [] := by
  unfold zeroT at e
  simp only [Option.bind_eq_some_iff] at e
  obtain ⟨i, hi, c, hc, e⟩ := e
  refine ⟨c, by simp [zeroValue, typeInfo, hi, hc], ?_⟩
  intro h I
  have key : ∀ (ts : List TypeId) (vs : List Value) (xs : List V), ofVals P ts vs = some xs → RelL h I xs vs [] := by
    intro ts
    induction ts with
    | nil =>
      intro vs xs hx
      cases vs with
      | nil => simp only [ofVals, Option.some.injEq] at hx; subst hx; exact .nil
      | cons => simp [ofVals] at hx
    | cons t ts ih =>
      intro vs xs hx
      cases vs with
      | nil => simp [ofVals] at hx
      | cons v vs =>
        simp only [ofVals, Option.bind_eq_some_iff, Option.map_eq_some_iff] at hx
        obtain ⟨x, h1, ys, h2, rfl⟩ := hx
        exact .cons x v [] ys vs [] (ofVal_ok h1) (ih vs ys h2)
  split at e
  · split at e
    · simp only [Option.map_eq_some_iff] at e
      obtain ⟨xs, hx, rfl⟩ := e
      exact .agg xs _ [] (key _ _ _ hx)
    · simp at e
  · split at e
    · exact ofVal_ok e
    · simp at e

/-- A new variable. -/
theorem new_box {h : Heap} {v : V} {c : Value} {bs : List Nat} (el : TypeId) (hr : RelV h I v c bs) (hc : v.cells.all V.isCell = true)
    (hlt : ∀ b, I b ∨ b ∈ bs → b < h.size) : RelV (h.push (.cells c.cells el)) I (.box v) (.pointer (some ⟨h.size, 0, none⟩)) (h.size :: bs) := by
  obtain ⟨h1, h2⟩ := cells_rel hr hc
  refine .box v h.size c.cells el (0, 0) bs (by simp) (by intro k _; simp) (RelL.mono (fun _ h => h) h1 fun b hb => ?_) h2
  rw [Array.getElem?_push, if_neg (by have := hlt b hb; omega)]

theorem move_ok (S : SH g n E U tm w.heap I fp []) {st0 : Nat} {o : Oper} {x : Operand} (ho : o.op = .move x) (hd : ∀ d, o.dst = some d → d < n) {E' : Env} {u : Unit}
    (hr : (opP C m st0 o).run E = some (u, E')) : Res C.P o tm w (Goal g n E' (more U st0) w) := by
  simp only [opP, ho] at hr
  obtain ⟨b, E1, e1, hr1⟩ := run_bind_some hr
  obtain ⟨rfl, rb, sb, nb⟩ := ev_ok S e1
  exact .value (v := evc tm x) (by simp [execOp, ho]) ⟨.refl w, fin_ref S hd hr1 sb nb rb⟩

theorem assign_ok (S : SH g n E U tm w.heap I fp []) {st0 : Nat} (hst : ¬ U st0) {o : Oper} {x : Operand} (ho : o.op = .assign x) (hd : ∀ d, o.dst = some d → d < n) {E' : Env} {u : Unit}
    (hr : (opP C m st0 o).run E = some (u, E')) : Res C.P o tm w (Goal g n E' (more U st0) w) := by
  simp only [opP, ho] at hr
  obtain ⟨b, E1, e1, hr1⟩ := run_bind_some hr
  obtain ⟨rfl, rb, sb, nb⟩ := ev_ok S e1
  obtain ⟨⟨ow, v⟩, E2, e2, hr2⟩ := run_bind_some hr1
  obtain ⟨I1, fp1, bs, S1, hI1, K1, rv, hw, hz⟩ := takeB_ok S sb rb e2
  obtain ⟨u1, E3, e3, hr3⟩ := run_bind_some hr2
  obtain ⟨I2, fp2, S2⟩ := fin_mk (st0 := st0) hst S1 hd e3 rv hw
  refine .value (v := evc tm x) (by simp [execOp, ho]) ⟨.refl w, ?_⟩
  split at hr3
  · rename_i s st ct d hdst how
    have how' : ow = true := how
    subst how'
    have hdst : o.dst = some d := hdst
    obtain ⟨hsn, hEs, hfps⟩ := hz _ _ _ rfl rfl
    split at hr3
    · have := run_pure_some hr3
      simp only [Prod.mk.injEq] at this
      obtain ⟨_, rfl⟩ := this
      exact ⟨I2, fp2, S2⟩
    · rename_i hne
      simp only [run_setS, Option.some.injEq, Prod.mk.injEq] at hr3
      obtain ⟨_, rfl⟩ := hr3
      -- the old slot now reads as a reference to the new one
      have hdn := hd d hdst
      simp only [putD, hdst, run_setS, Option.some.injEq, Prod.mk.injEq, mk, if_true] at e3
      obtain ⟨_, rfl⟩ := e3
      simp only [hdst, putTm] at S2 ⊢
      -- the value of the operand is that of the old slot
      have hEs2 : upd E2 d (.own st0 st0 v) s = .val .any := by simp [upd, hne, hEs]
      have hfp2 : fp2 s = [] := by
        have := S2.slot s hsn
        rw [hEs2] at this; exact this.1
      have htm : tmf (tm.setIfInBounds d (evc tm x)) s = tmf tm s := by rw [tmf_set _ (by rw [S.size]; exact hdn), if_neg hne]
      have hx : evc tm x = tmf tm s := by
        have hrv := rb.2
        by_cases hown : ∃ ct' v', E s = .own st ct' v'
        · obtain ⟨ct', v', hown⟩ := hown
          have := hrv ct' v' v' (tmf tm s) hown (.inl rfl) rfl (.inl rfl) rfl
          exact this
        · exfalso
          simp only [takeB] at e2
          obtain ⟨y, E4, e4, _⟩ := run_bind_some e2
          obtain ⟨e5, _⟩ := run_rdAt_some e4
          obtain ⟨ct', v', q1, _⟩ := at_some e5
          exact hown ⟨ct', v', q1⟩
      refine ⟨I2, fp2, S2.relabel hsn hfp2 ?_ ⟨.inr rfl, .inr rfl⟩ (by intro; simp)⟩
      refine ⟨rfl, ?_⟩
      intro ct1 v1 x1 cn k1 k2 k3 k4 k5
      simp only [walkC, Option.some.injEq] at k5
      rw [← k5, htm, tmf_set _ (by rw [S.size]; exact hdn), if_pos rfl, hx]
  · have := run_pure_some hr3
    simp only [Prod.mk.injEq] at this
    obtain ⟨_, rfl⟩ := this
    exact ⟨I2, fp2, S2⟩

theorem evV_ok (S : SH g n E U tm w.heap I fp H) {P : Program} {x : Operand} {t : TypeId} {v : V} {E' : Env} (hr : (evV P x t).run E = some (v, E')) :
    E = E' ∧ RelV w.heap (zone I fp) v (evc tm x) [] := by
  unfold evV at hr
  obtain ⟨b, E1, e1, hr1⟩ := run_bind_some hr
  obtain ⟨rfl, rb, sb, nb⟩ := ev_ok S e1
  exact readB_ok S rb hr1

theorem rel_int {h : Heap} {I : Nat → Prop} {k : IntKind} {n : Int} {c : Value} {bs : List Nat} (hr : RelV h I (.int k n) c bs) : c = .int k n := by cases hr; rfl
theorem rel_bool {h : Heap} {I : Nat → Prop} {b : Bool} {c : Value} {bs : List Nat} (hr : RelV h I (.bool b) c bs) : c = .bool b := by cases hr; rfl
theorem rel_str {h : Heap} {I : Nat → Prop} {s : ByteArray} {c : Value} {bs : List Nat} (hr : RelV h I (.str s) c bs) : c = .string s := by cases hr; rfl

theorem pick_ok (S : SH g n E U tm w.heap I fp []) {st0 : Nat} {o : Oper} {x a b : Operand} (ho : o.op = .pick x a b) (hd : ∀ d, o.dst = some d → d < n) {E' : Env} {u : Unit}
    (hr : (opP C m st0 o).run E = some (u, E')) : Res C.P o tm w (Goal g n E' (more U st0) w) := by
  simp only [opP, ho] at hr
  obtain ⟨vc, E1, e1, hr1⟩ := run_bind_some hr
  obtain ⟨rfl, rc⟩ := evV_ok S e1
  split at hr1
  · obtain ⟨v, E2, e2, hr2⟩ := run_bind_some hr1
    obtain ⟨rfl, rv⟩ := evV_ok S e2
    obtain ⟨u1, E3, e3, hr3⟩ := run_bind_some hr2
    obtain ⟨hs, rfl⟩ := run_need_some e3
    exact .value (v := evc tm a) (by simp [execOp, ho, rel_bool rc, asBool]) ⟨.refl w, fin_val S hd hr3 (rv.solid rfl hs)⟩
  · obtain ⟨v, E2, e2, hr2⟩ := run_bind_some hr1
    obtain ⟨rfl, rv⟩ := evV_ok S e2
    obtain ⟨u1, E3, e3, hr3⟩ := run_bind_some hr2
    obtain ⟨hs, rfl⟩ := run_need_some e3
    exact .value (v := evc tm b) (by simp [execOp, ho, rel_bool rc, asBool]) ⟨.refl w, fin_val S hd hr3 (rv.solid rfl hs)⟩
  · simp [run_fail] at hr1

theorem alloc_ok (S : SH g n E U tm w.heap I fp []) {st0 : Nat} (hst : ¬ U st0) {o : Oper} {e : TypeId} (ho : o.op = .alloc e) (hd : ∀ d, o.dst = some d → d < n) {E' : Env} {u : Unit}
    (hr : (opP C m st0 o).run E = some (u, E')) : Res C.P o tm w (Goal g n E' (more U st0) w) := by
  simp only [opP, ho] at hr
  obtain ⟨z, E1, e1, hr1⟩ := run_bind_some hr
  obtain ⟨hz, rfl⟩ := run_opt_some' e1
  obtain ⟨u1, E2, e2, hr2⟩ := run_bind_some hr1
  obtain ⟨hc, rfl⟩ := run_need_some e2
  simp only at hz hc hr2
  obtain ⟨c, hzc, hrel⟩ := zeroT_ok hz w
  have hbox := new_box (I := I) e (hrel w.heap I) hc (fun b hb => S.ilt b (by simpa using hb))
  refine .value (v := .pointer (some ⟨w.heap.size, 0, none⟩)) (w' := { w with heap := w.heap.push (.cells c.cells e) }) ?_
    ⟨⟨rfl, rfl, rfl⟩, fin_own (bs := [w.heap.size]) hst (by simpa using S.alloc _) hd hr2 hbox⟩
  simp [execOp, ho, Instr.alloc, hzc, newVar, newRow]

theorem box_ok (S : SH g n E U tm w.heap I fp []) {st0 : Nat} (hst : ¬ U st0) {o : Oper} {e : TypeId} {x : Operand} (ho : o.op = .box e x) (hd : ∀ d, o.dst = some d → d < n) {E' : Env} {u : Unit}
    (hr : (opP C m st0 o).run E = some (u, E')) : Res C.P o tm w (Goal g n E' (more U st0) w) := by
  simp only [opP, ho] at hr
  obtain ⟨b, E1, e1, hr1⟩ := run_bind_some hr
  obtain ⟨rfl, rb, sb, nb⟩ := ev_ok S e1
  obtain ⟨⟨ow, v⟩, E2, e2, hr2⟩ := run_bind_some hr1
  obtain ⟨I1, fp1, bs, S1, hI1, K1, rv, hw, _⟩ := takeB_ok S sb rb e2
  obtain ⟨u1, E3, e3, hr3⟩ := run_bind_some hr2
  obtain ⟨hc, rfl⟩ := run_need_some e3
  have hbox := new_box (I := I1) e rv hc (fun b hb => by rcases hb with hb | hb; exact S1.ilt b hb; exact S1.hlt b (by simp [hb]))
  refine .value (v := .pointer (some ⟨w.heap.size, 0, none⟩)) (w' := { w with heap := w.heap.push (.cells (evc tm x).cells e) }) ?_
    ⟨⟨rfl, rfl, rfl⟩, fin_own (bs := w.heap.size :: bs) hst (by simpa using S1.alloc _) hd hr3 hbox⟩
  simp [execOp, ho, Instr.box, newVar, newRow]

theorem nilCheck_ok (S : SH g n E U tm w.heap I fp []) {st0 : Nat} {o : Oper} {x : Operand} (ho : o.op = .nilCheck x) (hd : ∀ d, o.dst = some d → d < n) {E' : Env} {u : Unit}
    (hr : (opP C m st0 o).run E = some (u, E')) : Res C.P o tm w (Goal g n E' (more U st0) w) := by
  simp only [opP, ho] at hr
  obtain ⟨b, E1, e1, hr1⟩ := run_bind_some hr
  obtain ⟨rfl, rb, sb, nb⟩ := ev_ok S e1
  have key : ∀ a, evc tm x = .pointer (some a) → Post g n E' (more U st0) (putTm tm o.dst (evc tm x)) w.heap → Res C.P o tm w (Goal g n E' (more U st0) w) := by
    intro a ha hp
    exact .value (v := evc tm x) (by simp [execOp, ho, ha]) ⟨.refl w, hp⟩
  split at hr1
  · obtain ⟨_, rb2⟩ := rb
    have hp := fin_ref (st0 := st0) S hd hr1 sb nb ⟨rfl, rb2⟩
    cases hrb : evc tm x with
    | pointer a => rw [hrb] at rb2; cases rb2; exact key _ hrb hp
    | _ => rw [hrb] at rb2; cases rb2
  · obtain ⟨_, rb2⟩ := rb
    have hp := fin_ref (st0 := st0) S hd hr1 sb nb ⟨rfl, rb2⟩
    refine .value (v := evc tm x) ?_ ⟨.refl w, hp⟩
    generalize hc : evc tm x = c at rb2
    cases rb2
    simp [execOp, ho, hc]
  · obtain ⟨y, E2, e2, hr2⟩ := run_bind_some hr1
    obtain ⟨hy, rfl⟩ := run_rdAt_some e2
    obtain ⟨ct', v0, c', h1, h2, h3, h4, h5, h6, _⟩ := S.at hy
    obtain ⟨b2, off2, _, hca⟩ := h6 _ rb.2
    exact key _ hca (fin_ref S hd hr2 sb nb rb)
  · obtain ⟨_, cs, hc, _⟩ := rb
    refine .value (v := evc tm x) (by simp [execOp, ho, hc]) ⟨.refl w, fin_ref S hd hr1 sb nb ⟨rfl, cs, hc, by assumption⟩⟩
  · obtain ⟨y, E2, e2, hr2⟩ := run_bind_some hr1
    obtain ⟨hy, rfl⟩ := run_rdAt_some e2
    obtain ⟨ct', v0, c', h1, h2, h3, h4, h5, h6, pre, bx, post, h7, h8, _⟩ := S.at hy
    have hcc : evc tm x = c' := h6 (fun _ cn => evc tm x = cn) rb.2
    split at hr2
    · rw [← hcc] at h8
      generalize hc : evc tm x = c at h8
      cases h8
      exact key _ hc (fin_ref S hd hr2 sb nb rb)
    · obtain rfl := shared_nil h8 rfl
      rw [← hcc] at h8
      have hp := fin_val (st0 := st0) S hd hr2 h8
      generalize hc : evc tm x = c at h8
      cases h8
      exact key _ hc hp
    · simp [run_fail] at hr2
  · simp [run_fail] at hr1

end

end Go.Lm

namespace Go.Lm

section
variable {C : Ctx} {m : Sem_} {g : Gh} {n : Nat} {E : Env} {U : Nat → Prop} {tm : Array Value} {w : World} {I : Nat → Prop} {fp : Nat → List Nat} {H : List Nat}

theorem binV_ok {P : Program} {o : Oper} {op : BinOp} {xt yt : TypeId} {x y : Operand} (ho : o.op = .binOp op xt x y yt) {vx vy r : V} {h : Heap} {I1 I2 : Nat → Prop}
    (hx : RelV h I1 vx (evc tm x) []) (hy : RelV h I2 vy (evc tm y) []) (hr : binV op vx vy = some r) :
    ∃ c, (execOp (evc tm) o).run P w = .ok (.value c) w ∧ ∀ (h : Heap) (I : Nat → Prop), RelV h I r c [] := by
  unfold binV at hr
  split at hr
  · rename_i k a k' b
    have ex := rel_int hx
    have ey := rel_int hy
    split at hr
    · split at hr
      · simp at hr
      · rename_i hb
        simp only [Option.some.injEq] at hr; subst hr
        exact ⟨_, by simp [execOp, ho, ex, ey, eqGuard, binOp, Op.shift, hb], fun _ _ => .int _ _⟩
    · split at hr
      · simp at hr
      · rename_i hb
        simp only [Option.some.injEq] at hr; subst hr
        exact ⟨_, by simp [execOp, ho, ex, ey, eqGuard, binOp, Op.shift, hb], fun _ _ => .int _ _⟩
    · split at hr
      case isFalse => simp at hr
      rename_i hk
      subst hk
      split at hr
      · simp only [Option.some.injEq] at hr; subst hr
        exact ⟨_, by simp [execOp, ho, ex, ey, eqGuard, binOp, Op.intArith], fun _ _ => .int _ _⟩
      · simp only [Option.some.injEq] at hr; subst hr
        exact ⟨_, by simp [execOp, ho, ex, ey, eqGuard, binOp, Op.intArith], fun _ _ => .int _ _⟩
      · simp only [Option.some.injEq] at hr; subst hr
        exact ⟨_, by simp [execOp, ho, ex, ey, eqGuard, binOp, Op.intArith], fun _ _ => .int _ _⟩
      · split at hr
        · simp at hr
        · rename_i hb
          simp only [Option.some.injEq] at hr; subst hr
          exact ⟨_, by simp [execOp, ho, ex, ey, eqGuard, binOp, Op.intDiv, hb], fun _ _ => .int _ _⟩
      · split at hr
        · simp at hr
        · rename_i hb
          simp only [Option.some.injEq] at hr; subst hr
          exact ⟨_, by simp [execOp, ho, ex, ey, eqGuard, binOp, Op.intDiv, hb], fun _ _ => .int _ _⟩
      · simp only [Option.some.injEq] at hr; subst hr
        exact ⟨_, by simp [execOp, ho, ex, ey, eqGuard, binOp, Op.intBits], fun _ _ => .int _ _⟩
      · simp only [Option.some.injEq] at hr; subst hr
        exact ⟨_, by simp [execOp, ho, ex, ey, eqGuard, binOp, Op.intBits], fun _ _ => .int _ _⟩
      · simp only [Option.some.injEq] at hr; subst hr
        exact ⟨_, by simp [execOp, ho, ex, ey, eqGuard, binOp, Op.intBits], fun _ _ => .int _ _⟩
      · simp only [Option.some.injEq] at hr; subst hr
        exact ⟨_, by simp [execOp, ho, ex, ey, eqGuard, binOp, Op.intBits], fun _ _ => .int _ _⟩
      · simp only [Option.some.injEq] at hr; subst hr
        exact ⟨.bool (a == b), by simp only [execOp, ho, ex, ey, eqGuard, binOp, Op.intCmp, ne_eq, not_true_eq_false, if_false]; rfl, fun _ _ => .bool _⟩
      · simp only [Option.some.injEq] at hr; subst hr
        exact ⟨.bool (a != b), by simp only [execOp, ho, ex, ey, eqGuard, binOp, Op.intCmp, ne_eq, not_true_eq_false, if_false]; rfl, fun _ _ => .bool _⟩
      · simp only [Option.some.injEq] at hr; subst hr
        exact ⟨.bool (decide (a < b)), by simp only [execOp, ho, ex, ey, eqGuard, binOp, Op.intCmp, ne_eq, not_true_eq_false, if_false]; rfl, fun _ _ => .bool _⟩
      · simp only [Option.some.injEq] at hr; subst hr
        exact ⟨.bool (decide (a ≤ b)), by simp only [execOp, ho, ex, ey, eqGuard, binOp, Op.intCmp, ne_eq, not_true_eq_false, if_false]; rfl, fun _ _ => .bool _⟩
      · simp only [Option.some.injEq] at hr; subst hr
        exact ⟨.bool (decide (a > b)), by simp only [execOp, ho, ex, ey, eqGuard, binOp, Op.intCmp, ne_eq, not_true_eq_false, if_false]; rfl, fun _ _ => .bool _⟩
      · simp only [Option.some.injEq] at hr; subst hr
        exact ⟨.bool (decide (a ≥ b)), by simp only [execOp, ho, ex, ey, eqGuard, binOp, Op.intCmp, ne_eq, not_true_eq_false, if_false]; rfl, fun _ _ => .bool _⟩
      · simp at hr
  · rename_i a b
    have ex := rel_str hx
    have ey := rel_str hy
    split at hr
    · split at hr
      · rename_i hle
        simp only [Option.some.injEq] at hr; subst hr
        have hmax : ¬ ((a.size + b.size : Nat) : Int) > IntKind.i64.max := by
          have : IntKind.i64.max = 9223372036854775807 := by decide
          rw [this]; omega
        refine ⟨.string (a ++ b), ?_, fun _ _ => .str _⟩
        simp only [execOp, ho, ex, ey, eqGuard, binOp, Op.stringOp, if_neg hmax]; rfl
      · simp at hr
    · simp only [Option.some.injEq] at hr; subst hr
      exact ⟨.bool (a.toList == b.toList), by simp only [execOp, ho, ex, ey, eqGuard, binOp, Op.stringOp]; rfl, fun _ _ => .bool _⟩
    · simp only [Option.some.injEq] at hr; subst hr
      exact ⟨.bool (!(a.toList == b.toList)), by simp only [execOp, ho, ex, ey, eqGuard, binOp, Op.stringOp]; rfl, fun _ _ => .bool _⟩
    · simp only [Option.some.injEq] at hr; subst hr
      exact ⟨.bool (Op.bytesLess a.toList b.toList), by simp only [execOp, ho, ex, ey, eqGuard, binOp, Op.stringOp]; rfl, fun _ _ => .bool _⟩
    · simp only [Option.some.injEq] at hr; subst hr
      exact ⟨.bool (Op.bytesLess a.toList b.toList || a.toList == b.toList), by simp only [execOp, ho, ex, ey, eqGuard, binOp, Op.stringOp]; rfl, fun _ _ => .bool _⟩
    · simp only [Option.some.injEq] at hr; subst hr
      exact ⟨.bool (!(Op.bytesLess a.toList b.toList || a.toList == b.toList)), by simp only [execOp, ho, ex, ey, eqGuard, binOp, Op.stringOp]; rfl, fun _ _ => .bool _⟩
    · simp only [Option.some.injEq] at hr; subst hr
      exact ⟨.bool (!Op.bytesLess a.toList b.toList), by simp only [execOp, ho, ex, ey, eqGuard, binOp, Op.stringOp]; rfl, fun _ _ => .bool _⟩
    · simp at hr
  · simp at hr

theorem binOp_ok (S : SH g n E U tm w.heap I fp []) {st0 : Nat} {o : Oper} {op : BinOp} {xt yt : TypeId} {x y : Operand} (ho : o.op = .binOp op xt x y yt) (hd : ∀ d, o.dst = some d → d < n) {E' : Env} {u : Unit}
    (hr : (opP C m st0 o).run E = some (u, E')) : Res C.P o tm w (Goal g n E' (more U st0) w) := by
  simp only [opP, ho] at hr
  obtain ⟨vx, E1, e1, hr1⟩ := run_bind_some hr
  obtain ⟨rfl, rx⟩ := evV_ok S e1
  obtain ⟨vy, E2, e2, hr2⟩ := run_bind_some hr1
  obtain ⟨rfl, ry⟩ := evV_ok S e2
  obtain ⟨r, E3, e3, hr3⟩ := run_bind_some hr2
  obtain ⟨hb, rfl⟩ := run_opt_some' e3
  obtain ⟨c, h1, h2⟩ := binV_ok (P := C.P) (w := w) ho rx ry hb
  exact .value h1 ⟨.refl w, fin_val S hd hr3 (h2 _ _)⟩

theorem unOp_ok (S : SH g n E U tm w.heap I fp []) {st0 : Nat} {o : Oper} {op : UnOp} {xt : TypeId} {x : Operand} (ho : o.op = .unOp op xt x) (hd : ∀ d, o.dst = some d → d < n) {E' : Env} {u : Unit}
    (hr : (opP C m st0 o).run E = some (u, E')) : Res C.P o tm w (Goal g n E' (more U st0) w) := by
  simp only [opP, ho] at hr
  obtain ⟨vx, E1, e1, hr1⟩ := run_bind_some hr
  obtain ⟨rfl, rx⟩ := evV_ok S e1
  obtain ⟨r, E3, e3, hr3⟩ := run_bind_some hr1
  obtain ⟨hb, rfl⟩ := run_opt_some' e3
  simp only at hb
  unfold unV at hb
  split at hb
  · simp only [Option.some.injEq] at hb
    rw [← hb] at hr3
    exact .value (by simp only [execOp, ho, rel_int rx, Op.unary, Op.intArith]; rfl) ⟨.refl w, fin_val S hd hr3 (.int _ _)⟩
  · simp only [Option.some.injEq] at hb
    rw [← hb] at hr3
    exact .value (by simp only [execOp, ho, rel_bool rx, Op.unary]; rfl) ⟨.refl w, fin_val S hd hr3 (.bool _)⟩
  · simp at hb

theorem fieldT_run {P : Program} {s : TypeId} {f : Nat} {off : Nat} {u : TypeId} (e : fieldT P s f = some (off, u)) :
    ∃ fs x, P.underlying s = some (.struct fs) ∧ fs[f]? = some x ∧ x.offset = off ∧ x.type = u := by
  unfold fieldT at e
  split at e
  · rename_i fs hu
    rw [Option.map_eq_some_iff] at e
    obtain ⟨x, hx, e⟩ := e
    simp only [Prod.mk.injEq] at e
    exact ⟨fs, x, hu, hx, e.1, e.2⟩
  · simp at e

theorem cptr_add {h : Heap} {I : Nat → Prop} {x : V} {j k : Nat} {c : Value} (hr : RelV h I (.cptr x j) c []) (hj : j + k ≤ x.cells.length) :
    ∃ a, c = .pointer (some a) ∧ RelV h I (.cptr x (j + k)) (.pointer (some (a.add k))) [] := by
  cases hr with
  | cptr x j b off cs el fr hb hh hs hj' hl hv =>
    refine ⟨_, rfl, ?_⟩
    rw [add_none, Nat.add_assoc]
    exact .cptr x (j + k) b off cs el fr hb hh hs hj hl hv

/-- A pointer moved on within its node. -/
theorem ptr_add {h : Heap} {s st ct : Nat} {p : Path} {i j k : Nat} {c : Value} (hv : Valid E h tm s st ct p (ptrOf i j c)) {a : Addr} (hc : c = .pointer (some a)) :
    Valid E h tm s st ct p (ptrOf i (j + k) (.pointer (some (a.add k)))) := by
  intro ct1 v1 x1 cn k1 k2 k3 k4 k5
  obtain ⟨b, off, hb, hca⟩ := hv ct1 v1 x1 cn k1 k2 k3 k4 k5
  refine ⟨b, off, hb, ?_⟩
  rw [hc] at hca
  simp only [Value.pointer.injEq, Option.some.injEq] at hca
  subst hca
  rw [add_none]; congr 3; omega

/-- A live pointer is one. -/
theorem ptr_live (S : SH g n E U tm w.heap I fp H) {s st ct : Nat} {p : Path} {i j : Nat} {c : Value} (hv : Valid E w.heap tm s st ct p (ptrOf i j c)) {x : V}
    (hx : (E s).at st ct p = some x) : ∃ a, c = .pointer (some a) := by
  obtain ⟨ct', v0, c', h1, h2, h3, h4, h5, h6, _⟩ := S.at hx
  obtain ⟨b, off, _, hca⟩ := h6 _ hv
  exact ⟨_, hca⟩

theorem fieldAddr_ok (S : SH g n E U tm w.heap I fp []) {st0 : Nat} {o : Oper} {s : TypeId} {x : Operand} {f : Nat} (ho : o.op = .fieldAddr s x f) (hd : ∀ d, o.dst = some d → d < n) {E' : Env} {u : Unit}
    (hr : (opP C m st0 o).run E = some (u, E')) : Res C.P o tm w (Goal g n E' (more U st0) w) := by
  simp only [opP, ho] at hr
  obtain ⟨⟨off, ft⟩, E1, e1, hr1⟩ := run_bind_some hr
  obtain ⟨hf, rfl⟩ := run_opt_some' e1
  obtain ⟨u1, E2, e2, hr2⟩ := run_bind_some hr1
  obtain ⟨hz, rfl⟩ := run_need_some e2
  obtain ⟨b, E3, e3, hr3⟩ := run_bind_some hr2
  obtain ⟨rfl, rb, sb, nb⟩ := ev_ok S e3
  obtain ⟨q, E4, e4, hr4⟩ := run_bind_some hr3
  obtain ⟨rfl, hq⟩ := asPtr_ok S sb rb e4
  simp only at hf hz
  obtain ⟨fs, fx, hu, hfx, hoff, hty⟩ := fieldT_run hf
  have hz2 : ∃ k, sizeT C.P ft = some k ∧ 0 < k := by
    cases hs : sizeT C.P ft with
    | none => simp [hs] at hz
    | some k => exact ⟨k, rfl, by simpa [hs] using hz⟩
  obtain ⟨k, hk, hk0⟩ := hz2
  have hrun : ∀ a, evc tm x = .pointer (some a) → (execOp (evc tm) o).run C.P w = .ok (.value (.pointer (some (a.add off)))) w := by
    intro a ha
    subst hoff hty
    simp [execOp, ho, Instr.fieldAt, underlying, hu, hfx, Instr.sureAddr, ha, fieldPlace, sizeOf_run hk, Nat.ne_of_gt hk0]
  cases q with
  | c y j =>
    simp only at hr4
    obtain ⟨u2, E5, e5, hr5⟩ := run_bind_some hr4
    obtain ⟨hle, rfl⟩ := run_need_some e5
    simp only [decide_eq_true_eq] at hle
    obtain ⟨a, ha, hrel⟩ := cptr_add hq hle
    exact .value (hrun a ha) ⟨.refl w, fin_val S hd hr5 hrel⟩
  | r sl st ct p i j =>
    simp only at hr4
    obtain ⟨us, uc, hval⟩ : U st ∧ U ct ∧ Valid E w.heap tm sl st ct p (ptrOf i j (evc tm x)) := hq
    obtain ⟨nd, E5, e5, hr5⟩ := run_bind_some hr4
    obtain ⟨hnd, rfl⟩ := run_rdAt_some e5
    obtain ⟨a, ha⟩ := ptr_live S hval hnd
    exact .value (hrun a ha) ⟨.refl w, fin_ref S hd hr5 ⟨us, uc⟩ (by intro; simp) ⟨rfl, ptr_add hval ha⟩⟩

end

end Go.Lm
