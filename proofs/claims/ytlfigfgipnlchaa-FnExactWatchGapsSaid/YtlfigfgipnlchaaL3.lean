/- The cuts and the whole machine, sound. One unfolding keeps soundness; the machine's limit, and its unfolding. The machine's limit, and its unfolding. A sort of the library's, known by its contract, as a function of the abstract machine. A function of the library's that hands back the head of the slice that it was lent, known by its contract, as a function of the abstract machine. The machine's run in continuation form, for evaluation by rewriting: where a run waits for a fact it stands still at 'br', 'nd', 'bo'. Evaluation by rewriting: bodies, operations, calls. Evaluation by rewriting: operations. Evaluation by rewriting: each kind of operation; calls. Evaluation by rewriting: indexes, slices, appends, calls, results. Evaluation by rewriting: appends, conversions, calls, closures, results. Evaluation by rewriting: small words. The rules of evaluation once more, with continuations that rewriting does not enter (written by tools/seal.py). Evaluation by rewriting: texts as lists of bytes. -/
import Derived.Test.YtlfigfgipnlchaaL2
import Derived.Sort.Grow
import Derived.Attr
import Derived.IntWalk

namespace Go.Lm
open Prg

section
variable {C : Ctx} {m : Sem_} {f : FuncId} {fn : Func} {g : Gh} {w0 : World} {cargs : List Value} {b : Frame} {cs : List Frame}

theorem findC_some {c : Code} {k : List Item} {id : Nat} {ops : Array Oper} {draw : Bool} {k' : List Item} (h : At c k id ops draw k') : ∀ (kk : Kont) (x : Nat → Kont), (findC C m f id c kk x).isSome = true := by
  induction h with
  | region => intro kk x; simp [findC]
  | seqL _ _ _ _ _ _ _ _ ih => intro kk x; simp [findC, Option.isSome_or, ih]
  | seqR _ _ _ _ _ _ _ _ ih => intro kk x; simp [findC, Option.isSome_or, ih]
  | condL _ _ _ _ _ _ _ _ _ ih => intro kk x; simp [findC, Option.isSome_or, ih]
  | condR _ _ _ _ _ _ _ _ _ ih => intro kk x; simp [findC, Option.isSome_or, ih]
  | block _ _ _ _ _ _ _ _ ih => intro kk x; simp [findC, ih]
  | loop _ _ _ _ _ _ _ ih => intro kk x; simp [findC, ih]

theorem findC_mem {id : Nat} : ∀ (c : Code) (kk : Kont) (x : Nat → Kont) {kont : Kont}, findC C m f id c kk x = some kont → id ∈ ids c
  | .region id' ops draw, kk, x, kont, h => by
    simp only [findC] at h
    split at h
    · rename_i e; simp [ids, e]
    · simp at h
  | .seq a c, kk, x, kont, h => by
    simp only [findC, Option.or_eq_some_iff] at h
    simp only [ids, List.mem_append]
    rcases h with h | ⟨_, h⟩
    · exact .inl (findC_mem a _ _ h)
    · exact .inr (findC_mem c _ _ h)
  | .cond _ a c, kk, x, kont, h => by
    simp only [findC, Option.or_eq_some_iff] at h
    simp only [ids, List.mem_append]
    rcases h with h | ⟨_, h⟩
    · exact .inl (findC_mem a _ _ h)
    · exact .inr (findC_mem c _ _ h)
  | .block _ c, kk, x, kont, h => by simp only [findC] at h; exact findC_mem c _ _ h
  | .loop c, kk, x, kont, h => by simp only [findC] at h; exact findC_mem c _ _ h
  | .skip, _, _, _, h => by simp [findC] at h
  | .exit _, _, _, _, h => by simp [findC] at h
  | .ret, _, _, _, h => by simp [findC] at h
  | .label _, _, _, _, h => by simp [findC] at h
  | .goto _, _, _, _, h => by simp [findC] at h
  | .scope _, _, _, _, h => by simp [findC] at h
  | .refuse _, _, _, _, h => by simp [findC] at h
  | .rangeFunc _ _ _ _, _, _, _, h => by simp [findC] at h

theorem or_left {α : Type} {a b : Option α} (h : a.isSome = true) : a.or b = a := by
  cases a
  · simp at h
  · rfl

theorem findC_good (hm : FnSound C m) (hmix : C.P.follows .mixedOrders = true) (hfn : C.P.funcs[f]? = some fn) (hml : (C.mt f).length ≤ cargs.length) {body : Code} (hc : CutOk C m f fn body g w0 cargs b cs)
    {c : Code} {k : List Item} {id : Nat} {ops : Array Oper} {draw : Bool} {k' : List Item} (hat : At c k id ops draw k') : ∀ (kk : Kont) (x : Nat → Kont), okC fn.ntmps (C.mt f) c = true → (ids c).Nodup → Within body c k →
      Good C f fn g w0 cargs b cs kk k → GoodX C f fn g w0 cargs b cs x k → ∀ {kont : Kont}, findC C m f id c kk x = some kont → Good C f fn g w0 cargs b cs kont (.code (.region id ops draw) :: k') := by
  induction hat with
  | region id ops draw k =>
    intro kk x ho hn hin hk hx kont h
    simp only [findC, if_true, Option.some.injEq] at h
    subst h
    exact region_good hm hmix ho hk
  | seqL a c k id ops draw k' h ih =>
    intro kk x ho hn hin hk hx kont hf
    simp only [okC, Bool.and_eq_true] at ho
    simp only [ids, List.nodup_append] at hn
    simp only [findC] at hf
    rw [or_left (findC_some h _ _)] at hf
    have h2 := runC_ok hm hmix hfn hml hc c k kk x ho.2 (fun _ _ _ _ h => hin _ _ _ _ (.seqR _ _ _ _ _ _ _ h)) hk hx
    exact ih _ _ ho.1 hn.1 (fun _ _ _ _ h => hin _ _ _ _ (.seqL _ _ _ _ _ _ _ h)) h2 hx hf
  | seqR a c k id ops draw k' h ih =>
    intro kk x ho hn hin hk hx kont hf
    simp only [okC, Bool.and_eq_true] at ho
    simp only [ids, List.nodup_append] at hn
    simp only [findC, Option.or_eq_some_iff] at hf
    rcases hf with hf | ⟨_, hf⟩
    · exact absurd rfl (hn.2.2 id (findC_mem a _ _ hf) id h.mem)
    · exact ih _ _ ho.2 hn.2.1 (fun _ _ _ _ h => hin _ _ _ _ (.seqR _ _ _ _ _ _ _ h)) hk hx hf
  | condL o a c k id ops draw k' h ih =>
    intro kk x ho hn hin hk hx kont hf
    simp only [okC, Bool.and_eq_true] at ho
    simp only [ids, List.nodup_append] at hn
    simp only [findC] at hf
    rw [or_left (findC_some h _ _)] at hf
    exact ih _ _ ho.1 hn.1 (fun _ _ _ _ h => hin _ _ _ _ (.condL _ _ _ _ _ _ _ _ h)) hk hx hf
  | condR o a c k id ops draw k' h ih =>
    intro kk x ho hn hin hk hx kont hf
    simp only [okC, Bool.and_eq_true] at ho
    simp only [ids, List.nodup_append] at hn
    simp only [findC, Option.or_eq_some_iff] at hf
    rcases hf with hf | ⟨_, hf⟩
    · exact absurd rfl (hn.2.2 id (findC_mem a _ _ hf) id h.mem)
    · exact ih _ _ ho.2 hn.2.1 (fun _ _ _ _ h => hin _ _ _ _ (.condR _ _ _ _ _ _ _ _ h)) hk hx hf
  | block j c k id ops draw k' h ih =>
    intro kk x ho hn hin hk hx kont hf
    simp only [okC] at ho
    simp only [ids] at hn
    simp only [findC] at hf
    refine ih _ _ ho hn (fun _ _ _ _ h => hin _ _ _ _ (.block _ _ _ _ _ _ _ h)) (hk.step fun a w => .one step_inBlock) ?_ hf
    intro i
    by_cases hi : i = j
    · subst hi
      exact .inr ⟨k, by simp [exitTo_inBlock], by simpa using hk⟩
    · rcases hx i with h | ⟨k', h1, h2⟩
      · exact .inl (by simpa [hi] using h)
      · exact .inr ⟨k', by simp [exitTo_inBlock, hi, h1], by simpa [hi] using h2⟩
  | loop c k id ops draw k' h ih =>
    intro kk x ho hn hin hk hx kont hf
    simp only [okC] at ho
    simp only [ids] at hn
    simp only [findC] at hf
    exact ih _ _ ho hn (fun _ _ _ _ h => hin _ _ _ _ (.loop _ _ _ _ _ _ h)) ((loop_good hc hin _ _).step fun a w => .one step_inLoop) hx hf

/-! What lives behind a cut. -/

def From (E : Env) (s : Nat) (b0 : Bd) : Prop :=
  b0 = .val .any ∨ (∃ v, b0 = .val v ∧ E s = .val v) ∨ (∃ v, b0 = .own s s v ∧ ((∃ st ct, E s = .own st ct v) ∨ (E s = .val v ∧ v ≠ .any))) ∨ (∃ d st ct ct' v, b0 = .rv d d d [] ∧ E s = .rv d st ct [] ∧ E d = .own st ct' v)

theorem live_ok {E : Env} : ∀ (lv : List (Nat × Lk)) {vals : List V} {E0 : Env}, liveOut E lv = some vals → liveIn lv vals = some E0 → ∀ s, From E s (E0 s)
  | [], vals, E0, h1, h2, s => by
    simp only [liveOut, Option.some.injEq] at h1
    subst h1
    simp only [liveIn, Option.some.injEq] at h2
    subst h2
    exact .inl rfl
  | (t, .val) :: lv, vals, E0, h1, h2, s => by
    simp only [liveOut] at h1
    split at h1
    case h_2 => simp at h1
    rename_i v hv
    rw [Option.map_eq_some_iff] at h1
    obtain ⟨vs, h1, rfl⟩ := h1
    simp only [liveIn, Option.map_eq_some_iff] at h2
    obtain ⟨E1, h2, rfl⟩ := h2
    simp only [upd]
    split
    · rename_i e; subst e; exact .inr (.inl ⟨v, rfl, hv⟩)
    · exact live_ok lv h1 h2 s
  | (t, .own) :: lv, vals, E0, h1, h2, s => by
    simp only [liveOut] at h1
    split at h1
    case h_2 => simp at h1
    case h_4 => simp at h1
    · rename_i st ct v hv
      rw [Option.map_eq_some_iff] at h1
      obtain ⟨vs, h1, rfl⟩ := h1
      simp only [liveIn, Option.map_eq_some_iff] at h2
      obtain ⟨E1, h2, rfl⟩ := h2
      simp only [upd]
      split
      · rename_i e; subst e; exact .inr (.inr (.inl ⟨v, rfl, .inl ⟨st, ct, hv⟩⟩))
      · exact live_ok lv h1 h2 s
    · rename_i v hne hv
      rw [Option.map_eq_some_iff] at h1
      obtain ⟨vs, h1, rfl⟩ := h1
      simp only [liveIn, Option.map_eq_some_iff] at h2
      obtain ⟨E1, h2, rfl⟩ := h2
      simp only [upd]
      split
      · rename_i e; subst e; exact .inr (.inr (.inl ⟨v, rfl, .inr ⟨hv, fun e => by subst e; exact hne rfl⟩⟩))
      · exact live_ok lv h1 h2 s
  | (t, .ref d) :: lv, vals, E0, h1, h2, s => by
    simp only [liveOut] at h1
    split at h1
    case h_2 => simp at h1
    rename_i d' st ct st' ct' v hv hd
    split at h1
    case isFalse => simp at h1
    rename_i hc
    obtain ⟨rfl, rfl⟩ := hc
    simp only [liveIn, Option.map_eq_some_iff] at h2
    obtain ⟨E1, h2, rfl⟩ := h2
    simp only [upd]
    split
    · rename_i e; subst e; exact .inr (.inr (.inr ⟨d', st, ct, ct', v, rfl, hv, hd⟩))
    · exact live_ok lv h1 h2 s

theorem SH.live {n : Nat} {E E0 : Env} {U : Nat → Prop} {tm : Array Value} {h : Heap} {I : Nat → Prop} {fp : Nat → List Nat} (S : SH g n E U tm h I fp []) (hl : ∀ s, From E s (E0 s)) :
    ∃ fp', SH g n E0 (fun x => x < n) tm h I fp' [] := by
  classical
  let fp' : Nat → List Nat := fun s => if ∃ st ct v, E0 s = .own st ct v then fp s else []
  have hfp : ∀ s r, r ∈ fp' s → r ∈ fp s := by
    intro s r hr
    simp only [fp'] at hr
    split at hr
    · exact hr
    · simp at hr
  have hno : ∀ s, (∀ st ct v, E0 s ≠ .own st ct v) → fp' s = [] := by
    intro s h
    simp only [fp']
    rw [if_neg]
    rintro ⟨st, ct, v, e⟩
    exact h st ct v e
  have hout : ∀ s, n ≤ s → E0 s = .val .any := by
    intro s hs
    have he := S.out s hs
    rcases hl s with h | ⟨v, h1, h2⟩ | ⟨v, h1, h2⟩ | ⟨d, st, ct, ct', v, h1, h2, h3⟩
    · exact h
    · rw [he] at h2; simp only [Bd.val.injEq] at h2; rw [h1, ← h2]
    · rcases h2 with ⟨st, ct, h2⟩ | ⟨h2, h3⟩
      · rw [he] at h2; simp at h2
      · rw [he] at h2; simp only [Bd.val.injEq] at h2; exact absurd h2.symm h3
    · rw [he] at h2; simp at h2
  refine ⟨fp', ?_⟩
  refine { size := S.size, slot := ?_, stamp := ?_, far := ?_, out := hout, disj := ?_, nodup := ?_, notI := fun s r hr => S.notI s r (hfp s r hr), lt := fun s r hr => S.lt s r (hfp s r hr), base := fun s r hr => S.base s r (hfp s r hr),
           hnodup := by simp, hnotI := by simp, hdisj := by simp, hlt := by simp, hbase := by simp, ilt := S.ilt, i0 := S.i0, ibase := S.ibase, grow := S.grow, frame := S.frame }
  · intro s hs
    have hr := S.slot s hs
    rcases hl s with h | ⟨v, h1, h2⟩ | ⟨v, h1, h2⟩ | ⟨d, st, ct, ct', v, h1, h2, h3⟩
    · rw [h, hno s (by rw [h]; intros; simp)]; exact ⟨rfl, .any _⟩
    · rw [h1, hno s (by rw [h1]; intros; simp)]; rw [h2] at hr; exact ⟨rfl, hr.2⟩
    · rw [h1]
      have : fp' s = fp s := by simp only [fp']; rw [if_pos ⟨_, _, _, h1⟩]
      rw [this]
      rcases h2 with ⟨st, ct, h2⟩ | ⟨h2, _⟩
      · rw [h2] at hr; exact hr
      · rw [h2] at hr
        rw [hr.1]; exact hr.2
    · rw [h1, hno s (by rw [h1]; intros; simp)]
      rw [h2] at hr
      refine ⟨rfl, ?_⟩
      have hcc := hr.2 ct' v v (tmf tm d) h3 (.inl rfl) rfl (.inl rfl) rfl
      intro ct1 v1 x cn k1 k2 k3 k4 k5
      simp only [walkC, Option.some.injEq] at k5
      rw [← k5]; exact hcc
  · intro s hs
    rcases hl s with h | ⟨v, h1, h2⟩ | ⟨v, h1, h2⟩ | ⟨d, st, ct, ct', v, h1, h2, h3⟩
    · rw [h]; trivial
    · rw [h1]; trivial
    · rw [h1]; exact ⟨hs, hs⟩
    · rw [h1]; exact ⟨S.lt_of_own h3, S.lt_of_own h3⟩
  · intro s hs
    exact hno s (by rw [hout s hs]; intros; simp)
  · exact fun s t hst r h1 h2 => S.disj s t hst r (hfp s r h1) (hfp t r h2)
  · intro s
    simp only [fp']
    split
    · exact S.nodup s
    · simp

/-! A call's start. -/

theorem RelArgs.length {h : Heap} {I : Nat → Prop} {mt : List Bool} {vals : List V} {cs : List Value} {bs : List Nat} (hr : RelArgs h I mt vals cs bs) : vals.length = cs.length := by
  induction hr <;> simp_all

theorem params_ok {h : Heap} {I : Nat → Prop} {tm : Array Value} {mt : List Bool} {vals : List V} {cs : List Value} {bs : List Nat} (hr : RelArgs h I mt vals cs bs) : ∀ (i : Nat), (∀ j, j < cs.length → tmf tm (i + j) = cs.getD j undef) → bs.Nodup →
    ∃ fp : Nat → List Nat, (∀ E s, RelB E h tm I (fp s) (params mt i vals s) (tmf tm s)) ∧ (∀ s, s < i ∨ i + cs.length ≤ s → fp s = [] ∧ params mt i vals s = .val .any) ∧ (∀ s r, r ∈ fp s → r ∈ bs) ∧
      (∀ s t, s ≠ t → ∀ r ∈ fp s, r ∉ fp t) ∧ (∀ s, (fp s).Nodup) ∧ (∀ s st ct v, params mt i vals s = .own st ct v → st = s ∧ ct = s) ∧ ∀ s, (params mt i vals s).noRef := by
  induction hr with
  | nil mt =>
    intro i _ _
    exact ⟨fun _ => [], fun E s => ⟨rfl, .any _⟩, fun s _ => ⟨rfl, rfl⟩, by simp, by simp, by simp, by simp [params], fun _ => trivial⟩
  | lent mt v vs c cs b1 b2 hw hv hr ih =>
    intro i htm hn
    rw [List.nodup_append] at hn
    obtain ⟨n1, n2, n12⟩ := hn
    obtain ⟨fp, r1, r2, r3, r4, r5, r6, r7⟩ := ih (i + 1) (fun j hj => by
      have := htm (j + 1) (by simp; omega)
      rw [Nat.add_assoc, Nat.add_comm 1 j]; simpa using this) n2
    have hfi : fp i = [] := (r2 i (.inl (by omega))).1
    have hc : tmf tm i = c := by simpa using htm 0 (by simp)
    refine ⟨fun s => if s = i then b1 else fp s, ?_, ?_, ?_, ?_, ?_, ?_, ?_⟩
    · intro E s
      simp only [params, upd, hw, if_true]
      split
      · rename_i e; subst e; rw [hc]; exact hv
      · exact r1 E s
    · intro s hs
      simp only [List.length_cons] at hs
      have hne : s ≠ i := by omega
      simp only [params, upd, if_neg hne]
      exact r2 s (by omega)
    · intro s r h
      dsimp only at h
      split at h
      · exact List.mem_append.2 (.inl h)
      · exact List.mem_append.2 (.inr (r3 s r h))
    · intro s t hst r h1 h2
      dsimp only at h1 h2
      split at h1 <;> split at h2
      · omega
      · exact n12 r h1 r (r3 t r h2) rfl
      · exact n12 r h2 r (r3 s r h1) rfl
      · exact r4 s t hst r h1 h2
    · intro s; dsimp only; split
      · exact n1
      · exact r5 s
    · intro s st ct v' h
      simp only [params, upd, hw, if_true] at h
      split at h
      · rename_i e
        simp only [Bd.own.injEq] at h
        exact ⟨by rw [← h.1, e], by rw [← h.2.1, e]⟩
      · exact r6 s st ct v' h
    · intro s
      simp only [params, upd, hw, if_true]
      split
      · trivial
      · exact r7 s
  | read mt v vs c cs b2 hw hv hr ih =>
    intro i htm hn
    obtain ⟨fp, r1, r2, r3, r4, r5, r6, r7⟩ := ih (i + 1) (fun j hj => by
      have := htm (j + 1) (by simp; omega)
      rw [Nat.add_assoc, Nat.add_comm 1 j]; simpa using this) hn
    have hfi : fp i = [] := (r2 i (.inl (by omega))).1
    have hc : tmf tm i = c := by simpa using htm 0 (by simp)
    refine ⟨fp, ?_, ?_, r3, r4, r5, ?_, ?_⟩
    · intro E s
      simp only [params, upd, hw, Bool.false_eq_true, if_false]
      split
      · rename_i e; subst e; rw [hc, hfi]; exact ⟨rfl, hv⟩
      · exact r1 E s
    · intro s hs
      simp only [List.length_cons] at hs
      have hne : s ≠ i := by omega
      simp only [params, upd, if_neg hne]
      exact r2 s (by omega)
    · intro s st ct v' h
      simp only [params, upd, hw, Bool.false_eq_true, if_false] at h
      split at h
      · simp at h
      · exact r6 s st ct v' h
    · intro s
      simp only [params, upd, hw, Bool.false_eq_true, if_false]
      split
      · trivial
      · exact r7 s
end

end Go.Lm

namespace Go.Lm
open Prg

def okF (C : Ctx) (f : FuncId) (fn : Func) (c : Code) : Bool :=
  okC fn.ntmps (C.mt f) c && decide (fn.ntmps ≤ 100000) && ((C.cuts f).isEmpty || decide (ids c).Nodup)

structure OkP (C : Ctx) : Prop where
  mix : C.P.follows .mixedOrders = true
  fns : ∀ f fn c, C.P.funcs[f]? = some fn → fn.body = some c → okF C f fn c = true
  ext : ∀ f vals outs, C.ext f vals = some outs → FnOk C f vals outs

def okFs (C : Ctx) : Nat → List Func → Bool
  | _, [] => true
  | i, fn :: r => (match fn.body with | some c => okF C i fn c | none => true) && okFs C (i + 1) r

theorem okFs_get {C : Ctx} : ∀ (l : List Func) (i : Nat), okFs C i l = true → ∀ j fn c, l[j]? = some fn → fn.body = some c → okF C (i + j) fn c = true
  | [], _, _, j, fn, c, h, _ => by simp at h
  | fn0 :: l, i, h, 0, fn, c, hj, hb => by
    simp only [okFs, Bool.and_eq_true] at h
    simp only [List.getElem?_cons_zero, Option.some.injEq] at hj
    subst hj
    have := h.1
    rw [hb] at this
    exact this
  | fn0 :: l, i, h, j + 1, fn, c, hj, hb => by
    simp only [okFs, Bool.and_eq_true] at h
    have := okFs_get l (i + 1) h.2 j fn c (by simpa using hj) hb
    rw [show i + (j + 1) = i + 1 + j by omega]; exact this

theorem OkP.of {C : Ctx} (hmix : C.P.follows .mixedOrders = true) (h : okFs C 0 C.P.funcs.toList = true) (hext : ∀ f vals outs, C.ext f vals = some outs → FnOk C f vals outs) : OkP C :=
  ⟨hmix, fun f fn c h1 h2 => by simpa using okFs_get _ 0 h f fn c (by simpa using h1) h2, hext⟩

structure Sound (C : Ctx) (m : Sem_) : Prop where
  fns : FnSound C m
  cuts : ∀ f fn body g w0 cargs b cs, C.P.funcs[f]? = some fn → fn.body = some body → (C.mt f).length ≤ cargs.length → CutOk C m f fn body g w0 cargs b cs

section
variable {C : Ctx} {m : Sem_}

theorem step_cuts (hC : OkP C) (hm : Sound C m) (f : FuncId) (fn : Func) (body : Code) (g : Gh) (w0 : World) (cargs : List Value) (b : Frame) (cs : List Frame) (hfn : C.P.funcs[f]? = some fn) (hb : fn.body = some body)
    (hml : (C.mt f).length ≤ cargs.length) : CutOk C (step C m) f fn body g w0 cargs b cs := by
  intro id lv ops draw k' hlv hat clk E outs tm w U I fp he S hU hq hkept
  have hok := hC.fns f fn body hfn hb
  simp only [okF, Bool.and_eq_true, decide_eq_true_eq, Bool.or_eq_true] at hok
  obtain ⟨⟨ho, hn⟩, hids⟩ := hok
  have hnd : (ids body).Nodup := by
    rcases hids with h | h
    · rw [List.isEmpty_iff] at h; rw [h] at hlv; simp at hlv
    · exact h
  simp only [cut, Option.bind_eq_some_iff] at he
  obtain ⟨vals, hlo, he⟩ := he
  simp only [step, hfn, hb, hlv, Option.bind_some, Option.bind_eq_some_iff] at he
  obtain ⟨E0, hli, kont, hf, he⟩ := he
  obtain ⟨fp', S0⟩ := S.live (live_ok lv hlo hli)
  have hc := hm.cuts f fn body g w0 cargs b cs hfn hb hml
  refine findC_good hm.fns hC.mix hfn hml hc hat _ _ ho hnd (fun _ _ _ _ h => h) ?_ (fun i => .inl fun _ _ => rfl) hf 100000 E0 outs tm w _ I fp' he S0 (fun x hx => by omega) hq hkept
  intro clk E outs tm w U I fp he S hU hq hkept
  exact ⟨tm, w, [], .one step_end, fin_ok S hfn hq hml hkept he⟩

theorem step_fns (hC : OkP C) (hm : Sound C m) : FnSound C (step C m) := by
  intro f vals outs h fn w I cargs bs hfn hargs hbn hbI hIlt
  simp only [step, hfn, Option.bind_some, Option.bind_eq_some_iff] at h
  obtain ⟨body, hb, h⟩ := h
  split at h
  case isFalse => simp at h
  rename_i hlen
  obtain ⟨hml, hnt⟩ := hlen
  have hok := hC.fns f fn body hfn hb
  simp only [okF, Bool.and_eq_true, decide_eq_true_eq] at hok
  obtain ⟨⟨ho, hn⟩, _⟩ := hok
  have hcl := hargs.length
  let tm : Array Value := cargs.toArray ++ Array.replicate (fn.ntmps - cargs.toArray.size) undef
  have hsz : tm.size = fn.ntmps := by simp [tm]; omega
  have htm : ∀ j, j < cargs.length → tmf tm j = cargs.getD j undef := by
    intro j hj
    simp only [tmf, tm, Array.getD_eq_getD_getElem?, List.getD_eq_getElem?_getD]
    rw [Array.getElem?_append_left (by simpa using hj)]
    simp
  let g : Gh := ⟨w.heap, I, bs⟩
  obtain ⟨fp, r1, r2, r3, r4, r5, r6, r7⟩ := params_ok (tm := tm) hargs 0 (by simpa using htm) hbn
  have S : SH g fn.ntmps (params (C.mt f) 0 vals) (fun x => x < fn.ntmps) tm w.heap I fp [] := by
    refine { size := hsz, slot := fun s _ => r1 _ s, stamp := ?_, far := fun s hs => (r2 s (.inr (by omega))).1, out := fun s hs => (r2 s (.inr (by omega))).2, disj := r4, nodup := r5, notI := fun s r hr => hbI r (r3 s r hr), lt := fun s r hr => hargs.lt r (r3 s r hr),
             base := fun s r hr => .inl (r3 s r hr), hnodup := by simp, hnotI := by simp, hdisj := by simp, hlt := by simp, hbase := by simp, ilt := hIlt, i0 := fun _ h => h, ibase := fun _ h => .inl h, grow := Nat.le_refl _, frame := fun _ _ _ => rfl }
    intro s hs
    have h6 := r6 s
    have h7 := r7 s
    cases hp : params (C.mt f) 0 vals s with
    | val => trivial
    | own st ct v =>
      obtain ⟨rfl, rfl⟩ := h6 st ct v hp
      exact ⟨hs, hs⟩
    | rv | rs | rp | clo => rw [hp] at h7; exact h7.elim
  intro cs
  let b : Frame := { (default : Frame) with fn := f, kind := .normal }
  have henter : Frame.enter C.P f cargs.toArray .normal = b.at ⟨tm, []⟩ [.code body] := by
    simp [Frame.enter, Frame.at, hfn, hb, b, tm]
  have hc := hm.cuts f fn body g w cargs b cs hfn hb (by omega)
  have hgood := runC_ok hm.fns hC.mix hfn (by omega) hc body [] (fun _ E => fin C f E) (fun _ _ _ => none) ho (fun _ _ _ _ h => h)
    (fun clk E outs tm w U I fp he S hU hq hkept => ⟨tm, w, [], .one step_end, fin_ok S hfn hq (by omega) hkept he⟩) (fun i => .inl fun _ _ => rfl)
  obtain ⟨tm', w', todo, hs, v, I', b1, b2, d1, d2, d3, d4, d5, d6, d7, d8, d9, d10, d11⟩ := hgood 100000 _ outs tm w _ I fp h S (fun x hx => by omega) (.refl w) (by
    intro j hj
    have : j < (C.mt f).length := by
      rcases Nat.lt_or_ge j (C.mt f).length with h | h
      · exact h
      · rw [List.getD_eq_getElem?_getD, List.getElem?_eq_none h] at hj; simp at hj
    exact htm j (by omega))
  rw [← henter] at hs
  exact ⟨.returned v, w', _, ⟨v, I', b1, b2, rfl, d2, d3, d4, d5, d6, d7, d8, d9, d10, d11⟩, hs, rfl, rfl, rfl, rfl, fn, hfn, d1⟩

theorem iter_sound (hC : OkP C) : ∀ n, Sound C (iter C n)
  | 0 => ⟨fun f vals outs h => by simp [iter] at h, fun f fn body g w0 cargs b cs _ _ _ id lv ops draw k' _ _ clk E outs tm w U I fp he => by
      simp only [cut, iter, Option.bind_eq_some_iff] at he
      obtain ⟨_, _, h⟩ := he
      simp at h⟩
  | n + 1 => by
    refine ⟨fun f vals outs h => ?_, fun f fn body g w0 cargs b cs h1 h2 h3 => step_cuts hC (iter_sound hC n) f fn body g w0 cargs b cs h1 h2 h3⟩
    have h' : (C.ext f vals).or (step C (iter C n) (.func f) vals) = some outs := h
    rw [Option.or_eq_some_iff] at h'
    rcases h' with h' | ⟨_, h'⟩
    · exact hC.ext f vals outs h'
    · exact step_fns hC (iter_sound hC n) f vals outs h'
end

end Go.Lm

namespace Go.Lm
open Prg

section
variable {C : Ctx} {M : Sem_}

/-- What 'M' says, the iterates say from some point on. -/
def Lim (C : Ctx) (M : Sem_) : Prop := ∀ key vals r, M key vals = some r → ∃ N, ∀ n, N ≤ n → iter C n key vals = some r

def ContP {α : Type} (C : Ctx) (M : Sem_) (p : Sem_ → Prg α) : Prop :=
  ∀ E r, (p M).run E = some r → ∃ N, ∀ n, N ≤ n → (p (iter C n)).run E = some r ∧ (p (iter C n)).foot E = (p M).foot E

theorem foot_bind {α β : Type} (f : α → Prg β) : ∀ (p : Prg α) (E : Env) {a : α} {E1 : Env}, p.run E = some (a, E1) →
    (p >>= f).foot E = ((p.foot E).1 ||| ((f a).foot E1).1, (p.foot E).2 ||| ((f a).foot E1).2)
  | .ret _, E, a, E1, h => by
    simp only [Prg.run, Option.some.injEq, Prod.mk.injEq] at h
    obtain ⟨rfl, rfl⟩ := h
    show (f _).foot _ = _
    simp [Prg.foot]
  | .fail, E, a, E1, h => by simp [Prg.run] at h
  | .get s k, E, a, E1, h => by
    have ih := foot_bind f (k (E s)) E h
    show (let (r, w) := (k (E s) >>= f).foot E; (r ||| 1 <<< s, w)) = _
    rw [ih]
    simp only [Prg.foot]
    congr 1
    rw [Nat.or_assoc, Nat.or_assoc, Nat.or_comm _ (1 <<< s)]
  | .set s b k, E, a, E1, h => by
    have ih := foot_bind f k (upd E s b) h
    show (let (r, w) := (k >>= f).foot (upd E s b); (r, w ||| 1 <<< s)) = _
    rw [ih]
    simp only [Prg.foot]
    congr 1
    rw [Nat.or_assoc, Nat.or_assoc, Nat.or_comm _ (1 <<< s)]

theorem ContP.const {α : Type} (p : Prg α) : ContP C M fun _ => p := fun _ _ h => ⟨0, fun _ _ => ⟨h, rfl⟩⟩

theorem ContP.bind {α β : Type} {p : Sem_ → Prg α} {f : Sem_ → α → Prg β} (hp : ContP C M p) (hf : ∀ a, ContP C M fun m => f m a) : ContP C M fun m => p m >>= f m := by
  intro E r h
  obtain ⟨a, E1, h1, h2⟩ := run_bind_some h
  obtain ⟨N1, k1⟩ := hp E _ h1
  obtain ⟨N2, k2⟩ := hf a E1 r h2
  refine ⟨max N1 N2, fun n hn => ?_⟩
  obtain ⟨a1, a2⟩ := k1 n (by omega)
  obtain ⟨b1, b2⟩ := k2 n (by omega)
  refine ⟨by rw [run_bind, a1]; exact b1, ?_⟩
  rw [foot_bind _ _ _ a1, foot_bind _ _ _ h1, a2, b2]

theorem ContP.call (hM : Lim C M) (key : Key) (vals : List V) : ContP C M fun m => opt (m key vals) := by
  intro E r h
  obtain ⟨hr, he⟩ := run_opt_some' h
  obtain ⟨N, hN⟩ := hM key vals _ hr
  refine ⟨N, fun n hn => ?_⟩
  simp only [hN n hn, hr]
  refine ⟨?_, trivial⟩
  subst he; rfl

theorem callP_cont (hM : Lim C M) (st0 : Nat) (dst : Option Tmp) (f : FuncId) (vals : List V) (flag : Bool) (ls : List (Option (V × Place))) : ContP C M fun m => callP C m st0 dst f vals flag ls := by
  unfold callP
  refine .bind (.const _) fun fn => .bind (.const _) fun _ => .bind (.call hM _ _) fun outs => .const _

theorem calleeP_cont (hM : Lim C M) (st0 : Nat) (o : Oper) (c : Call) : ContP C M fun m => calleeP C m st0 o c := by
  unfold calleeP
  refine .bind (.const _) fun _ => ?_
  cases hc : c.callee with
  | builtin b =>
    cases b <;> exact .const _
  | value x =>
    have hv : ∀ b : Bd, ContP C M fun m => (match b with
        | .val (.fn f caps) => do
          let ls ← lendP C (C.mt f) (c.args.toList.zip c.argTypes.toList)
          let (vs, flag) ← readP C ls (c.args.toList.zip c.argTypes.toList)
          callP C m st0 o.dst f (vs ++ caps) flag ls
        | .clo f caps => do
          let ls ← lendP C (C.mt f) (c.args.toList.zip c.argTypes.toList)
          let (vs, flag) ← readP C ls (c.args.toList.zip c.argTypes.toList)
          let cs ← readCaps caps
          callP C m st0 o.dst f (vs ++ cs) (flag || !caps.isEmpty) ls
        | _ => .fail : Prg Unit) := by
      intro b
      split
      · exact .bind (.const _) fun ls => .bind (.const _) fun vf => callP_cont hM _ _ _ _ _ _
      · exact .bind (.const _) fun ls => .bind (.const _) fun vf => .bind (.const _) fun cs => callP_cont hM _ _ _ _ _ _
      · exact .const _
    cases x with
    | func f => exact .bind (.const _) fun ls => .bind (.const _) fun vf => callP_cont hM _ _ _ _ _ _
    | tmp t => exact .bind (.const _) hv
    | const v => exact .bind (.const _) hv
    | global v => exact .bind (.const _) hv
  | _ => exact .const _

theorem opP_cont (hM : Lim C M) (st0 : Nat) (o : Oper) : ContP C M fun m => opP C m st0 o := by
  cases hop : o.op with
  | call c =>
    have : (fun m => opP C m st0 o) = fun m => calleeP C m st0 o c := by funext m; simp [opP, hop]
    rw [this]; exact calleeP_cont hM _ _ _
  | makeFunc fn a b =>
    have : (fun m => opP C m st0 o) = fun _ => opP C M st0 o := by funext m; cases fn <;> simp only [opP, hop]
    rw [this]; exact .const _
  | slice t x lo hi mx =>
    have : (fun m => opP C m st0 o) = fun _ => opP C M st0 o := by funext m; cases mx <;> simp only [opP, hop]
    rw [this]; exact .const _
  | _ =>
    have : ∀ m, opP C m st0 o = opP C M st0 o := by intro m; simp only [opP, hop]
    have : (fun m => opP C m st0 o) = fun _ => opP C M st0 o := by funext m; exact this m
    rw [this]; exact .const _

theorem guardP_cont (hM : Lim C M) (ops : Array Oper) (st0 : Nat) (o : Oper) : ContP C M fun m => guardP C m ops st0 o := by
  unfold guardP
  cases hg : o.guard with
  | none => exact opP_cont hM _ _
  | some jw =>
    obtain ⟨j, want⟩ := jw
    simp only
    cases hd : (ops[j]?).bind (·.dst) with
    | none => exact .const _
    | some d =>
      refine .bind (.const _) fun b => ?_
      split
      · split
        · exact opP_cont hM _ _
        · exact .const _
      · exact .const _
      · exact .const _

theorem opsP_cont (hM : Lim C M) (ops : Array Oper) (clk : Nat) : ∀ (l : List Oper) (i : Nat) (E : Env) {E' : Env}, opsP C M ops clk i l E = some E' →
    ∃ N, ∀ n, N ≤ n → opsP C (iter C n) ops clk i l E = some E' ∧ feet C (iter C n) ops clk i l E = feet C M ops clk i l E
  | [], i, E, E', h => ⟨0, fun n _ => ⟨by simpa [opsP] using h, rfl⟩⟩
  | o :: l, i, E, E', h => by
    simp only [opsP, Option.bind_eq_some_iff] at h
    obtain ⟨⟨u, E1⟩, h1, h2⟩ := h
    obtain ⟨N1, k1⟩ := guardP_cont hM ops (clk + 16 * i) o E _ h1
    obtain ⟨N2, k2⟩ := opsP_cont hM ops clk l (i + 1) E1 h2
    refine ⟨max N1 N2, fun n hn => ?_⟩
    obtain ⟨a1, a2⟩ := k1 n (by omega)
    obtain ⟨b1, b2⟩ := k2 n (by omega)
    simp only [opsP, feet, a1, a2, h1, Option.bind_some, b1, b2]
    exact ⟨trivial, trivial⟩

theorem regionP_cont (hM : Lim C M) (ops : Array Oper) (draw : Bool) (clk : Nat) (E : Env) {E' : Env} (h : regionP C M ops draw clk E = some E') :
    ∃ N, ∀ n, N ≤ n → regionP C (iter C n) ops draw clk E = some E' := by
  unfold regionP at h ⊢
  cases draw with
  | false =>
    simp only [Bool.false_eq_true, if_false] at h ⊢
    obtain ⟨N, k⟩ := opsP_cont hM ops clk _ _ _ h
    exact ⟨N, fun n hn => (k n hn).1⟩
  | true =>
    simp only [if_true] at h ⊢
    split at h
    case isFalse => simp at h
    rename_i hap
    obtain ⟨N, k⟩ := opsP_cont hM ops clk _ _ _ h
    exact ⟨N, fun n hn => by rw [(k n hn).2, if_pos hap]; exact (k n hn).1⟩

def ContK (C : Ctx) (M : Sem_) (k : Sem_ → Kont) : Prop := ∀ clk E r, k M clk E = some r → ∃ N, ∀ n, N ≤ n → k (iter C n) clk E = some r

theorem cut_cont (hM : Lim C M) (f : FuncId) (id : Nat) (lv : List (Nat × Lk)) : ContK C M fun m _ E => cut m f id lv E := by
  intro clk E r h
  simp only [cut, Option.bind_eq_some_iff] at h
  obtain ⟨vs, h1, h2⟩ := h
  obtain ⟨N, k⟩ := hM _ _ _ h2
  exact ⟨N, fun n hn => by simp [cut, h1, k n hn]⟩

theorem region_cont (hM : Lim C M) (ops : Array Oper) (draw : Bool) {k : Sem_ → Kont} (hk : ContK C M k) : ContK C M fun m clk E => (regionP C m ops draw clk E).bind fun E' => k m (clk + 16 * ops.size) E' := by
  intro clk E r h
  rw [Option.bind_eq_some_iff] at h
  obtain ⟨E', h1, h2⟩ := h
  obtain ⟨N1, k1⟩ := regionP_cont hM ops draw clk E h1
  obtain ⟨N2, k2⟩ := hk _ _ _ h2
  exact ⟨max N1 N2, fun n hn => by simp only [k1 n (by omega), Option.bind_some]; exact k2 n (by omega)⟩

theorem runC_cont (hM : Lim C M) (f : FuncId) : ∀ (c : Code) (k : Sem_ → Kont) (x : Sem_ → Nat → Kont), ContK C M k → (∀ i, ContK C M fun m => x m i) → ContK C M fun m => runC C m f c (k m) (x m)
  | .skip, k, x, hk, hx => hk
  | .region id ops draw, k, x, hk, hx => by
    intro clk E r h
    simp only [runC] at h ⊢
    cases hl : (C.cuts f).lookup id with
    | none => simp only [hl] at h ⊢; exact region_cont hM ops draw hk clk E r h
    | some lv => simp only [hl] at h ⊢; exact cut_cont hM f id lv clk E r h
  | .seq a b, k, x, hk, hx => by
    have h1 := runC_cont hM f b k x hk hx
    exact runC_cont hM f a (fun m => runC C m f b (k m) (x m)) x h1 hx
  | .cond o a b, k, x, hk, hx => by
    have h1 := runC_cont hM f a k x hk hx
    have h2 := runC_cont hM f b k x hk hx
    intro clk E r h
    simp only [runC] at h ⊢
    split at h
    · rename_i t heq
      cases t with
      | true => simpa using h1 clk E r (by simpa using h)
      | false => simpa using h2 clk E r (by simpa using h)
    · simp at h
  | .block id c, k, x, hk, hx => by
    refine runC_cont hM f c k (fun m i => if i = id then k m else x m i) hk fun i => ?_
    by_cases hi : i = id
    · simpa [hi] using hk
    · simpa [hi] using hx i
  | .loop c, k, x, hk, hx => by
    intro clk E r h
    simp only [runC] at h ⊢
    split at h
    · rename_i id hid
      split at h
      · rename_i lv hlv
        exact cut_cont hM f id lv clk E r h
      · simp at h
    · simp at h
  | .exit id, k, x, hk, hx => hx id
  | .ret, k, x, hk, hx => fun clk E r h => ⟨0, fun n _ => h⟩
  | .label _, _, _, _, _ => fun clk E r h => by simp [runC] at h
  | .goto _, _, _, _, _ => fun clk E r h => by simp [runC] at h
  | .scope _, _, _, _, _ => fun clk E r h => by simp [runC] at h
  | .refuse _, _, _, _, _ => fun clk E r h => by simp [runC] at h
  | .rangeFunc _ _ _ _, _, _, _, _ => fun clk E r h => by simp [runC] at h

def ContO (C : Ctx) (M : Sem_) (o : Sem_ → Option Kont) : Prop := (∀ m, o m = none) ∨ ∃ k : Sem_ → Kont, (∀ m, o m = some (k m)) ∧ ContK C M k

theorem ContO.or {o1 o2 : Sem_ → Option Kont} (h1 : ContO C M o1) (h2 : ContO C M o2) : ContO C M fun m => (o1 m).or (o2 m) := by
  rcases h1 with h1 | ⟨k, h1, hk⟩
  · simpa only [h1, Option.none_or] using h2
  · exact .inr ⟨k, fun m => by simp [h1 m], hk⟩

theorem findC_cont (hM : Lim C M) (f : FuncId) (id : Nat) : ∀ (c : Code) (k : Sem_ → Kont) (x : Sem_ → Nat → Kont), ContK C M k → (∀ i, ContK C M fun m => x m i) → ContO C M fun m => findC C m f id c (k m) (x m)
  | .region id' ops draw, k, x, hk, hx => by
    by_cases h : id' = id
    · exact .inr ⟨_, fun m => by simp only [findC, h, if_true], region_cont hM ops draw hk⟩
    · exact .inl fun m => by simp [findC, h]
  | .seq a b, k, x, hk, hx => .or (findC_cont hM f id a (fun m => runC C m f b (k m) (x m)) x (runC_cont hM f b k x hk hx) hx) (findC_cont hM f id b k x hk hx)
  | .cond _ a b, k, x, hk, hx => .or (findC_cont hM f id a k x hk hx) (findC_cont hM f id b k x hk hx)
  | .block j c, k, x, hk, hx => by
    refine findC_cont hM f id c k (fun m i => if i = j then k m else x m i) hk fun i => ?_
    by_cases hi : i = j
    · simpa [hi] using hk
    · simpa [hi] using hx i
  | .loop c, k, x, hk, hx => findC_cont hM f id c (fun m => runC C m f (.loop c) (fun _ _ => none) (x m)) x
      (runC_cont hM f (.loop c) (fun _ _ _ => none) x (fun _ _ _ h => by simp at h) hx) hx
  | .skip, _, _, _, _ => .inl fun _ => rfl
  | .exit _, _, _, _, _ => .inl fun _ => rfl
  | .ret, _, _, _, _ => .inl fun _ => rfl
  | .label _, _, _, _, _ => .inl fun _ => rfl
  | .goto _, _, _, _, _ => .inl fun _ => rfl
  | .scope _, _, _, _, _ => .inl fun _ => rfl
  | .refuse _, _, _, _, _ => .inl fun _ => rfl
  | .rangeFunc _ _ _ _, _, _, _, _ => .inl fun _ => rfl

theorem step_cont (hM : Lim C M) (key : Key) (vals : List V) {r : List V} (h : step C M key vals = some r) : ∃ N, ∀ n, N ≤ n → step C (iter C n) key vals = some r := by
  cases key with
  | func f =>
    simp only [step, Option.bind_eq_some_iff] at h
    obtain ⟨fn, hfn, c, hb, h⟩ := h
    split at h
    case isFalse => simp at h
    rename_i hlen
    obtain ⟨N, k⟩ := runC_cont hM f c (fun m _ E => fin C f E) (fun _ _ _ _ => none) (fun _ _ _ h => ⟨0, fun _ _ => h⟩) (fun _ _ _ _ h => by simp at h) _ _ _ h
    exact ⟨N, fun n hn => by simp only [step, hfn, hb, Option.bind_some, if_pos hlen]; exact k n hn⟩
  | at_ f id =>
    simp only [step, Option.bind_eq_some_iff] at h
    obtain ⟨fn, hfn, c, hb, lv, hlv, E, hli, kont, hf, h⟩ := h
    rcases findC_cont hM f id c (fun m _ E => fin C f E) (fun _ _ _ _ => none) (fun _ _ _ h => ⟨0, fun _ _ => h⟩) (fun _ _ _ _ h => by simp at h) with hno | ⟨k, hk, hc⟩
    · have := hno M; simp only at this; rw [hf] at this; simp at this
    · have hkM := hk M
      simp only at hkM hk
      rw [hf, Option.some.injEq] at hkM
      rw [hkM] at h
      obtain ⟨N, k'⟩ := hc _ _ _ h
      exact ⟨N, fun n hn => by simp only [step, hfn, hb, hlv, hli, hk, Option.bind_some]; exact k' n hn⟩
end

open Classical in
/-- The program's behaviour: what the iterates come to. -/
noncomputable def lim (C : Ctx) : Sem_ := fun key vals => if h : ∃ r N, ∀ n, N ≤ n → iter C n key vals = some r then some h.choose else none

theorem lim_iff {C : Ctx} {key : Key} {vals r : List V} : lim C key vals = some r ↔ ∃ N, ∀ n, N ≤ n → iter C n key vals = some r := by
  unfold lim
  constructor
  · intro h
    split at h
    · rename_i hex
      simp only [Option.some.injEq] at h
      subst h
      exact hex.choose_spec
    · simp at h
  · rintro ⟨N, hN⟩
    have hex : ∃ r N, ∀ n, N ≤ n → iter C n key vals = some r := ⟨r, N, hN⟩
    rw [dif_pos hex]
    obtain ⟨N', hN'⟩ := hex.choose_spec
    have h1 := hN (max N N') (by omega)
    have h2 := hN' (max N N') (by omega)
    rw [h1, Option.some.injEq] at h2
    rw [h2]

theorem lim_lim (C : Ctx) : Lim C (lim C) := fun _ _ _ h => lim_iff.1 h

/-- The unfolding. -/
theorem lim_of_step {C : Ctx} {key : Key} {vals r : List V} (hx : ∀ f, key = .func f → C.ext f vals = none) (h : step C (lim C) key vals = some r) : lim C key vals = some r := by
  obtain ⟨N, hN⟩ := step_cont (lim_lim C) key vals h
  refine lim_iff.2 ⟨N + 1, fun n hn => ?_⟩
  obtain ⟨k, rfl⟩ : ∃ k, n = k + 1 := ⟨n - 1, by omega⟩
  cases key with
  | func f => exact (by rw [hx f rfl, Option.none_or]; exact hN k (by omega) : (C.ext f vals).or (step C (iter C k) (.func f) vals) = some r)
  | at_ f id => exact hN k (by omega)

theorem lim_of_ext {C : Ctx} {f : FuncId} {vals r : List V} (h : C.ext f vals = some r) : lim C (.func f) vals = some r := by
  refine lim_iff.2 ⟨1, fun n hn => ?_⟩
  obtain ⟨k, rfl⟩ : ∃ k, n = k + 1 := ⟨n - 1, by omega⟩
  exact (by rw [h]; rfl : (C.ext f vals).or (step C (iter C k) (.func f) vals) = some r)

/-- What the machine says of a call, the program keeps. -/
theorem lim_sound {C : Ctx} (hC : OkP C) : FnSound C (lim C) := by
  intro f vals outs h
  obtain ⟨N, hN⟩ := lim_iff.1 h
  exact (iter_sound hC N).fns f vals outs (hN N (Nat.le_refl _))

end Go.Lm

namespace Go.Lm

section
variable {α : Type}

/-- How an element stands in a cell. -/
structure Enc (enc : α → Value) (encV : α → V) : Prop where
  rel : ∀ h I a, RelV h I (encV a) (enc a) []
  one : ∀ a, (encV a).cells = [encV a]
  cell : ∀ a, isC (enc a) = true
  inv : ∀ h I a c bs, RelV h I (encV a) c bs → c = enc a ∧ bs = []

variable {enc : α → Value} {encV : α → V}

theorem Enc.flat (E : Enc enc encV) : ∀ (zs : List α), (zs.map encV).flatMap V.cells = zs.map encV
  | [] => rfl
  | z :: zs => by simp [E.one, E.flat zs]

theorem Enc.relL (E : Enc enc encV) (h : Heap) (I : Nat → Prop) : ∀ (zs : List α), RelL h I (zs.map encV) (zs.map enc) []
  | [] => .nil
  | z :: zs => .cons _ _ [] _ _ [] (E.rel h I z) (E.relL h I zs)

theorem Enc.invL (E : Enc enc encV) {h : Heap} {I : Nat → Prop} : ∀ (zs : List α) {cs : List Value} {bs : List Nat}, RelL h I (zs.map encV) cs bs → cs = zs.map enc ∧ bs = []
  | [], _, _, hr => by cases hr; exact ⟨rfl, rfl⟩
  | z :: zs, _, _, hr => by
    cases hr with
    | cons _ c b1 _ cs b2 h1 h2 =>
    obtain ⟨rfl, rfl⟩ := E.inv _ _ _ _ _ h1
    obtain ⟨rfl, rfl⟩ := E.invL zs h2
    exact ⟨rfl, rfl⟩

theorem put_window [Inhabited α] {off : Nat} {zs : List α} {cs : Array Value} (h : off + zs.length ≤ cs.size) : ((Sort.putCells enc off zs.toArray cs).toList.drop off).take zs.length = zs.map enc := by
  apply List.ext_getElem?
  intro i
  by_cases hi : i < zs.length
  · rw [List.getElem?_take_of_lt hi, List.getElem?_drop, Array.getElem?_toList]
    simp only [Sort.putCells, Array.getElem?_mapIdx]
    rw [Array.getElem?_eq_getElem (by omega : off + i < cs.size)]
    simp only [Option.map_some, List.size_toArray]
    rw [if_pos ⟨by omega, by omega⟩, List.getElem?_map, List.getElem?_eq_getElem hi, show off + i - off = i by omega]
    simp [hi]
  · rw [List.getElem?_eq_none, List.getElem?_eq_none]
    · simp; omega
    · simp; omega

theorem sort_fnOk [Inhabited α] (E : Enc enc encV) {C : Ctx} {f : FuncId} (srt : List α → List α) (hlen : ∀ zs, (srt zs).length = zs.length) (hmt : C.mt f = [true]) (hres : ∀ fn, C.P.funcs[f]? = some fn → fn.resultTypes.size = 0)
    (hsome : ∀ (blk off cap : Nat) (zs : List α) (w : World), Sort.Holds enc w blk off zs.toArray → blk < w.heap.size → zs.length < 4611686018427387904 →
      Calls C.P f #[.slice (some ⟨blk, off, none⟩) zs.length cap] w fun e w' => e = .returned (.tuple #[]) ∧ ∃ n os, w' = Sort.grow (Sort.putRow enc (Sort.ahead w n) blk off (srt zs).toArray) os)
    (hnone : ∀ (p : Option Addr) (cap : Nat) (w : World), Calls C.P f #[.slice p 0 cap] w fun e w' => e = .returned (.tuple #[]) ∧ w' = w)
    (zs : List α) (hz : zs.length < 4611686018427387904) : FnOk C f [.sl true 1 (zs.map encV)] [.sl true 1 ((srt zs).map encV)] := by
  intro fn w I cargs bs hfn hargs hnd hbI hI
  rw [hmt] at hargs
  have hk := hres fn hfn
  cases hargs with
  | read _ _ _ c cs b2 hw => simp at hw
  | lent _ _ _ c cs b1 b2 hw hv hr =>
  cases hr with
  | nil =>
  rw [List.append_nil] at hbI hnd
  generalize hes : zs.map encV = es at hv
  have hmain : ∀ (cap : Nat) (p : Option Addr), c = .slice p 0 cap → zs = [] → b1 = [] → cap = 0 → Calls C.P f [c].toArray w fun e w' => ∃ v I' b1' b2, e = .returned v ∧ Quiet w w' ∧ w.heap.size ≤ w'.heap.size ∧ (∀ r, r < w.heap.size → r ∉ b1 ++ [] → w'.heap[r]? = w.heap[r]?) ∧
      (∀ r, I r → I' r) ∧ (∀ r, I' r → I r ∨ r ∈ b1 ++ [] ∨ w.heap.size ≤ r) ∧ (∀ r, I' r → r < w'.heap.size) ∧
      RelV w'.heap I' (packR (([V.sl true 1 ((srt zs).map encV)]).take fn.resultTypes.size)) v b1' ∧ RelL w'.heap I' (([V.sl true 1 ((srt zs).map encV)]).drop fn.resultTypes.size) (lentC (C.mt f) [c]) b2 ∧
      (b1' ++ b2).Nodup ∧ (∀ r ∈ b1' ++ b2, ¬ I' r ∧ (r ∈ b1 ++ [] ∨ w.heap.size ≤ r)) := by
    intro cap p hc hzs hb1 hcap
    subst hc hzs hb1 hcap
    refine (hnone p 0 w).mono ?_
    rintro e w' ⟨rfl, rfl⟩
    have hs : srt [] = [] := List.length_eq_zero_iff.1 (hlen [])
    refine ⟨_, I, [], [], rfl, .refl _, Nat.le_refl _, fun _ _ _ => rfl, fun _ h => h, fun _ h => .inl h, hI, ?_, ?_, by simp, by simp⟩
    · rw [hk]; exact .tup [] #[] [] .nil
    · rw [hk, hmt, hs]
      exact .cons _ _ [] _ _ [] (.slZ true 1 p) .nil
  cases hv with
  | slZ _ _ a => exact hmain 0 a rfl (by simpa using hes) rfl rfl
  | ow _ _ b off cap cs el fr bs hh hf hc hs hzz hl hcell =>
  subst hes
  rw [E.flat] at hl
  obtain ⟨hcs, rfl⟩ := E.invL zs hl
  simp only [List.length_map, Nat.mul_one] at hcs hs hc
  have hb : b < w.heap.size := by
    rcases Nat.lt_or_ge b w.heap.size with h | h
    · exact h
    · simp [Array.getElem?_eq_none h] at hh
  have hH : Sort.Holds enc w b off zs.toArray := by
    intro j hj
    simp only [List.size_toArray] at hj
    have h1 : cs[off + j]? = some (enc zs[j]) := by
      have h2 := congrArg (·[j]?) hcs
      simp only [List.getElem?_take_of_lt hj, List.getElem?_drop, List.getElem?_map, List.getElem?_eq_getElem hj, Option.map_some, Array.getElem?_toList] at h2
      exact h2
    refine ⟨?_, ?_⟩
    · rw [cell_at hh, h1]; simp [hj]
    · have hlt : off + j < cs.size := (Array.getElem?_eq_some_iff.1 h1).1
      have := hf (off + j) hlt
      simp only [World.frozen?, hh]
      exact this
  have hcall := hsome b off cap zs w hH hb hz
  simp only [List.length_map]
  refine hcall.mono ?_
  rintro e w' ⟨rfl, n, os, rfl⟩
  have hg : ∀ r, r < w.heap.size → r ≠ b → (Sort.grow (Sort.putRow enc (Sort.ahead w n) b off (srt zs).toArray) os).heap[r]? = w.heap[r]? := by
    intro r hr hrb
    rw [Sort.heap_grow_old _ _ (by simpa [Sort.ahead] using hr)]
    simp [Sort.putRow, Sort.mapBlock, Sort.ahead, Array.getElem?_modify, Ne.symm hrb]
  have hgb : (Sort.grow (Sort.putRow enc (Sort.ahead w n) b off (srt zs).toArray) os).heap[b]? = some (.cells (Sort.putCells enc off (srt zs).toArray cs) el fr) := by
    rw [Sort.heap_grow_old _ _ (by simpa [Sort.ahead] using hb)]
    simp [Sort.putRow, Sort.mapBlock, Sort.ahead, Array.getElem?_modify, hh, Sort.onCells]
  have hsz : w.heap.size ≤ (Sort.grow (Sort.putRow enc (Sort.ahead w n) b off (srt zs).toArray) os).heap.size := by
    simp [Sort.ahead]
  have hps : (Sort.putCells enc off (srt zs).toArray cs).size = cs.size := by simp [Sort.putCells]
  have hwin := put_window (enc := enc) (off := off) (zs := srt zs) (cs := cs) (by rw [hlen]; omega)
  refine ⟨_, I, [], [b], rfl, ⟨rfl, rfl, rfl⟩, hsz, fun r h1 h2 => hg r h1 (by simpa using h2), fun _ h => h, fun _ h => .inl h, fun r h => Nat.lt_of_lt_of_le (hI r h) hsz, ?_, ?_, by simp, ?_⟩
  · rw [hk]; exact .tup [] #[] [] .nil
  · rw [hk, hmt]
    refine .cons _ _ [b] _ _ [] ?_ .nil
    have hln : ((srt zs).map encV).length = zs.length := by rw [List.length_map, hlen]
    have := RelV.ow (h := (Sort.grow (Sort.putRow enc (Sort.ahead w n) b off (srt zs).toArray) os).heap) (I := I) 1 ((srt zs).map encV) b off cap (Sort.putCells enc off (srt zs).toArray cs) el fr [] hgb
      (by rw [hps]; exact hf) (by rw [hln]; exact hc) (by rw [hps]; omega) (by
        intro e he
        obtain ⟨z, _, rfl⟩ := List.mem_map.1 he
        rw [E.one]; rfl) (by rw [E.flat, List.length_map, Nat.mul_one, hwin]; exact E.relL _ _ _) (by
        intro c hc
        rw [List.length_map, Nat.mul_one, hwin] at hc
        obtain ⟨z, _, rfl⟩ := List.mem_map.1 hc
        exact E.cell z)
    rw [hln] at this
    exact this
  · intro r hr
    simp only [List.nil_append, List.mem_singleton] at hr
    subst hr
    exact ⟨hbI r (by simp), .inl (by simp)⟩
end

end Go.Lm

namespace Go.Lm

section
variable {α : Type} {enc : α → Value} {encV : α → V}

theorem part_fnOk [Inhabited α] (E : Enc enc encV) {C : Ctx} {f : FuncId} (res pad : List α → List α) (hmt : C.mt f = [true]) (hres : ∀ fn, C.P.funcs[f]? = some fn → fn.resultTypes.size = 1)
    (zs : List α) (hz : zs ≠ []) (hlen : (pad zs).length = zs.length) (hpre : (pad zs).take (res zs).length = res zs) (hle : (res zs).length ≤ zs.length)
    (hsome : ∀ (blk off cap : Nat) (w : World), Sort.Holds enc w blk off zs.toArray → blk < w.heap.size → zs.length ≤ cap →
      Calls C.P f #[.slice (some ⟨blk, off, none⟩) zs.length cap] w fun e w' => e = .returned (.slice (some ⟨blk, off, none⟩) (res zs).length cap) ∧ ∃ n, w' = Sort.putRow enc (Sort.ahead w n) blk off (pad zs).toArray) :
    FnOk C f [.sl true 1 (zs.map encV)] [.sl true 1 ((res zs).map encV), .any] := by
  intro fn w I cargs bs hfn hargs hnd hbI hI
  rw [hmt] at hargs
  have hk := hres fn hfn
  cases hargs with
  | read _ _ _ c cs b2 hw => simp at hw
  | lent _ _ _ c cs b1 b2 hw hv hr =>
  cases hr with
  | nil =>
  rw [List.append_nil] at hbI hnd
  generalize hes : zs.map encV = es at hv
  cases hv with
  | slZ _ _ a => exact absurd (by simpa using hes) hz
  | ow _ _ b off cap cs el fr bs hh hf hc hs hzz hl hcell =>
  subst hes
  rw [E.flat] at hl
  obtain ⟨hcs, rfl⟩ := E.invL zs hl
  simp only [List.length_map, Nat.mul_one] at hcs hs hc
  have hb : b < w.heap.size := by
    rcases Nat.lt_or_ge b w.heap.size with h | h
    · exact h
    · simp [Array.getElem?_eq_none h] at hh
  have hH : Sort.Holds enc w b off zs.toArray := by
    intro j hj
    simp only [List.size_toArray] at hj
    have h1 : cs[off + j]? = some (enc zs[j]) := by
      have h2 := congrArg (·[j]?) hcs
      simp only [List.getElem?_take_of_lt hj, List.getElem?_drop, List.getElem?_map, List.getElem?_eq_getElem hj, Option.map_some, Array.getElem?_toList] at h2
      exact h2
    refine ⟨?_, ?_⟩
    · rw [cell_at hh, h1]; simp [hj]
    · have hlt : off + j < cs.size := (Array.getElem?_eq_some_iff.1 h1).1
      have := hf (off + j) hlt
      simp only [World.frozen?, hh]
      exact this
  have hcall := hsome b off cap w hH hb hc
  simp only [List.length_map]
  refine hcall.mono ?_
  rintro e w' ⟨rfl, n, rfl⟩
  have hg : ∀ r, r < w.heap.size → r ≠ b → (Sort.putRow enc (Sort.ahead w n) b off (pad zs).toArray).heap[r]? = w.heap[r]? := by
    intro r hr hrb
    simp [Sort.putRow, Sort.mapBlock, Sort.ahead, Array.getElem?_modify, Ne.symm hrb]
  have hgb : (Sort.putRow enc (Sort.ahead w n) b off (pad zs).toArray).heap[b]? = some (.cells (Sort.putCells enc off (pad zs).toArray cs) el fr) := by
    simp [Sort.putRow, Sort.mapBlock, Sort.ahead, Array.getElem?_modify, hh, Sort.onCells]
  have hsz : w.heap.size ≤ (Sort.putRow enc (Sort.ahead w n) b off (pad zs).toArray).heap.size := by
    simp [Sort.ahead]
  have hps : (Sort.putCells enc off (pad zs).toArray cs).size = cs.size := by simp [Sort.putCells]
  have hwin := put_window (enc := enc) (off := off) (zs := pad zs) (cs := cs) (by rw [hlen]; omega)
  have hwin2 : ((Sort.putCells enc off (pad zs).toArray cs).toList.drop off).take (res zs).length = (res zs).map enc := by
    have h1 := congrArg (List.take (res zs).length) hwin
    rw [List.take_take, Nat.min_eq_left (by omega), ← List.map_take, hpre] at h1
    exact h1
  refine ⟨_, I, [b], [], rfl, ⟨rfl, rfl, rfl⟩, hsz, fun r h1 h2 => hg r h1 (by simpa using h2), fun _ h => h, fun _ h => .inl h, fun r h => Nat.lt_of_lt_of_le (hI r h) hsz, ?_, ?_, by simp, ?_⟩
  · rw [hk]
    have hln : ((res zs).map encV).length = (res zs).length := by rw [List.length_map]
    have := RelV.ow (h := (Sort.putRow enc (Sort.ahead w n) b off (pad zs).toArray).heap) (I := I) 1 ((res zs).map encV) b off cap (Sort.putCells enc off (pad zs).toArray cs) el fr [] hgb
      (by rw [hps]; exact hf) (by rw [hln]; omega) (by rw [hps]; omega) (by
        intro e he
        obtain ⟨z, _, rfl⟩ := List.mem_map.1 he
        rw [E.one]; rfl) (by rw [E.flat, List.length_map, Nat.mul_one, hwin2]; exact E.relL _ _ _) (by
        intro c hc
        rw [List.length_map, Nat.mul_one, hwin2] at hc
        obtain ⟨z, _, rfl⟩ := List.mem_map.1 hc
        exact E.cell z)
    rw [hln] at this
    exact this
  · rw [hk, hmt]
    exact .cons _ _ [] _ _ [] (.any _) .nil
  · intro r hr
    simp only [List.append_nil, List.mem_singleton] at hr
    subst hr
    exact ⟨hbI r (by simp), .inl (by simp)⟩
end

end Go.Lm

namespace Go.Lm
noncomputable section
open Prg

/-! The words at which rewriting stands still. -/
abbrev Rs := Option (List V)
/-- A seal: rewriting does not look behind it. -/
inductive Seal {α : Type} (k : α) : Type where | mk
def br (c : Prop) (t e : Unit → Rs) (_ : Seal t := .mk) (_ : Seal e := .mk) : Rs := @ite _ c (Classical.propDecidable c) (t ()) (e ())
def nd (c : Prop) (k : Unit → Rs) (_ : Seal k := .mk) : Rs := @ite _ c (Classical.propDecidable c) (k ()) none
def bo {α : Type} (x : Option α) (k : α → Rs) (_ : Seal k := .mk) : Rs := x.bind k

theorem br_ite (c : Prop) [Decidable c] (t e : Unit → Rs) : br c t e = if c then t () else e () := by unfold br; split <;> simp_all
theorem nd_ite (c : Prop) [Decidable c] (k : Unit → Rs) : nd c k = if c then k () else none := by unfold nd; split <;> simp_all
@[go_sem] theorem br_true (t e : Unit → Rs) : br True t e = t () := by simp [br]
@[go_sem] theorem br_false (t e : Unit → Rs) : br False t e = e () := by simp [br]
@[go_sem] theorem nd_true (k : Unit → Rs) : nd True k = k () := by simp [nd]
theorem nd_tt (k : Unit → Rs) : nd (true = true) k = k () := by simp [nd]
@[go_sem] theorem bo_some {α : Type} (a : α) (k : α → Rs) : bo (some a) k = k a := rfl
@[go_sem] theorem br_not (c : Prop) (t e : Unit → Rs) : br (¬ c) t e = br c e t := by unfold br; by_cases h : c <;> simp [h]
theorem br_elim {c : Prop} {t e : Unit → Rs} {r : Rs} (ht : c → t () = r) (he : ¬ c → e () = r) : br c t e = r := by
  unfold br; split
  · exact ht ‹_›
  · exact he ‹_›
theorem nd_intro {c : Prop} {k : Unit → Rs} {r : Rs} (h : c) (hk : k () = r) : nd c k = r := by
  unfold nd; rw [if_pos h]; exact hk
theorem bo_intro {α : Type} {x : Option α} {a : α} {k : α → Rs} {r : Rs} (h : x = some a) (hk : k a = r) : bo x k = r := by
  rw [h]; exact hk

theorem bo_ext {α : Type} {x : Option α} {k k' : α → Rs} (h : ∀ a, k a = k' a) : bo x k = bo x k' := by rw [show k = k' from funext h]
theorem nd_ext {c : Prop} {k k' : Unit → Rs} (h : k () = k' ()) : nd c k = nd c k' := by rw [show k = k' from funext fun _ => h]

/-! Programs over slots, run with a continuation; the marks of the slots that are read and written are gathered. -/
def Prg.go {α : Type} : Prg α → Env → Nat → Nat → (α → Env → Nat → Nat → Rs) → Rs
  | .ret a, E, r, w, K => K a E r w
  | .fail, _, _, _, _ => none
  | .get s k, E, r, w, K => (k (E s)).go E (r ||| 1 <<< s) w K
  | .set s b k, E, r, w, K => k.go (upd E s b) r (w ||| 1 <<< s) K

theorem Prg.go_eq {α : Type} (p : Prg α) : ∀ (E : Env) (r w : Nat) (K : α → Env → Nat → Nat → Rs),
    p.go E r w K = (p.run E).bind fun x => K x.1 x.2 (r ||| (p.foot E).1) (w ||| (p.foot E).2) := by
  induction p with
  | ret a => intro E r w K; simp [Prg.go, Prg.run, Prg.foot]
  | fail => intro E r w K; simp [Prg.go, Prg.run]
  | get s k ih => intro E r w K; simp only [Prg.go, Prg.run, Prg.foot, ih]; congr 1; funext x; congr 1; rw [Nat.or_assoc, Nat.or_comm (1 <<< s)]
  | set s b k ih => intro E r w K; simp only [Prg.go, Prg.run, Prg.foot, ih]; congr 1; funext x; congr 1; rw [Nat.or_assoc, Nat.or_comm (1 <<< s)]

section
variable {α β : Type} (E : Env) (r w : Nat)
/- s -/
theorem go_bind (x : Prg α) (f : α → Prg β) (K : β → Env → Nat → Nat → Rs) : (x >>= f).go E r w K = x.go E r w fun a E r w => (f a).go E r w K := by
  show (Prg.bind x f).go E r w K = _
  induction x generalizing E r w with
  | ret a => rfl
  | fail => rfl
  | get s k ih => exact ih _ _ _ _
  | set s b k ih => exact ih _ _ _
/- s -/
theorem go_pure (a : α) (K : α → Env → Nat → Nat → Rs) : (pure a : Prg α).go E r w K = K a E r w := rfl
/- s -/
theorem go_ret (a : α) (K : α → Env → Nat → Nat → Rs) : (Prg.ret a).go E r w K = K a E r w := rfl
/- s -/
theorem go_fail (K : α → Env → Nat → Nat → Rs) : (Prg.fail : Prg α).go E r w K = none := rfl
/- s -/
theorem go_getS (s : Nat) (K : Bd → Env → Nat → Nat → Rs) : (getS s).go E r w K = K (E s) E (r ||| 1 <<< s) w := rfl
/- s -/
theorem go_setS (s : Nat) (b : Bd) (K : Unit → Env → Nat → Nat → Rs) : (setS s b).go E r w K = K () (upd E s b) r (w ||| 1 <<< s) := rfl
/- s -/
theorem go_opt (x : Option α) (K : α → Env → Nat → Nat → Rs) : (Prg.opt x).go E r w K = bo x fun a => K a E r w := by cases x <;> rfl
/- s -/
theorem go_need (c : Bool) (K : Unit → Env → Nat → Nat → Rs) : (Prg.need c).go E r w K = nd (c = true) fun _ => K () E r w := by cases c <;> simp [Prg.need, nd, Prg.go]
/- s -/
theorem go_ite (c : Prop) [Decidable c] (x y : Prg α) (K : α → Env → Nat → Nat → Rs) : (if c then x else y).go E r w K = br c (fun _ => x.go E r w K) (fun _ => y.go E r w K) := by
  rw [br_ite]; split <;> rfl
end

@[go_sem] theorem upd_at (E : Env) (s : Nat) (b : Bd) (t : Nat) : upd E s b t = if t = s then b else E t := rfl
theorem env0 (t : Nat) : (fun (_ : Nat) => Bd.val .any) t = .val .any := rfl

/-! Bodies. -/
section
variable (C : Ctx) (m : Sem_) (ops : Array Oper)

/-- The operations of a region, one behind the other; 'st': the stamp of the next; 'fs': what was touched. -/
def exec (st : Nat) : List Oper → Env → List (Nat × Nat) → (Nat → Env → List (Nat × Nat) → Rs) → Rs
  | [], E, fs, K => K st E fs
  | o :: l, E, fs, K => (guardP C m ops st o).go E 0 0 fun _ E r w => exec (st + 16) l E ((r, w) :: fs) K

theorem exec_eq (clk : Nat) : ∀ (l : List Oper) (i : Nat) (E : Env) (fs : List (Nat × Nat)) (K : Nat → Env → List (Nat × Nat) → Rs),
    exec C m ops (clk + 16 * i) l E fs K = (opsP C m ops clk i l E).bind fun E' => K (clk + 16 * (i + l.length)) E' ((feet C m ops clk i l E).reverse ++ fs)
  | [], i, E, fs, K => by simp [exec, opsP, feet]
  | o :: l, i, E, fs, K => by
    simp only [exec, Prg.go_eq, opsP, feet, Nat.zero_or]
    cases hr : (guardP C m ops (clk + 16 * i) o).run E with
    | none => rfl
    | some x =>
      simp only [Option.bind_some]
      have := exec_eq clk l (i + 1) x.2 (((guardP C m ops (clk + 16 * i) o).foot E) :: fs) K
      rw [show clk + 16 * (i + 1) = clk + 16 * i + 16 from by omega] at this
      rw [this]
      congr 1; funext E'; congr 1
      · simp; omega
      · simp

/-- No two operations of a region whose order is drawn meet. -/
def meets (ops : List Oper) (fs : List (Nat × Nat)) : Bool := !(apart (Region.before ops.toArray) fs.reverse)

theorem region_exec (id : Nat) (l : List Oper) (draw : Bool) (f : FuncId) (k : Kont) (x : Nat → Kont) (clk : Nat) (E : Env) :
    runC C m f (.region id l.toArray draw) k x clk E = match (C.cuts f).lookup id with
      | some lv => cut m f id lv E
      | none => exec C m l.toArray clk l E [] (fun st E' fs => if draw then nd (meets l fs = false) (fun _ => k st E') else k st E') := by
  have h := fun K => exec_eq C m l.toArray clk l 0 E [] K
  simp only [Nat.mul_zero, Nat.add_zero, Nat.zero_add, List.append_nil] at h
  simp only [runC]
  split
  · rename_i h'; rw [h']
  · rename_i h'
    rw [h']
    simp only [h, regionP, meets]
    cases draw
    · simp
    · simp only [if_true, List.reverse_reverse, List.size_toArray, nd, Bool.not_eq_false]
      cases ho : opsP C m l.toArray clk 0 l E with
      | none => simp
      | some E' => simp; split <;> simp
end
end
end Go.Lm

namespace Go.Lm
noncomputable section
open Prg

/-- The order of a region is drawn: nothing in it meets. -/
def dr (l : List Oper) (fs : List (Nat × Nat)) (k : Unit → Rs) (_ : Seal k := .mk) : Rs := if meets l fs = false then k () else none
theorem dr_intro {l : List Oper} {fs : List (Nat × Nat)} {k : Unit → Rs} {r : Rs} (h : meets l fs = false) (hk : k () = r) : dr l fs k = r := by
  unfold dr; rw [if_pos h]; exact hk

def valK (b : Bd) (K : V → Rs) : Rs := match b with | .val v => K v | _ => none
def ownK (b : Bd) (K : V → Rs) : Rs := match b with | .own _ _ v => K v | .val .any => none | .val v => K v | _ => none
def refK (d : Nat) (b b' : Bd) (K : Unit → Rs) : Rs := match b, b' with
  | .rv d' st _ [], .own st' _ _ => if d' = d ∧ st = st' then K () else none
  | _, _ => none
/- s -/
theorem valK_val (v : V) (K : V → Rs) : valK (.val v) K = K v := rfl
/- s -/
theorem ownK_own (a b : Nat) (v : V) (K : V → Rs) : ownK (.own a b v) K = K v := rfl
/- s -/
theorem ownK_sl (o : Bool) (z : Nat) (es : List V) (K : V → Rs) : ownK (.val (.sl o z es)) K = K (.sl o z es) := rfl
/- s -/
theorem ownK_cptr (x : V) (j : Nat) (K : V → Rs) : ownK (.val (.cptr x j)) K = K (.cptr x j) := rfl
/- s -/
theorem ownK_nil (K : V → Rs) : ownK (.val .nil) K = K .nil := rfl
/- s -/
theorem ownK_agg (cs : List V) (K : V → Rs) : ownK (.val (.agg cs)) K = K (.agg cs) := rfl
/- s -/
theorem refK_rv (d d' st ct st' ct' : Nat) (v : V) (K : Unit → Rs) : refK d (.rv d' st ct []) (.own st' ct' v) K = nd (d' = d ∧ st = st') K := by
  unfold refK; rw [nd_ite]
def liveK (E : Env) : List (Nat × Lk) → (List V → Rs) → Rs
  | [], K => K []
  | (s, .val) :: r, K => valK (E s) fun v => liveK E r fun vs => K (v :: vs)
  | (s, .own) :: r, K => ownK (E s) fun v => liveK E r fun vs => K (v :: vs)
  | (s, .ref d) :: r, K => refK d (E s) (E d) fun _ => liveK E r K
theorem liveK_eq (E : Env) : ∀ (lv : List (Nat × Lk)) (K : List V → Rs), liveK E lv K = (liveOut E lv).bind K
  | [], K => rfl
  | (s, .val) :: r, K => by
    simp only [liveK, liveOut, liveK_eq E r, valK]
    cases E s <;> simp [Option.bind_map, Function.comp_def]
  | (s, .own) :: r, K => by
    simp only [liveK, liveOut, liveK_eq E r, ownK]
    cases E s with
    | val v => cases v <;> simp [Option.bind_map, Function.comp_def]
    | _ => simp [Option.bind_map, Function.comp_def]
  | (s, .ref d) :: r, K => by
    simp only [liveK, liveOut, refK]
    cases hs : E s with
    | rv d' st ct p =>
      cases p with
      | nil =>
        cases hd : E d with
        | own st' ct' v =>
          simp only []
          split
          · exact liveK_eq E r K
          · rfl
        | _ => rfl
      | cons => rfl
    | _ => rfl
/- s -/
theorem liveK_nil (E : Env) (K : List V → Rs) : liveK E [] K = K [] := rfl
/- s -/
theorem liveK_val (E : Env) (s : Nat) (r : List (Nat × Lk)) (K : List V → Rs) : liveK E ((s, .val) :: r) K = valK (E s) fun v => liveK E r fun vs => K (v :: vs) := rfl
/- s -/
theorem liveK_own (E : Env) (s : Nat) (r : List (Nat × Lk)) (K : List V → Rs) : liveK E ((s, .own) :: r) K = ownK (E s) fun v => liveK E r fun vs => K (v :: vs) := rfl
/- s -/
theorem liveK_ref (E : Env) (s d : Nat) (r : List (Nat × Lk)) (K : List V → Rs) : liveK E ((s, .ref d) :: r) K = refK d (E s) (E d) fun _ => liveK E r K := rfl

section
variable (C : Ctx) (m : Sem_)

/-- A function's end: its results. -/
def finK (res : List ResultVar) (mt : List Bool) (E : Env) : Rs :=
  (resP C res).go E 0 0 fun rs E r w => (outP 0 mt).go E r w fun os _ _ _ => some (rs ++ os)

theorem fin_eq {f : FuncId} {fn : Func} (hf : C.P.funcs[f]? = some fn) (hr : fn.results.size = fn.resultTypes.size) (E : Env) : fin C f E = finK C fn.results.toList (C.mt f) E := by
  simp only [fin, hf, Option.bind_some, finP, finK, hr, decide_true]
  have : ((do let rs ← resP C fn.results.toList; let os ← outP 0 (C.mt f); pure (rs ++ os) : Prg (List V)).go E 0 0 fun a _ _ _ => some a) = finK C fn.results.toList (C.mt f) E := by
    simp only [go_bind, go_pure, finK]
  rw [← finK, ← this, Prg.go_eq]
  show (Prg.run (Prg.bind (Prg.ret ()) _) E).map _ = _
  simp only [Prg.bind]
  cases Prg.run _ E <;> rfl

/-- A body, from here to the function's end or to the next cut. -/
def runX (f : FuncId) (cs : List (Nat × List (Nat × Lk))) (F : Env → Rs) : Code → Kont → (Nat → Kont) → Kont
  | .skip, k, _ => k
  | .region id ops draw, k, _ => fun clk E =>
    match cs.lookup id with
    | some lv => liveK E lv fun vs => m (.at_ f id) vs
    | none => exec C m ops clk ops.toList E [] (fun st E' fs => if draw then dr ops.toList fs (fun _ => k st E') else k st E')
  | .seq a b, k, x => runX f cs F a (runX f cs F b k x) x
  | .cond c a b, k, x => fun clk E => (evV C.P c 0).go E 0 0 fun v _ _ _ => bo (asB v) fun t => br (t = true) (fun _ => runX f cs F a k x clk E) (fun _ => runX f cs F b k x clk E)
  | .block id c, k, x => runX f cs F c k (fun i => if i = id then k else x i)
  | .loop c, _, _ => fun _ E =>
    match firstId c with
    | some id => match cs.lookup id with
      | some lv => liveK E lv fun vs => m (.at_ f id) vs
      | none => none
    | none => none
  | .exit id, _, x => x id
  | .ret, _, _ => fun _ E => F E
  | _, _, _ => fun _ _ => none

theorem runX_eq (f : FuncId) (c : Code) : ∀ (k : Kont) (x : Nat → Kont), runX C m f (C.cuts f) (fin C f) c k x = runC C m f c k x := by
  induction c with
  | region id ops draw =>
    intro k x; funext clk E
    obtain ⟨l⟩ := ops
    rw [region_exec]
    simp only [runX, cut, liveK_eq, dr]
    split <;> rename_i h <;> simp [h, nd_ite]
  | seq a b iha ihb => intro k x; simp only [runX, runC, iha, ihb]
  | cond c a b iha ihb =>
    intro k x; funext clk E
    simp only [runX, runC, iha, ihb, Prg.go_eq, Nat.zero_or]
    cases (evV C.P c 0).run E with
    | none => rfl
    | some p =>
      obtain ⟨v, E'⟩ := p
      cases v <;> simp [br_ite, asB, bo, iha, ihb]
  | block id c ih => intro k x; simp only [runX, runC, ih]
  | loop c ih =>
    intro k x; funext clk E
    simp only [runX, runC, cut, liveK_eq]
    cases firstId c with
    | none => rfl
    | some id => simp only []; cases List.lookup id (C.cuts f) <;> rfl
  | _ => intros; rfl

/- s -/
theorem runX_skip (f : FuncId) (cs : List (Nat × List (Nat × Lk))) (F : Env → Rs) (k : Kont) (x : Nat → Kont) (clk : Nat) (E : Env) : runX C m f cs F .skip k x clk E = k clk E := rfl
/- s -/
theorem runX_seq (f : FuncId) (cs : List (Nat × List (Nat × Lk))) (F : Env → Rs) (a b : Code) (k : Kont) (x : Nat → Kont) (clk : Nat) (E : Env) :
    runX C m f cs F (.seq a b) k x clk E = runX C m f cs F a (fun clk E => runX C m f cs F b k x clk E) x clk E := rfl
@[go_sem] theorem asB_bool (b : Bool) : asB (.bool b) = some b := rfl
/- s -/
theorem runX_cond (f : FuncId) (cs : List (Nat × List (Nat × Lk))) (F : Env → Rs) (c : Operand) (a b : Code) (k : Kont) (x : Nat → Kont) (clk : Nat) (E : Env) :
    runX C m f cs F (.cond c a b) k x clk E = (evV C.P c 0).go E 0 0 fun v _ _ _ => bo (asB v) fun t => br (t = true) (fun _ => runX C m f cs F a k x clk E) (fun _ => runX C m f cs F b k x clk E) := rfl
/- s -/
theorem runX_region (f : FuncId) (cs : List (Nat × List (Nat × Lk))) (F : Env → Rs) (id : Nat) (l : List Oper) (k : Kont) (x : Nat → Kont) (clk : Nat) (E : Env) :
    runX C m f cs F (.region id l.toArray false) k x clk E = match cs.lookup id with
      | some lv => liveK E lv fun vs => m (.at_ f id) vs
      | none => exec C m l.toArray clk l E [] (fun st E' _ => k st E') := rfl
/- s -/
theorem runX_draw (f : FuncId) (cs : List (Nat × List (Nat × Lk))) (F : Env → Rs) (id : Nat) (l : List Oper) (k : Kont) (x : Nat → Kont) (clk : Nat) (E : Env) :
    runX C m f cs F (.region id l.toArray true) k x clk E = match cs.lookup id with
      | some lv => liveK E lv fun vs => m (.at_ f id) vs
      | none => exec C m l.toArray clk l E [] (fun st E' fs => dr l fs (fun _ => k st E')) := rfl
/- s -/
theorem runX_block (f : FuncId) (cs : List (Nat × List (Nat × Lk))) (F : Env → Rs) (id : Nat) (c : Code) (k : Kont) (x : Nat → Kont) (clk : Nat) (E : Env) :
    runX C m f cs F (.block id c) k x clk E = runX C m f cs F c k (fun i => if i = id then k else x i) clk E := rfl
/- s -/
theorem runX_loop (f : FuncId) (cs : List (Nat × List (Nat × Lk))) (F : Env → Rs) (c : Code) (k : Kont) (x : Nat → Kont) (clk : Nat) (E : Env) :
    runX C m f cs F (.loop c) k x clk E = bo (firstId c) fun id => bo (cs.lookup id) fun lv => liveK E lv fun vs => m (.at_ f id) vs := by
  simp only [runX]; cases firstId c with
  | none => rfl
  | some id => simp only [bo, Option.bind_some]; cases List.lookup id cs <;> rfl
/- s -/
theorem runX_exit (f : FuncId) (cs : List (Nat × List (Nat × Lk))) (F : Env → Rs) (id : Nat) (k : Kont) (x : Nat → Kont) (clk : Nat) (E : Env) : runX C m f cs F (.exit id) k x clk E = x id clk E := rfl
/- s -/
theorem runX_ret (f : FuncId) (cs : List (Nat × List (Nat × Lk))) (F : Env → Rs) (k : Kont) (x : Nat → Kont) (clk : Nat) (E : Env) : runX C m f cs F .ret k x clk E = F E := rfl

@[go_sem] theorem firstId_region (id : Nat) (ops : Array Oper) (d : Bool) : firstId (.region id ops d) = some id := rfl
@[go_sem] theorem firstId_region_seq (id : Nat) (ops : Array Oper) (d : Bool) (b : Code) : firstId (.seq (.region id ops d) b) = some id := rfl
@[go_sem] theorem firstId_skip (b : Code) : firstId (.seq .skip b) = firstId b := rfl
@[go_sem] theorem firstId_seq (a b c : Code) : firstId (.seq (.seq a b) c) = firstId (.seq a b) := rfl
@[go_sem] theorem firstId_block_seq (i : Nat) (a c : Code) : firstId (.seq (.block i a) c) = firstId a := rfl
@[go_sem] theorem firstId_loop_seq (a c : Code) : firstId (.seq (.loop a) c) = firstId a := rfl
@[go_sem] theorem firstId_block (i : Nat) (a : Code) : firstId (.block i a) = firstId a := rfl
@[go_sem] theorem firstId_loop (a : Code) : firstId (.loop a) = firstId a := rfl

@[go_sem] theorem lookup_cons {β : Type} (k a : Nat) (b : β) (l : List (Nat × β)) : List.lookup k ((a, b) :: l) = bif k == a then some b else List.lookup k l := by
  rw [List.lookup_cons]; cases k == a <;> rfl
@[go_sem] theorem lookup_nil {β : Type} (k : Nat) : List.lookup k ([] : List (Nat × β)) = none := rfl

/-- A function by its body. -/
theorem lim_fn {C : Ctx} {f : FuncId} {fn : Func} {c : Code} {vals r : List V} {cs : List (Nat × List (Nat × Lk))} {mt : List Bool} {res : List ResultVar}
    (hx : C.ext f vals = none) (hf : C.P.funcs[f]? = some fn) (hb : fn.body = some c) (hm : C.mt f = mt) (hcs : C.cuts f = cs) (hres : fn.results.toList = res)
    (hr : fn.results.size = fn.resultTypes.size) (hl : mt.length ≤ vals.length ∧ vals.length ≤ fn.ntmps)
    (h : runX C (lim C) f cs (finK C res mt) c (fun _ E => finK C res mt E) (fun _ _ _ => none) 100000 (params mt 0 vals) = some r) : lim C (.func f) vals = some r := by
  refine lim_of_step (fun g hg => by cases hg; exact hx) ?_
  have he : fin C f = finK C res mt := by funext E; rw [fin_eq C hf hr, hres, hm]
  simp only [step, hf, Option.bind_some, hb, hm]
  rw [if_pos hl, ← runX_eq, hcs, he]
  exact h

/-- The run behind a cut. -/
def findX (C : Ctx) (m : Sem_) (f : FuncId) (cs : List (Nat × List (Nat × Lk))) (F : Env → Rs) (id : Nat) : Code → Kont → (Nat → Kont) → Option Kont
  | .region id' ops draw, k, _ => if id' = id then some fun clk E => exec C m ops clk ops.toList E [] (fun st E' fs => if draw then dr ops.toList fs (fun _ => k st E') else k st E') else none
  | .seq a b, k, x => (findX C m f cs F id a (runX C m f cs F b k x) x).or (findX C m f cs F id b k x)
  | .cond _ a b, k, x => (findX C m f cs F id a k x).or (findX C m f cs F id b k x)
  | .block i c, k, x => findX C m f cs F id c k (fun j => if j = i then k else x j)
  | .loop c, _, x => findX C m f cs F id c (runX C m f cs F (.loop c) (fun _ _ => none) x) x
  | _, _, _ => none

theorem findX_eq (C : Ctx) (m : Sem_) (f : FuncId) (id : Nat) (c : Code) : ∀ (k : Kont) (x : Nat → Kont), findX C m f (C.cuts f) (fin C f) id c k x = findC C m f id c k x := by
  induction c with
  | region id' ops draw =>
    intro k x
    obtain ⟨l⟩ := ops
    simp only [findX, findC]
    split
    · congr 1; funext clk E
      have h := exec_eq C m l.toArray clk l 0 E [] fun st E' fs => if draw then dr l fs (fun _ => k st E') else k st E'
      simp only [Nat.mul_zero, Nat.add_zero, Nat.zero_add, List.append_nil] at h
      rw [h]
      simp only [regionP, dr, meets]
      cases draw
      · simp
      · simp only [if_true, List.reverse_reverse, List.size_toArray, Bool.not_eq_false]
        cases ho : opsP C m l.toArray clk 0 l E with
        | none => simp
        | some E' => simp; split <;> simp
    · rfl
  | seq a b iha ihb => intro k x; simp only [findX, findC, iha, ihb, runX_eq]
  | cond c a b iha ihb => intro k x; simp only [findX, findC, iha, ihb]
  | block i c ih => intro k x; simp only [findX, findC, ih]
  | loop c ih => intro k x; simp only [findX, findC, ih, runX_eq]
  | _ => intros; rfl

/-- A loop's head (or another cut) by what follows. -/
theorem lim_at {C : Ctx} {f : FuncId} {id : Nat} {fn : Func} {c : Code} {vals r : List V} {cs : List (Nat × List (Nat × Lk))} {mt : List Bool} {res : List ResultVar}
    {lv : List (Nat × Lk)} {E : Env} {kk : Kont}
    (hf : C.P.funcs[f]? = some fn) (hb : fn.body = some c) (hm : C.mt f = mt) (hcs : C.cuts f = cs) (hres : fn.results.toList = res)
    (hr : fn.results.size = fn.resultTypes.size) (hlv : cs.lookup id = some lv) (hE : liveIn lv vals = some E)
    (hk : findX C (lim C) f cs (finK C res mt) id c (fun _ E => finK C res mt E) (fun _ _ _ => none) = some kk)
    (h : kk 100000 E = some r) : lim C (.at_ f id) vals = some r := by
  refine lim_of_step (fun g hg => by cases hg) ?_
  have he : fin C f = finK C res mt := by funext E; rw [fin_eq C hf hr, hres, hm]
  simp only [step, hf, Option.bind_some, hb, hcs, hlv, hE]
  rw [← findX_eq, hcs, he, hk]
  exact h
end
end
end Go.Lm

namespace Go.Lm
noncomputable section
open Prg

/-- A slot, seen from outside: what is owned is a place. -/
def evB (s : Nat) (b : Bd) : Bd := match b with | .own st ct _ => .rv s st ct [] | b => b
@[go_sem] theorem evB_val (s : Nat) (v : V) : evB s (.val v) = .val v := rfl
@[go_sem] theorem evB_own (s st ct : Nat) (v : V) : evB s (.own st ct v) = .rv s st ct [] := rfl
@[go_sem] theorem evB_rv (s s' st ct : Nat) (p : Path) : evB s (.rv s' st ct p) = .rv s' st ct p := rfl
@[go_sem] theorem evB_rs (s s' st ct lo n : Nat) (p : Path) : evB s (.rs s' st ct p lo n) = .rs s' st ct p lo n := rfl
@[go_sem] theorem evB_rp (s s' st ct i j : Nat) (p : Path) : evB s (.rp s' st ct p i j) = .rp s' st ct p i j := rfl
@[go_sem] theorem evB_clo (s : Nat) (f : FuncId) (cs : List Cap) : evB s (.clo f cs) = .clo f cs := rfl

section
variable (P : Program) {β : Type} (E : Env) (r w : Nat)
/- s -/
theorem go_ev_tmp (s : Nat) (t : TypeId) (K : Bd → Env → Nat → Nat → Rs) : (ev P (.tmp s) t).go E r w K = K (evB s (E s)) E (r ||| 1 <<< s) w := by
  show (Prg.bind (getS s) _).go E r w K = _
  simp only [getS, Prg.bind, Prg.go]
  cases E s <;> rfl
/- s -/
theorem go_ev_const (v : Value) (t : TypeId) (K : Bd → Env → Nat → Nat → Rs) : (ev P (.const v) t).go E r w K = bo (ofVal P t v) fun x => K (.val x) E r w := by
  show (do pure (.val (← opt (ofVal P t v))) : Prg Bd).go E r w K = _
  simp only [go_bind, go_opt, go_pure]
/- s -/
theorem go_ev_func (f : FuncId) (t : TypeId) (K : Bd → Env → Nat → Nat → Rs) : (ev P (.func f) t).go E r w K = K (.val (.fn f [])) E r w := rfl
/- s -/
theorem go_rdAt (s st ct : Nat) (p : Path) (K : V → Env → Nat → Nat → Rs) : (rdAt s st ct p).go E r w K = bo ((E s).at st ct p) fun x => K x E (r ||| 1 <<< s) w := by
  show (do opt ((← getS s).at st ct p) : Prg V).go E r w K = _
  simp only [go_bind, go_opt, go_getS]
/- s -/
theorem go_putD_some (d : Nat) (b : Bd) (K : Unit → Env → Nat → Nat → Rs) : (putD (some d) b).go E r w K = K () (upd E d b) r (w ||| 1 <<< d) := rfl
/- s -/
theorem go_putD_none (b : Bd) (K : Unit → Env → Nat → Nat → Rs) : (putD none b).go E r w K = K () E r w := rfl

/-- Writing to a place. -/
def wrK (b : Bd) (s st ct : Nat) (p : Path) (x : V) (ct' : Option Nat) (K : Bd → Rs) : Rs :=
  match b with
  | .own st' ct0 v => nd (st' = st ∧ (p = [] ∨ ct0 = ct)) fun _ => bo (v.put p x) fun y => K (.own st' (ct'.getD ct0) y)
  | _ => none
/- s -/
theorem wrK_own (s st ct : Nat) (p : Path) (x : V) (ct' : Option Nat) (st' ct0 : Nat) (v : V) (K : Bd → Rs) :
    wrK (.own st' ct0 v) s st ct p x ct' K = nd (st' = st ∧ (p = [] ∨ ct0 = ct)) fun _ => bo (v.put p x) fun y => K (.own st' (ct'.getD ct0) y) := rfl
/- s -/
theorem go_wrAt (s st ct : Nat) (p : Path) (x : V) (ct' : Option Nat) (K : Unit → Env → Nat → Nat → Rs) :
    (wrAt s st ct p x ct').go E r w K = wrK (E s) s st ct p x ct' fun b => K () (upd E s b) (r ||| 1 <<< s) (w ||| 1 <<< s) := by
  show (Prg.bind (getS s) _).go E r w K = _
  simp only [getS, Prg.bind, Prg.go]
  cases E s with
  | own st' ct0 v =>
    simp only [wrK, nd_ite]
    split
    · show ((opt (v.put p x)).bind fun y => setS s _).go E _ w K = _
      rw [show (Prg.bind (opt (v.put p x)) fun y => setS s (.own st' (ct'.getD ct0) y)) = (opt (v.put p x) >>= fun y => setS s (.own st' (ct'.getD ct0) y)) from rfl]
      simp only [go_bind, go_opt, go_setS]
    · rfl
  | _ => rfl
/- s -/
theorem go_clearAt (s st ct : Nat) (p : Path) (K : Unit → Env → Nat → Nat → Rs) :
    (clearAt s st ct p).go E r w K = br (p = []) (fun _ => K () (upd E s (.val .any)) r (w ||| 1 <<< s)) (fun _ => (wrAt s st ct p .any none).go E r w K) := by
  unfold clearAt; rw [br_ite]; split <;> rfl

/- s -/
theorem go_readB_val (v : V) (K : V → Env → Nat → Nat → Rs) : (readB (.val v)).go E r w K = K v E r w := rfl
/- s -/
theorem go_readB_rv (s st ct : Nat) (p : Path) (K : V → Env → Nat → Nat → Rs) : (readB (.rv s st ct p)).go E r w K = bo ((E s).at st ct p) fun x => K x.freeze E (r ||| 1 <<< s) w := by
  show (do pure (← rdAt s st ct p).freeze : Prg V).go E r w K = _
  simp only [go_bind, go_pure, go_rdAt]
/-- A part of a slice. -/
def slPart (lo n : Nat) (v : V) : Option V := match v with | .sl _ sz es => if lo + n ≤ es.length then some (.sl false sz (V.freezeL ((es.drop lo).take n))) else none | _ => none
theorem slPart_sl (lo n : Nat) (o : Bool) (sz : Nat) (es : List V) : slPart lo n (.sl o sz es) = if lo + n ≤ es.length then some (.sl false sz (V.freezeL ((es.drop lo).take n))) else none := rfl
/- s -/
theorem go_readB_rs (s st ct : Nat) (p : Path) (lo n : Nat) (K : V → Env → Nat → Nat → Rs) : (readB (.rs s st ct p lo n)).go E r w K = bo ((E s).at st ct p) fun x => bo (slPart lo n x) fun y => K y E (r ||| 1 <<< s) w := by
  show (Prg.bind (rdAt s st ct p) _).go E r w K = _
  rw [show ∀ (x : Prg V) (f : V → Prg V), Prg.bind x f = (x >>= f) from fun _ _ => rfl, go_bind, go_rdAt]
  refine bo_ext fun x => ?_
  cases x with
  | sl o sz es => simp only [slPart]; split <;> rfl
  | _ => rfl
/- s -/
theorem go_readB_rp (s st ct : Nat) (p : Path) (i j : Nat) (K : V → Env → Nat → Nat → Rs) : (readB (.rp s st ct p i j)).go E r w K = bo ((E s).at st ct p) fun x => bo (x.elem i) fun e => nd (j ≤ e.cells.length) fun _ => K (.cptr e.freeze j) E (r ||| 1 <<< s) w := by
  show (do let e ← opt ((← rdAt s st ct p).elem i); if j ≤ e.cells.length then pure (.cptr e.freeze j) else .fail : Prg V).go E r w K = _
  simp only [go_bind, go_opt, go_rdAt]
  refine bo_ext fun x => ?_; refine bo_ext fun e => ?_
  rw [nd_ite]; split <;> rfl
/- s -/
theorem go_readB_clo (f : FuncId) (cs : List Cap) (K : V → Env → Nat → Nat → Rs) : (readB (.clo f cs)).go E r w K = (readCaps cs).go E r w fun xs E r w => K (.fn f xs) E r w := by
  show (do pure (.fn f (← readCaps cs)) : Prg V).go E r w K = _
  simp only [go_bind, go_pure]
/- s -/
theorem go_readCaps_nil (K : List V → Env → Nat → Nat → Rs) : (readCaps []).go E r w K = K [] E r w := rfl
/- s -/
theorem go_readCaps_cons (c : Cap) (cs : List Cap) (K : List V → Env → Nat → Nat → Rs) : (readCaps (c :: cs)).go E r w K = (readCap c).go E r w fun x E r w => (readCaps cs).go E r w fun xs E r w => K (x :: xs) E r w := by
  show (do let x ← readCap c; let xs ← readCaps cs; pure (x :: xs) : Prg (List V)).go E r w K = _
  simp only [go_bind, go_pure]
def unbox (v : V) : Option V := match v with | .box x => some x | _ => none
@[go_sem] theorem unbox_box (x : V) : unbox (.box x) = some x := rfl
/- s -/
theorem go_readCap_v (x : V) (K : V → Env → Nat → Nat → Rs) : (readCap (.v x)).go E r w K = K x E r w := rfl
/- s -/
theorem go_readCap_r (s st ct : Nat) (K : V → Env → Nat → Nat → Rs) : (readCap (.r s st ct)).go E r w K = bo ((E s).at st ct []) fun v => bo (unbox v) fun x => K (.cptr x.freeze 0) E (r ||| 1 <<< s) w := by
  show (Prg.bind (rdAt s st ct []) _).go E r w K = _
  rw [show ∀ (x : Prg V) (f : V → Prg V), Prg.bind x f = (x >>= f) from fun _ _ => rfl, go_bind, go_rdAt]
  refine bo_ext fun x => ?_
  cases x <;> rfl
/- s -/
theorem go_evV (x : Operand) (t : TypeId) (K : V → Env → Nat → Nat → Rs) : (evV P x t).go E r w K = (ev P x t).go E r w fun b E r w => (readB b).go E r w K := by
  show (do readB (← ev P x t) : Prg V).go E r w K = _
  simp only [go_bind]

/- s -/
theorem go_takeB_val (v : V) (K : Bool × V → Env → Nat → Nat → Rs) : (takeB (.val v)).go E r w K = K (false, v) E r w := rfl
/- s -/
theorem go_takeB_rv (s st ct : Nat) (p : Path) (K : Bool × V → Env → Nat → Nat → Rs) : (takeB (.rv s st ct p)).go E r w K =
    bo ((E s).at st ct p) fun x => br (x.shared = true) (fun _ => K (false, x) E (r ||| 1 <<< s) w) (fun _ => (clearAt s st ct p).go E (r ||| 1 <<< s) w fun _ E r w => K (true, x) E r w) := by
  show (do let x ← rdAt s st ct p; if x.shared then pure (false, x) else do clearAt s st ct p; pure (true, x) : Prg (Bool × V)).go E r w K = _
  simp only [go_bind, go_rdAt]
  refine bo_ext fun x => ?_
  simp only [go_ite, br_ite, go_bind, go_pure]
/-- A part of a slice, taken. -/
def slTake (lo n : Nat) (v : V) (K : Bool → V → Rs) : Rs := match v with
  | .sl o sz es => nd (lo + n ≤ es.length) fun _ => br (o = true) (fun _ => K true (.sl true sz ((es.drop lo).take n))) (fun _ => K false (.sl false sz ((es.drop lo).take n)))
  | _ => none
/- s -/
theorem slTake_sl (lo n : Nat) (o : Bool) (sz : Nat) (es : List V) (K : Bool → V → Rs) : slTake lo n (.sl o sz es) K =
    nd (lo + n ≤ es.length) fun _ => br (o = true) (fun _ => K true (.sl true sz ((es.drop lo).take n))) (fun _ => K false (.sl false sz ((es.drop lo).take n))) := rfl
/- s -/
theorem go_takeB_rs (s st ct : Nat) (p : Path) (lo n : Nat) (K : Bool × V → Env → Nat → Nat → Rs) : (takeB (.rs s st ct p lo n)).go E r w K =
    bo ((E s).at st ct p) fun x => slTake lo n x fun o y => br (o = true) (fun _ => (clearAt s st ct p).go E (r ||| 1 <<< s) w fun _ E r w => K (true, y) E r w) (fun _ => K (false, y) E (r ||| 1 <<< s) w) := by
  show (Prg.bind (rdAt s st ct p) _).go E r w K = _
  rw [show ∀ (x : Prg V) (f : V → Prg (Bool × V)), Prg.bind x f = (x >>= f) from fun _ _ => rfl, go_bind, go_rdAt]
  refine bo_ext fun x => ?_
  cases x with
  | sl o sz es =>
    simp only [slTake, go_ite, nd_ite, br_ite]
    split
    · cases o
      · rfl
      · simp only [if_true]
        show (do clearAt s st ct p; pure (true, .sl true sz ((es.drop lo).take n)) : Prg (Bool × V)).go _ _ _ _ = _
        simp only [go_bind, go_pure]
    · rfl
  | _ => rfl

/-- A pointer, out of what a slot holds. -/
def ptrV (s st ct : Nat) (p : Path) (v : V) : Option Ptr := match v with | .box _ => some (.r s st ct p 0 0) | .cptr x j => some (.c x j) | _ => none
@[go_sem] theorem ptrV_box (s st ct : Nat) (p : Path) (x : V) : ptrV s st ct p (.box x) = some (.r s st ct p 0 0) := rfl
@[go_sem] theorem ptrV_cptr (s st ct : Nat) (p : Path) (x : V) (j : Nat) : ptrV s st ct p (.cptr x j) = some (.c x j) := rfl
/- s -/
theorem go_asPtr_val (x : V) (j : Nat) (K : Ptr → Env → Nat → Nat → Rs) : (asPtr (.val (.cptr x j))).go E r w K = K (.c x j) E r w := rfl
/- s -/
theorem go_asPtr_rp (s st ct : Nat) (p : Path) (i j : Nat) (K : Ptr → Env → Nat → Nat → Rs) : (asPtr (.rp s st ct p i j)).go E r w K = K (.r s st ct p i j) E r w := rfl
/- s -/
theorem go_asPtr_rv (s st ct : Nat) (p : Path) (K : Ptr → Env → Nat → Nat → Rs) : (asPtr (.rv s st ct p)).go E r w K = bo ((E s).at st ct p) fun v => bo (ptrV s st ct p v) fun q => K q E (r ||| 1 <<< s) w := by
  show (Prg.bind (rdAt s st ct p) _).go E r w K = _
  rw [show ∀ (x : Prg V) (f : V → Prg Ptr), Prg.bind x f = (x >>= f) from fun _ _ => rfl, go_bind, go_rdAt]
  refine bo_ext fun x => ?_
  cases x <;> rfl

/-- Loading through a pointer. -/
def loadK (st0 : Nat) (dst : Option Tmp) (t : TypeId) (n : Nat) (ag : Bool) : Ptr → Prg Unit
  | .c x j =>
    if ag then do need (decide (j + n ≤ x.cells.length)); putD dst (.val (.agg ((x.cells.drop j).take n)))
    else do putD dst (.val (← opt (x.cells[j]?)))
  | .r s st ct p i j => do
    let nd ← rdAt s st ct p
    let e ← opt (nd.elem i)
    if ag then do
      need (decide (j + n ≤ e.cells.length))
      let cs := (e.cells.drop j).take n
      if pureT P 12 t then do need (V.shared.sharedL cs); putD dst (.val (.agg cs))
      else do
        let nd' ← opt (nd.setElem i (e.setCells j (V.freezeL cs)))
        wrAt s st ct p nd' (some st0)
        putD dst (.val (.agg (V.freezeL cs)))
    else do
      let x ← opt (e.cells[j]?)
      if x.shared then putD dst (.val x) else putD dst (.rv s st ct (p ++ [(i, j)]))
theorem loadP_eq (st0 : Nat) (dst : Option Tmp) (t : TypeId) (a : Bd) : loadP P st0 dst t a = (do let n ← opt (sizeT P t); let ag ← opt (aggT P t); let q ← asPtr a; loadK P st0 dst t n ag q) := by
  unfold loadP
  congr 1
@[go_sem] theorem loadK_c1 (st0 : Nat) (dst : Option Tmp) (t : TypeId) (n : Nat) (x : V) (j : Nat) : loadK P st0 dst t n false (.c x j) = (do putD dst (.val (← opt (x.cells[j]?)))) := rfl
@[go_sem] theorem loadK_cA (st0 : Nat) (dst : Option Tmp) (t : TypeId) (n : Nat) (x : V) (j : Nat) : loadK P st0 dst t n true (.c x j) = (do need (decide (j + n ≤ x.cells.length)); putD dst (.val (.agg ((x.cells.drop j).take n)))) := rfl
@[go_sem] theorem loadK_r1 (st0 : Nat) (dst : Option Tmp) (t : TypeId) (n : Nat) (s st ct : Nat) (p : Path) (i j : Nat) : loadK P st0 dst t n false (.r s st ct p i j) = (do
    let nd ← rdAt s st ct p
    let e ← opt (nd.elem i)
    let x ← opt (e.cells[j]?)
    if x.shared then putD dst (.val x) else putD dst (.rv s st ct (p ++ [(i, j)]))) := rfl
@[go_sem] theorem loadK_rA (st0 : Nat) (dst : Option Tmp) (t : TypeId) (n : Nat) (s st ct : Nat) (p : Path) (i j : Nat) : loadK P st0 dst t n true (.r s st ct p i j) = (do
    let nd ← rdAt s st ct p
    let e ← opt (nd.elem i)
    need (decide (j + n ≤ e.cells.length))
    if pureT P 12 t then do need (V.shared.sharedL ((e.cells.drop j).take n)); putD dst (.val (.agg ((e.cells.drop j).take n)))
    else do
      let nd' ← opt (nd.setElem i (e.setCells j (V.freezeL ((e.cells.drop j).take n))))
      wrAt s st ct p nd' (some st0)
      putD dst (.val (.agg (V.freezeL ((e.cells.drop j).take n))))) := rfl
/-- Storing through a pointer. -/
def storeK (st0 n : Nat) (v : V) : Ptr → Prg Unit
  | .c _ _ => .fail
  | .r s st ct p i j => do
    let nd ← rdAt s st ct p
    let e ← opt (nd.elem i)
    need (decide (j + n ≤ e.cells.length))
    let nd' ← opt (nd.setElem i (e.setCells j v.cells))
    wrAt s st ct p nd' (some st0)
theorem storeP_eq (st0 : Nat) (t : TypeId) (a x : Bd) : storeP P st0 t a x = (do
    let n ← opt (sizeT P t)
    let ag ← opt (aggT P t)
    let v ← takeB x
    need (decide (v.2.cells.length = n) && (v.2.isAgg == ag) && v.2.cells.all V.isCell)
    let q ← asPtr a
    storeK st0 n v.2 q) := by
  unfold storeP
  congr 1
@[go_sem] theorem storeK_r (st0 n : Nat) (v : V) (s st ct : Nat) (p : Path) (i j : Nat) : storeK st0 n v (.r s st ct p i j) = (do
    let nd ← rdAt s st ct p
    let e ← opt (nd.elem i)
    need (decide (j + n ≤ e.cells.length))
    let nd' ← opt (nd.setElem i (e.setCells j v.cells))
    wrAt s st ct p nd' (some st0)) := rfl
end
end
end Go.Lm

namespace Go.Lm
noncomputable section
open Prg

section
variable (C : Ctx) (m : Sem_) (ops : Array Oper) (st : Nat) (d : Option Tmp) (t : TypeId) (p : String) (a : Array Edge) (g : Option (Nat × Bool))

@[go_sem] theorem guard_none (o : Op) : guardP C m ops st ⟨d, o, t, p, a, none⟩ = opP C m st ⟨d, o, t, p, a, none⟩ := rfl
/-- A guard's answer; what was left out answers nothing. -/
def valB (want : Bool) (b : Bd) : Option Bool := match b with | .val (.bool b) => some (b == want) | .val (.tup []) => some false | _ => none
@[go_sem] theorem valB_t (b : Bool) : valB true (.val (.bool b)) = some b := by cases b <;> rfl
@[go_sem] theorem valB_f (b : Bool) : valB false (.val (.bool b)) = some (!b) := by cases b <;> rfl
@[go_sem] theorem valB_out (want : Bool) : valB want (.val (.tup [])) = some false := rfl
/- s -/
theorem guard_some (o : Op) (j : Nat) (want : Bool) (E : Env) (r w : Nat) (K : Unit → Env → Nat → Nat → Rs) :
    (guardP C m ops st ⟨d, o, t, p, a, some (j, want)⟩).go E r w K = bo ((ops[j]?).bind (·.dst)) fun s => bo (valB want (E s)) fun b =>
      br (b = true) (fun _ => (opP C m st ⟨d, o, t, p, a, some (j, want)⟩).go E (r ||| 1 <<< s) w K) (fun _ => (putD d (.val (.tup []))).go E (r ||| 1 <<< s) w K) := by
  simp only [guardP]
  cases hj : (ops[j]?).bind (·.dst) with
  | none => rfl
  | some s =>
    simp only [bo_some]
    show (Prg.bind (getS s) _).go E r w K = _
    simp only [getS, Prg.bind, Prg.go]
    cases hs : E s with
    | val v =>
      cases v with
      | bool b => cases b <;> cases want <;> simp [valB, bo_some, br_ite]
      | tup l =>
        cases l with
        | nil => simp [valB, bo_some, br_ite]
        | cons => rfl
      | _ => rfl
    | _ => rfl

@[go_sem] theorem op_move (x : Operand) : opP C m st ⟨d, .move x, t, p, a, g⟩ = (do putD d (← ev C.P x t)) := rfl
/-- Behind an assignment the slot that was taken from refers to the new one. -/
def tailA (b : Bd) (d : Option Tmp) (ow : Bool) (st : Nat) : Prg Unit := match b, d, ow with
  | .rv s _ _ [], some d, true => if s = d then pure () else setS s (.rv d st st [])
  | _, _, _ => pure ()
@[go_sem] theorem tailA_val (v : V) (ow : Bool) : tailA (.val v) d ow st = pure () := by cases d <;> rfl
@[go_sem] theorem tailA_f (b : Bd) : tailA b d false st = pure () := by
  cases b with
  | rv s st ct p => cases p <;> cases d <;> rfl
  | _ => cases d <;> rfl
@[go_sem] theorem tailA_rv (s s1 s2 e : Nat) : tailA (.rv s s1 s2 []) (some e) true st = if s = e then pure () else setS s (.rv e st st []) := rfl
@[go_sem] theorem tailA_rvp (s s1 s2 : Nat) (q : Nat × Nat) (pp : Path) : tailA (.rv s s1 s2 (q :: pp)) d true st = pure () := by cases d <;> rfl
@[go_sem] theorem tailA_rs (s s1 s2 lo n : Nat) (pp : Path) : tailA (.rs s s1 s2 pp lo n) d true st = pure () := by cases d <;> rfl
@[go_sem] theorem op_assign (x : Operand) : opP C m st ⟨d, .assign x, t, p, a, g⟩ = (do
    let b ← ev C.P x t
    let v ← takeB b
    putD d (mk v.1 st v.2)
    tailA b d v.1 st) := rfl
@[go_sem] theorem mk_f (s : Nat) (v : V) : mk false s v = .val v := rfl
@[go_sem] theorem mk_t (s : Nat) (v : V) : mk true s v = .own s s v := rfl
/-- Which of two. -/
/- s -/
theorem op_pick (c x y : Operand) (E : Env) (r w : Nat) (K : Unit → Env → Nat → Nat → Rs) : (opP C m st ⟨d, .pick c x y, t, p, a, g⟩).go E r w K =
    (evV C.P c 0).go E r w fun v E r w => bo (asB v) fun b => br (b = true)
      (fun _ => (evV C.P x t).go E r w fun v E r w => nd (v.solid = true) fun _ => (putD d (.val v)).go E r w K)
      (fun _ => (evV C.P y t).go E r w fun v E r w => nd (v.solid = true) fun _ => (putD d (.val v)).go E r w K) := by
  show (Prg.bind (evV C.P c 0) _).go E r w K = _
  rw [show ∀ (x : Prg V) (f : V → Prg Unit), Prg.bind x f = (x >>= f) from fun _ _ => rfl, go_bind]
  congr 1; funext v E r w
  cases v with
  | bool b =>
    cases b
    · simp only [asB_bool, bo_some, br_ite, Bool.false_eq_true, if_false]
      show (do let v ← evV C.P y t; need v.solid; putD d (.val v) : Prg Unit).go E r w K = _
      simp only [go_bind, go_need]
    · simp only [asB_bool, bo_some, br_ite, if_true]
      show (do let v ← evV C.P x t; need v.solid; putD d (.val v) : Prg Unit).go E r w K = _
      simp only [go_bind, go_need]
  | _ => rfl
@[go_sem] theorem op_alloc (e : TypeId) : opP C m st ⟨d, .alloc e, t, p, a, g⟩ = (do
    let z ← opt (zeroT C.P e)
    need (z.cells.all V.isCell)
    putD d (.own st st (.box z))) := rfl
@[go_sem] theorem op_box (e : TypeId) (x : Operand) : opP C m st ⟨d, .box e x, t, p, a, g⟩ = (do
    let v ← takeB (← ev C.P x e)
    need (v.2.cells.all V.isCell)
    putD d (.own st st (.box v.2))) := rfl
def fieldsOf (u : Option TypeDesc) : Option (Array Field) := match u with | some (.struct fs) => some fs | _ => none
def aggOf (v : V) : Option (List V) := match v with | .agg cs => some cs | _ => none
def arrOf (u : Option TypeDesc) : Option (Nat × TypeId) := match u with | some (.array n e) => some (n, e) | _ => none
@[go_sem] theorem aggOf_agg (cs : List V) : aggOf (.agg cs) = some cs := rfl
/- s -/
theorem op_build (u : TypeId) (parts : Array (Nat × Operand)) (E : Env) (r w : Nat) (K : Unit → Env → Nat → Nat → Rs) : (opP C m st ⟨d, .build u parts, t, p, a, g⟩).go E r w K =
    bo (zeroT C.P u) fun z => bo (aggOf z) fun zs => match C.P.underlying u with
      | some (.struct fs) => nd ((fs.toList.all fun f => (sizeT C.P f.type).isSome) = true) fun _ =>
          (takeParts C.P st (fun i => (fs[i]?).map (·.type)) parts.toList).go E r w fun q E r w =>
            bo (fillV (fun i => (fs[i]?).bind fun f => (sizeT C.P f.type).map fun n => (f.offset, n)) zs q.2) fun cs => (putD d (mk q.1 st (.agg cs))).go E r w K
      | some (.array _ e) => bo (sizeT C.P e) fun n =>
          (takeParts C.P st (fun _ => some e) parts.toList).go E r w fun q E r w =>
            bo (fillV (fun i => some (i * n, n)) zs q.2) fun cs => (putD d (mk q.1 st (.agg cs))).go E r w K
      | _ => none := by
  show (Prg.bind (opt (zeroT C.P u)) _).go E r w K = _
  rw [show ∀ (x : Prg V) (f : V → Prg Unit), Prg.bind x f = (x >>= f) from fun _ _ => rfl, go_bind, go_opt]
  refine bo_ext fun z => ?_
  cases z with
  | agg zs =>
    simp only [aggOf_agg, bo_some]
    cases hu : C.P.underlying u with
    | none => rfl
    | some q =>
      cases q with
      | struct fs =>
        show (do
          need (fs.toList.all fun f => (sizeT C.P f.type).isSome)
          let q ← takeParts C.P st (fun i => (fs[i]?).map (·.type)) parts.toList
          let cs ← opt (fillV (fun i => (fs[i]?).bind fun f => (sizeT C.P f.type).map fun n => (f.offset, n)) zs q.2)
          putD d (mk q.1 st (.agg cs)) : Prg Unit).go E r w K = _
        simp only [go_bind, go_need, go_opt]
      | array n e =>
        show (do
          let n ← opt (sizeT C.P e)
          let q ← takeParts C.P st (fun _ => some e) parts.toList
          let cs ← opt (fillV (fun i => some (i * n, n)) zs q.2)
          putD d (mk q.1 st (.agg cs)) : Prg Unit).go E r w K = _
        simp only [go_bind, go_opt]
      | _ => rfl
  | _ => rfl
/- s -/
theorem go_takeParts_nil (P : Program) (tOf : Nat → Option TypeId) (E : Env) (r w : Nat) (K : Bool × List (Nat × V) → Env → Nat → Nat → Rs) : (takeParts P st tOf []).go E r w K = K (false, []) E r w := rfl
/- s -/
theorem go_takeParts_cons (P : Program) (tOf : Nat → Option TypeId) (i : Nat) (x : Operand) (rest : List (Nat × Operand)) (E : Env) (r w : Nat) (K : Bool × List (Nat × V) → Env → Nat → Nat → Rs) :
    (takeParts P st tOf ((i, x) :: rest)).go E r w K = bo (tOf i) fun t => (ev P x t).go E r w fun b E r w => (takeB b).go E r w fun v E r w => (takeParts P st tOf rest).go E r w fun q E r w => K (v.1 || q.1, (i, v.2) :: q.2) E r w := by
  show (do
    let t ← opt (tOf i)
    let v ← takeB (← ev P x t)
    let q ← takeParts P st tOf rest
    pure (v.1 || q.1, (i, v.2) :: q.2) : Prg (Bool × List (Nat × V))).go E r w K = _
  simp only [go_bind, go_opt, go_pure]
@[go_sem] theorem fillV_nil (place : Nat → Option (Nat × Nat)) (cs : List V) : fillV place cs [] = some cs := rfl
@[go_sem] theorem fillV_cons (place : Nat → Option (Nat × Nat)) (cs : List V) (i : Nat) (v : V) (rest : List (Nat × V)) : fillV place cs ((i, v) :: rest) =
    (place i).bind fun q => if (v.cells.length = q.2 ∧ q.1 + q.2 ≤ cs.length) ∧ v.cells.all V.isCell = true then fillV place (cs.take q.1 ++ v.cells ++ cs.drop (q.1 + q.2)) rest else none := rfl
@[go_sem] theorem fillE_nil (n : Nat) (es : List V) : fillE n es [] = some es := rfl
@[go_sem] theorem fillE_cons (n : Nat) (es : List V) (i : Nat) (v : V) (rest : List (Nat × V)) : fillE n es ((i, v) :: rest) =
    if (v.cells.length = n ∧ i < es.length) ∧ v.cells.all V.isCell = true then fillE n (es.set i v) rest else none := rfl
@[go_sem] theorem op_buildSlice (u : TypeId) (len : Nat) (parts : Array (Nat × Operand)) : opP C m st ⟨d, .buildSlice u len parts, t, p, a, g⟩ = (do
    let e ← opt (elemT C.P u)
    let n ← opt (sizeT C.P e)
    let q ← takeParts C.P st (fun _ => some e) parts.toList
    need (decide (len * n ≤ 65536 ∧ 0 < n))
    let z ← opt (zeroT C.P e)
    need (decide (z.cells.length = n))
    let es ← opt (fillE n (List.replicate len z) q.2)
    need (z.cells.all V.isCell)
    putD d (.own st st (.sl true n es))) := rfl
@[go_sem] theorem op_load (u : TypeId) (x : Operand) : opP C m st ⟨d, .load u x, t, p, a, g⟩ = (do
    let b ← ev C.P x 0
    let n ← opt (sizeT C.P u)
    let ag ← opt (aggT C.P u)
    let q ← asPtr b
    loadK C.P st d u n ag q) := by
  show (do let b ← ev C.P x 0; loadP C.P st d u b) = _
  simp only [loadP_eq]
@[go_sem] theorem op_store (u : TypeId) (x y : Operand) : opP C m st ⟨none, .store u x y, t, p, a, g⟩ = (do
    let ba ← ev C.P x 0
    let bx ← ev C.P y u
    let n ← opt (sizeT C.P u)
    let ag ← opt (aggT C.P u)
    let v ← takeB bx
    need (decide (v.2.cells.length = n) && (v.2.isAgg == ag) && v.2.cells.all V.isCell)
    let q ← asPtr ba
    storeK st n v.2 q) := by
  show (do need true; let ba ← ev C.P x 0; let bx ← ev C.P y u; storeP C.P st u ba bx) = _
  simp only [storeP_eq]
  rfl
@[go_sem] theorem op_bin (o : BinOp) (xt : TypeId) (x y : Operand) (yt : TypeId) : opP C m st ⟨d, .binOp o xt x y yt, t, p, a, g⟩ = (do
    let vx ← evV C.P x xt
    let vy ← evV C.P y yt
    putD d (.val (← opt (binV o vx vy)))) := rfl
@[go_sem] theorem op_un (o : UnOp) (xt : TypeId) (x : Operand) : opP C m st ⟨d, .unOp o xt x, t, p, a, g⟩ = (do putD d (.val (← opt (unV o (← evV C.P x xt))))) := rfl
@[go_sem] theorem op_convert (src dst : TypeId) (x : Operand) : opP C m st ⟨d, .convert src dst x, t, p, a, g⟩ = convP C.P st d src dst x := rfl
@[go_sem] theorem op_makeFunc (f : FuncId) (caps : Array Operand) : opP C m st ⟨d, .makeFunc (.func f) #[] caps, t, p, a, g⟩ = (do
    let cs ← capsOf C caps.toList
    putD d (if cs.isEmpty then .val (.fn f []) else .clo f cs)) := rfl
def i64Of (v : V) : Option Int := match v with | .int _ n => some n | _ => none
@[go_sem] theorem i64Of_int (k : IntKind) (n : Int) : i64Of (.int k n) = some n := rfl
/- s -/
theorem op_makeSlice (u : TypeId) (l c : Operand) (E : Env) (r w : Nat) (K : Unit → Env → Nat → Nat → Rs) : (opP C m st ⟨d, .makeSlice u l c, t, p, a, g⟩).go E r w K =
    bo (elemT C.P u) fun e => bo (sizeT C.P e) fun n => bo (bytesT C.P e) fun by_ => bo (zeroT C.P e) fun z =>
      (evV C.P l 3).go E r w fun x E r w => (evV C.P c 3).go E r w fun y E r w => bo (i64Of x) fun i => bo (i64Of y) fun j =>
        nd ((decide (0 ≤ i ∧ i ≤ j ∧ j ≤ 1099511627776 ∧ j * by_ ≤ 70368744177664 ∧ 0 < n ∧ z.cells.length = n) && z.cells.all V.isCell && z.shared) = true) fun _ =>
          (putD d (.own st st (.sl true n (List.replicate i.toNat z)))).go E r w K := by
  show (do
    let e ← opt (elemT C.P u)
    let n ← opt (sizeT C.P e)
    let by_ ← opt (bytesT C.P e)
    let z ← opt (zeroT C.P e)
    let x ← evV C.P l 3
    let y ← evV C.P c 3
    match x, y with
    | .int _ i, .int _ j => do
      need (decide (0 ≤ i ∧ i ≤ j ∧ j ≤ 1099511627776 ∧ j * by_ ≤ 70368744177664 ∧ 0 < n ∧ z.cells.length = n) && z.cells.all V.isCell && z.shared)
      putD d (.own st st (.sl true n (List.replicate i.toNat z)))
    | _, _ => .fail : Prg Unit).go E r w K = _
  simp only [go_bind, go_opt]
  refine bo_ext fun e => ?_; refine bo_ext fun n => ?_; refine bo_ext fun by_ => ?_; refine bo_ext fun z => ?_; congr 1; funext x E r w; congr 1; funext y E r w
  cases x with
  | int k i =>
    cases y with
    | int k' j => simp only [go_bind, go_need, i64Of_int, bo_some]
    | _ => rfl
  | _ => rfl
@[go_sem] theorem op_slice (u : TypeId) (x : Operand) (lo hi : Option Operand) : opP C m st ⟨d, .slice u x lo hi none, t, p, a, g⟩ = (do
    let b ← ev C.P x u
    let l ← intOpt C lo
    let h ← intOpt C hi
    sliceP C.P d u b l h) := rfl
/- s -/
theorem go_intOpt_none (E : Env) (r w : Nat) (K : Option Int → Env → Nat → Nat → Rs) : (intOpt C none).go E r w K = K none E r w := rfl
/- s -/
theorem go_intOpt_some (x : Operand) (E : Env) (r w : Nat) (K : Option Int → Env → Nat → Nat → Rs) : (intOpt C (some x)).go E r w K = (evV C.P x 0).go E r w fun v E r w => bo (i64Of v) fun n => K (some n) E r w := by
  show (Prg.bind (evV C.P x 0) _).go E r w K = _
  rw [show ∀ (x : Prg V) (f : V → Prg (Option Int)), Prg.bind x f = (x >>= f) from fun _ _ => rfl, go_bind]
  congr 1; funext v E r w
  cases v <;> rfl
/-- The address of a field. -/
def fieldK (d : Option Tmp) (off : Nat) : Ptr → Prg Unit
  | .c y j => do need (decide (j + off ≤ y.cells.length)); putD d (.val (.cptr y (j + off)))
  | .r sl st ct p i j => do
    let _ ← rdAt sl st ct p
    putD d (.rp sl st ct p i (j + off))
@[go_sem] theorem fieldK_c (off : Nat) (y : V) (j : Nat) : fieldK d off (.c y j) = (do need (decide (j + off ≤ y.cells.length)); putD d (.val (.cptr y (j + off)))) := rfl
@[go_sem] theorem fieldK_r (off sl st ct : Nat) (p : Path) (i j : Nat) : fieldK d off (.r sl st ct p i j) = (do
    let _ ← rdAt sl st ct p
    putD d (.rp sl st ct p i (j + off))) := rfl
@[go_sem] theorem op_fieldAddr (s : TypeId) (x : Operand) (f : Nat) : opP C m st ⟨d, .fieldAddr s x f, t, p, a, g⟩ = (do
    let q ← opt (fieldT C.P s f)
    need ((sizeT C.P q.2).any fun n => decide (0 < n))
    let y ← asPtr (← ev C.P x 0)
    fieldK d q.1 y) := by
  show (do
    let (off, u) ← opt (fieldT C.P s f)
    need ((sizeT C.P u).any fun n => decide (0 < n))
    match ← asPtr (← ev C.P x 0) with
    | .c y j => do need (decide (j + off ≤ y.cells.length)); putD d (.val (.cptr y (j + off)))
    | .r sl st ct p i j => do
      let _ ← rdAt sl st ct p
      putD d (.rp sl st ct p i (j + off))) = _
  congr 1
/-- A field of a value. -/
def fieldB (d : Option Tmp) (off : Nat) (u : TypeId) : Bd → Prg Unit
  | .val (.agg cs) => do putD d (.val (← partV C.P u cs off))
  | .rv sl st ct p => do
    let v ← rdAt sl st ct p
    let cs ← opt (aggOf v)
    let v ← partV C.P u cs off
    if v.shared then putD d (.val v) else do
      need (!v.isAgg)
      putD d (.rv sl st ct (p ++ [(0, off)]))
  | _ => .fail
@[go_sem] theorem fieldB_val (off : Nat) (u : TypeId) (cs : List V) : fieldB C d off u (.val (.agg cs)) = (do putD d (.val (← partV C.P u cs off))) := rfl
@[go_sem] theorem fieldB_rv (off : Nat) (u : TypeId) (sl st ct : Nat) (p : Path) : fieldB C d off u (.rv sl st ct p) = (do
    let v ← rdAt sl st ct p
    let cs ← opt (aggOf v)
    let v ← partV C.P u cs off
    if v.shared then putD d (.val v) else do
      need (!v.isAgg)
      putD d (.rv sl st ct (p ++ [(0, off)]))) := rfl
/- s -/
theorem op_field (s : TypeId) (x : Operand) (f : Nat) (E : Env) (r w : Nat) (K : Unit → Env → Nat → Nat → Rs) : (opP C m st ⟨d, .field s x f, t, p, a, g⟩).go E r w K =
    bo (fieldT C.P s f) fun q => (ev C.P x s).go E r w fun b E r w => (fieldB C d q.1 q.2 b).go E r w K := by
  show (Prg.bind (opt (fieldT C.P s f)) _).go E r w K = _
  rw [show ∀ (x : Prg (Nat × TypeId)) (f : Nat × TypeId → Prg Unit), Prg.bind x f = (x >>= f) from fun _ _ => rfl, go_bind, go_opt]
  refine bo_ext fun q => ?_
  show (Prg.bind (ev C.P x s) _).go E r w K = _
  rw [show ∀ (x : Prg Bd) (f : Bd → Prg Unit), Prg.bind x f = (x >>= f) from fun _ _ => rfl, go_bind]
  congr 1; funext b E r w
  cases b with
  | val v => cases v <;> rfl
  | rv sl st ct p =>
    simp only [fieldB]
    show (Prg.bind (rdAt sl st ct p) _).go E r w K = _
    rw [show ∀ (x : Prg V) (f : V → Prg Unit), Prg.bind x f = (x >>= f) from fun _ _ => rfl]
    simp only [go_bind, go_rdAt, go_opt]
    refine bo_ext fun v => ?_
    cases v with
    | agg cs => simp only [aggOf_agg, bo_some, go_bind]
    | _ => rfl
  | _ => rfl
/- s -/
theorem op_indexAddr (u : TypeId) (x ix : Operand) (E : Env) (r w : Nat) (K : Unit → Env → Nat → Nat → Rs) : (opP C m st ⟨d, .indexAddr u x ix, t, p, a, g⟩).go E r w K =
    (ev C.P x u).go E r w fun b E r w => (evV C.P ix 3).go E r w fun v E r w => bo (i64Of v) fun n => (indexP C.P d u b n).go E r w K := by
  show (Prg.bind (ev C.P x u) _).go E r w K = _
  rw [show ∀ (x : Prg Bd) (f : Bd → Prg Unit), Prg.bind x f = (x >>= f) from fun _ _ => rfl, go_bind]
  congr 1; funext b E r w
  show (Prg.bind (evV C.P ix 3) _).go E r w K = _
  rw [show ∀ (x : Prg V) (f : V → Prg Unit), Prg.bind x f = (x >>= f) from fun _ _ => rfl, go_bind]
  congr 1; funext v E r w
  cases v <;> rfl
/-- Is it a pointer or a function? -/
def nilB (d : Option Tmp) (b : Bd) : Prg Unit :=
    match b with
    | .val (.cptr _ _) => putD d b
    | .val (.fn _ _) => putD d b
    | .rp s st ct p _ _ => do
      let _ ← rdAt s st ct p
      putD d b
    | .clo _ _ => putD d b
    | .rv s st ct p => do
      match ← rdAt s st ct p with
      | .box _ => putD d b
      | .cptr x j => putD d (.val (.cptr x j))
      | _ => .fail
    | _ => .fail
@[go_sem] theorem nilB_cptr (x : V) (j : Nat) : nilB d (.val (.cptr x j)) = putD d (.val (.cptr x j)) := rfl
@[go_sem] theorem nilB_fn (f : FuncId) (cs : List V) : nilB d (.val (.fn f cs)) = putD d (.val (.fn f cs)) := rfl
@[go_sem] theorem nilB_clo (f : FuncId) (cs : List Cap) : nilB d (.clo f cs) = putD d (.clo f cs) := rfl
@[go_sem] theorem nilB_rp (s st ct i j : Nat) (p : Path) : nilB d (.rp s st ct p i j) = (do
      let _ ← rdAt s st ct p
      putD d (.rp s st ct p i j)) := rfl
/-- What a checked pointer is. -/
def nilV (b : Bd) (v : V) : Option Bd := match v with | .box _ => some b | .cptr x j => some (.val (.cptr x j)) | _ => none
@[go_sem] theorem nilV_box (b : Bd) (x : V) : nilV b (.box x) = some b := rfl
@[go_sem] theorem nilV_cptr (b : Bd) (x : V) (j : Nat) : nilV b (.cptr x j) = some (.val (.cptr x j)) := rfl
/- s -/
theorem nilB_rv (s st ct : Nat) (p : Path) (E : Env) (r w : Nat) (K : Unit → Env → Nat → Nat → Rs) : (nilB d (.rv s st ct p)).go E r w K =
    bo ((E s).at st ct p) fun v => bo (nilV (.rv s st ct p) v) fun b => (putD d b).go E (r ||| 1 <<< s) w K := by
  simp only [nilB, go_bind, go_rdAt]
  refine bo_ext fun v => ?_
  cases v <;> rfl
@[go_sem] theorem op_nilCheck (x : Operand) : opP C m st ⟨d, .nilCheck x, t, p, a, g⟩ = (do
    let b ← ev C.P x t
    nilB d b) := rfl
end
end
end Go.Lm

namespace Go.Lm
noncomputable section
open Prg

theorem bind_is {α β : Type} (x : Prg α) (f : α → Prg β) : Prg.bind x f = (x >>= f) := rfl

section
variable (P : Program) (E : Env) (r w : Nat) (K : Unit → Env → Nat → Nat → Rs) (d : Option Tmp)
/-- A part of a struct's cells. -/
def partO (cs : List V) (off n : Nat) (ag : Bool) : Option V := if ag then (if off + n ≤ cs.length then some (.agg ((cs.drop off).take n)) else none) else cs[off]?
@[go_sem] theorem partO_f (cs : List V) (off n : Nat) : partO cs off n false = cs[off]? := rfl
theorem partO_t (cs : List V) (off n : Nat) : partO cs off n true = if off + n ≤ cs.length then some (.agg ((cs.drop off).take n)) else none := rfl
/- s -/
theorem go_partV (t : TypeId) (cs : List V) (off : Nat) (K : V → Env → Nat → Nat → Rs) : (partV P t cs off).go E r w K = bo (sizeT P t) fun n => bo (aggT P t) fun ag => bo (partO cs off n ag) fun v => K v E r w := by
  show (do
    let n ← opt (sizeT P t)
    let ag ← opt (aggT P t)
    if ag then do need (decide (off + n ≤ cs.length)); pure (.agg ((cs.drop off).take n))
    else opt (cs[off]?) : Prg V).go E r w K = _
  simp only [go_bind, go_opt, go_ite]
  refine bo_ext fun n => ?_; refine bo_ext fun ag => ?_
  cases ag
  · simp [br_ite, partO, go_opt]
  · simp only [br_ite, if_true, go_bind, go_need, go_pure, partO, nd_ite]
    by_cases h : off + n ≤ cs.length <;> simp [h, bo]
/-- The index of a slice. -/
def indexK (z : Nat) (n : Int) (d : Option Tmp) : Bd → Prg Unit
  | .val (.sl _ sz es) => do
    need (decide (0 ≤ n ∧ n.toNat < es.length) && sz == z)
    putD d (.val (.cptr (← opt (es[n.toNat]?)) 0))
  | .rv s st ct p => do
    match ← rdAt s st ct p with
    | .sl o sz es => do
      need (decide (0 ≤ n ∧ n.toNat < es.length) && sz == z)
      if o then putD d (.rp s st ct p n.toNat 0) else putD d (.val (.cptr (← opt (es[n.toNat]?)) 0))
    | _ => .fail
  | .rs s st ct p lo m => do
    match ← rdAt s st ct p with
    | .sl o sz es => do
      need (decide (0 ≤ n ∧ n.toNat < m ∧ lo + m ≤ es.length) && sz == z)
      if o then putD d (.rp s st ct p (lo + n.toNat) 0) else putD d (.val (.cptr (← opt (es[lo + n.toNat]?)) 0))
    | _ => .fail
  | _ => .fail
def indexArr (z : Nat) (n : Int) (d : Option Tmp) : Ptr → Prg Unit
  | .c x j => do need (decide (j + n.toNat * z ≤ x.cells.length)); putD d (.val (.cptr x (j + n.toNat * z)))
  | .r s st ct p i j => do
    let _ ← rdAt s st ct p
    putD d (.rp s st ct p i (j + n.toNat * z))
def slOf (v : V) : Option (Bool × Nat × List V) := match v with | .sl o z es => some (o, z, es) | _ => none
@[go_sem] theorem slOf_sl (o : Bool) (z : Nat) (es : List V) : slOf (.sl o z es) = some (o, z, es) := rfl
@[go_sem] theorem indexArr_c (z : Nat) (n : Int) (x : V) (j : Nat) : indexArr z n d (.c x j) = (do need (decide (j + n.toNat * z ≤ x.cells.length)); putD d (.val (.cptr x (j + n.toNat * z)))) := rfl
@[go_sem] theorem indexArr_r (z : Nat) (n : Int) (s st ct : Nat) (p : Path) (i j : Nat) : indexArr z n d (.r s st ct p i j) = (do
    let _ ← rdAt s st ct p
    putD d (.rp s st ct p i (j + n.toNat * z))) := rfl
/-- An index in bounds. -/
/- s -/
theorem indexK_val (z sz : Nat) (n : Int) (o : Bool) (es : List V) : (indexK z n d (.val (.sl o sz es))).go E r w K =
    nd ((0 ≤ n ∧ n.toNat < es.length) ∧ sz = z) fun _ => bo (es[n.toNat]?) fun e => (putD d (.val (.cptr e 0))).go E r w K := by
  show (do
    need (decide (0 ≤ n ∧ n.toNat < es.length) && sz == z)
    putD d (.val (.cptr (← opt (es[n.toNat]?)) 0)) : Prg Unit).go E r w K = _
  simp only [go_bind, go_need, go_opt, Bool.and_eq_true, decide_eq_true_eq, beq_iff_eq]
/- s -/
theorem indexK_rv (z : Nat) (n : Int) (s st ct : Nat) (p : Path) : (indexK z n d (.rv s st ct p)).go E r w K =
    bo ((E s).at st ct p) fun v => bo (slOf v) fun q => nd ((0 ≤ n ∧ n.toNat < q.2.2.length) ∧ q.2.1 = z) fun _ =>
      br (q.1 = true) (fun _ => (putD d (.rp s st ct p n.toNat 0)).go E (r ||| 1 <<< s) w K) (fun _ => bo (q.2.2[n.toNat]?) fun e => (putD d (.val (.cptr e 0))).go E (r ||| 1 <<< s) w K) := by
  simp only [indexK, go_bind, go_rdAt]
  refine bo_ext fun v => ?_
  cases v with
  | sl o sz es =>
    simp only [slOf_sl, bo_some, go_bind, go_need, Bool.and_eq_true, decide_eq_true_eq, beq_iff_eq]
    refine nd_ext ?_
    cases o <;> simp [br_ite, go_bind, go_opt]
  | _ => rfl
/- s -/
theorem indexK_rs (z : Nat) (n : Int) (s st ct lo m : Nat) (p : Path) : (indexK z n d (.rs s st ct p lo m)).go E r w K =
    bo ((E s).at st ct p) fun v => bo (slOf v) fun q => nd ((0 ≤ n ∧ n.toNat < m ∧ lo + m ≤ q.2.2.length) ∧ q.2.1 = z) fun _ =>
      br (q.1 = true) (fun _ => (putD d (.rp s st ct p (lo + n.toNat) 0)).go E (r ||| 1 <<< s) w K) (fun _ => bo (q.2.2[lo + n.toNat]?) fun e => (putD d (.val (.cptr e 0))).go E (r ||| 1 <<< s) w K) := by
  simp only [indexK, go_bind, go_rdAt]
  refine bo_ext fun v => ?_
  cases v with
  | sl o sz es =>
    simp only [slOf_sl, bo_some, go_bind, go_need, Bool.and_eq_true, decide_eq_true_eq, beq_iff_eq]
    refine nd_ext ?_
    cases o <;> simp [br_ite, go_bind, go_opt]
  | _ => rfl
/-- What an index is taken of. -/
inductive Ix where
  | sl (e : TypeId)
  | arr (n : Nat) (e : TypeId)
  | str
  | no
def ixOf (u : Option TypeDesc) : Ix := match u with | some (.slice e) => .sl e | some (.array n e) => .arr n e | some .string => .str | _ => .no
def indexAll (P : Program) (d : Option Tmp) (b : Bd) (n : Int) : Ix → Prg Unit
  | .sl e => do let z ← opt (sizeT P e); indexK z n d b
  | .arr len e => do
    let z ← opt (sizeT P e)
    need (decide (0 ≤ n ∧ n < len))
    let q ← asPtr b
    indexArr z n d q
  | _ => .fail
@[go_sem] theorem indexAll_sl (b : Bd) (n : Int) (e : TypeId) : indexAll P d b n (.sl e) = (do let z ← opt (sizeT P e); indexK z n d b) := rfl
@[go_sem] theorem indexAll_arr (b : Bd) (n : Int) (len : Nat) (e : TypeId) : indexAll P d b n (.arr len e) = (do
    let z ← opt (sizeT P e)
    need (decide (0 ≤ n ∧ n < len))
    let q ← asPtr b
    indexArr z n d q) := rfl
@[go_sem] theorem go_indexP (t : TypeId) (b : Bd) (n : Int) : indexP P d t b n = indexAll P d b n (ixOf (P.underlying t)) := by
  unfold indexP
  cases P.underlying t with
  | none => rfl
  | some q =>
    cases q with
    | slice e =>
      simp only [ixOf, indexAll]
      congr 1
    | array n e =>
      simp only [ixOf, indexAll]
      congr 1
    | _ => rfl
/-- A value's index. -/
def indexV (P : Program) (x : V) (n : Int) (d : Option Tmp) : Ix → Prg Unit
  | .str => match x with
    | .str s => do
      need (decide (0 ≤ n ∧ n.toNat < s.size))
      putD d (.val (.int .u8 ((s.data.getD n.toNat 0).toNat : Nat)))
    | _ => .fail
  | .arr len e => match x with
    | .agg cs => do
      let z ← opt (sizeT P e)
      need (decide (0 ≤ n ∧ n < len))
      let v ← partV P e cs (n.toNat * z)
      need v.solid
      putD d (.val v)
    | _ => .fail
  | _ => .fail
@[go_sem] theorem indexV_str (n : Int) (s : ByteArray) : indexV P (.str s) n d .str = (do
      need (decide (0 ≤ n ∧ n.toNat < s.size))
      putD d (.val (.int .u8 ((s.data.getD n.toNat 0).toNat : Nat)))) := rfl
@[go_sem] theorem indexV_arr (n : Int) (len : Nat) (e : TypeId) (cs : List V) : indexV P (.agg cs) n d (.arr len e) = (do
      let z ← opt (sizeT P e)
      need (decide (0 ≤ n ∧ n < len))
      let v ← partV P e cs (n.toNat * z)
      need v.solid
      putD d (.val v)) := rfl
/-- The bounds of a part. -/
def lenB (b : Bd) (E : Env) (r w : Nat) (K : Int → Env → Nat → Nat → Rs) : Rs := match b with
  | .val (.sl _ _ es) => K es.length E r w
  | .rv s st ct p => bo ((E s).at st ct p) fun v => bo (slOf v) fun q => K q.2.2.length E (r ||| 1 <<< s) w
  | .rs s st ct p _ n => bo ((E s).at st ct p) fun _ => K n E (r ||| 1 <<< s) w
  | _ => none
/- s -/
theorem lenB_val (o : Bool) (z : Nat) (es : List V) (K : Int → Env → Nat → Nat → Rs) : lenB (.val (.sl o z es)) E r w K = K es.length E r w := rfl
/- s -/
theorem lenB_rv (s st ct : Nat) (p : Path) (K : Int → Env → Nat → Nat → Rs) : lenB (.rv s st ct p) E r w K = bo ((E s).at st ct p) fun v => bo (slOf v) fun q => K q.2.2.length E (r ||| 1 <<< s) w := rfl
/- s -/
theorem lenB_rs (s st ct lo n : Nat) (p : Path) (K : Int → Env → Nat → Nat → Rs) : lenB (.rs s st ct p lo n) E r w K = bo ((E s).at st ct p) fun _ => K n E (r ||| 1 <<< s) w := rfl
def strOf (v : V) : Option ByteArray := match v with | .str s => some s | _ => none
@[go_sem] theorem strOf_str (s : ByteArray) : strOf (.str s) = some s := rfl
def lenAll (d : Option Tmp) (b : Bd) (E : Env) (r w : Nat) (K : Unit → Env → Nat → Nat → Rs) : Ix → Rs
  | .str => (readB b).go E r w fun v E r w => bo (strOf v) fun s => (putD d (.val (.int .i64 s.size))).go E r w K
  | .arr n _ => (putD d (.val (.int .i64 n))).go E r w K
  | .sl _ => lenB b E r w fun n E r w => (putD d (.val (.int .i64 n))).go E r w K
  | .no => none
/- s -/
theorem lenAll_str (b : Bd) : lenAll d b E r w K .str = (readB b).go E r w fun v E r w => bo (strOf v) fun s => (putD d (.val (.int .i64 s.size))).go E r w K := rfl
/- s -/
theorem lenAll_arr (b : Bd) (n : Nat) (e : TypeId) : lenAll d b E r w K (.arr n e) = (putD d (.val (.int .i64 n))).go E r w K := rfl
/- s -/
theorem lenAll_sl (b : Bd) (e : TypeId) : lenAll d b E r w K (.sl e) = lenB b E r w fun n E r w => (putD d (.val (.int .i64 n))).go E r w K := rfl
/- s -/
theorem go_lenP (t : TypeId) (b : Bd) : (lenP P d t b).go E r w K = lenAll d b E r w K (ixOf (P.underlying t)) := by
  unfold lenP
  cases P.underlying t with
  | none => rfl
  | some q =>
    cases q with
    | string =>
      simp only [ixOf, lenAll, go_bind]
      congr 1; funext v E r w
      cases v <;> rfl
    | slice e =>
      simp only [ixOf, lenAll]
      cases b with
      | val v => cases v <;> rfl
      | rv s st ct p =>
        simp only [lenB, go_bind, go_rdAt]
        refine bo_ext fun v => ?_
        cases v <;> rfl
      | rs s st ct p lo n => simp only [lenB, go_bind, go_rdAt]
      | _ => rfl
    | _ => rfl
/-- A part of a slice or string. -/
def sliceAll (P : Program) (d : Option Tmp) (b : Bd) (l : Int) (hi : Option Int) (E : Env) (r w : Nat) (K : Unit → Env → Nat → Nat → Rs) : Ix → Rs
  | .str => (readB b).go E r w fun v E r w => bo (strOf v) fun s => nd (l ≤ hi.getD s.size ∧ hi.getD s.size ≤ s.size) fun _ => (putD d (.val (.str (s.extract l.toNat (hi.getD s.size).toNat)))).go E r w K
  | .sl e => bo (sizeT P e) fun z => match b with
    | .val (.sl _ sz es) => nd ((l ≤ hi.getD es.length ∧ hi.getD es.length ≤ es.length) ∧ sz = z) fun _ =>
        (putD d (.val (.sl false sz ((es.drop l.toNat).take ((hi.getD es.length).toNat - l.toNat))))).go E r w K
    | .rv s st ct p => bo ((E s).at st ct p) fun v => bo (slOf v) fun q => nd ((l ≤ hi.getD q.2.2.length ∧ hi.getD q.2.2.length ≤ q.2.2.length) ∧ q.2.1 = z) fun _ =>
        br (q.1 = true) (fun _ => (putD d (.rs s st ct p l.toNat ((hi.getD q.2.2.length).toNat - l.toNat))).go E (r ||| 1 <<< s) w K)
          (fun _ => (putD d (.val (.sl false q.2.1 ((q.2.2.drop l.toNat).take ((hi.getD q.2.2.length).toNat - l.toNat))))).go E (r ||| 1 <<< s) w K)
    | .rs s st ct p lo0 n => bo ((E s).at st ct p) fun v => bo (slOf v) fun q => nd (((l ≤ hi.getD n ∧ hi.getD n ≤ n ∧ lo0 + n ≤ q.2.2.length) ∧ q.2.1 = z) ∧ q.1 = true) fun _ =>
        (putD d (.rs s st ct p (lo0 + l.toNat) ((hi.getD n).toNat - l.toNat))).go E (r ||| 1 <<< s) w K
    | _ => none
  | _ => none
/- s -/
theorem sliceAll_str (b : Bd) (l : Int) (hi : Option Int) : sliceAll P d b l hi E r w K .str =
  (readB b).go E r w fun v E r w => bo (strOf v) fun s => nd (l ≤ hi.getD s.size ∧ hi.getD s.size ≤ s.size) fun _ => (putD d (.val (.str (s.extract l.toNat (hi.getD s.size).toNat)))).go E r w K := rfl
/- s -/
theorem sliceAll_val (l : Int) (hi : Option Int) (e : TypeId) (o : Bool) (sz : Nat) (es : List V) : sliceAll P d (.val (.sl o sz es)) l hi E r w K (.sl e) = bo (sizeT P e) fun z =>
    nd ((l ≤ hi.getD es.length ∧ hi.getD es.length ≤ es.length) ∧ sz = z) fun _ =>
        (putD d (.val (.sl false sz ((es.drop l.toNat).take ((hi.getD es.length).toNat - l.toNat))))).go E r w K := rfl
/- s -/
theorem sliceAll_rv (l : Int) (hi : Option Int) (e : TypeId) (s st ct : Nat) (p : Path) : sliceAll P d (.rv s st ct p) l hi E r w K (.sl e) = bo (sizeT P e) fun z =>
    bo ((E s).at st ct p) fun v => bo (slOf v) fun q => nd ((l ≤ hi.getD q.2.2.length ∧ hi.getD q.2.2.length ≤ q.2.2.length) ∧ q.2.1 = z) fun _ =>
        br (q.1 = true) (fun _ => (putD d (.rs s st ct p l.toNat ((hi.getD q.2.2.length).toNat - l.toNat))).go E (r ||| 1 <<< s) w K)
          (fun _ => (putD d (.val (.sl false q.2.1 ((q.2.2.drop l.toNat).take ((hi.getD q.2.2.length).toNat - l.toNat))))).go E (r ||| 1 <<< s) w K) := rfl
/- s -/
theorem sliceAll_rs (l : Int) (hi : Option Int) (e : TypeId) (s st ct lo0 n : Nat) (p : Path) : sliceAll P d (.rs s st ct p lo0 n) l hi E r w K (.sl e) = bo (sizeT P e) fun z =>
    bo ((E s).at st ct p) fun v => bo (slOf v) fun q => nd (((l ≤ hi.getD n ∧ hi.getD n ≤ n ∧ lo0 + n ≤ q.2.2.length) ∧ q.2.1 = z) ∧ q.1 = true) fun _ =>
        (putD d (.rs s st ct p (lo0 + l.toNat) ((hi.getD n).toNat - l.toNat))).go E (r ||| 1 <<< s) w K := rfl
/- s -/
theorem go_sliceP (t : TypeId) (b : Bd) (lo hi : Option Int) : (sliceP P d t b lo hi).go E r w K = nd (0 ≤ lo.getD 0) fun _ => sliceAll P d b (lo.getD 0) hi E r w K (ixOf (P.underlying t)) := by
  unfold sliceP
  simp only [go_bind, go_need, decide_eq_true_eq]
  refine nd_ext ?_
  cases P.underlying t with
  | none => rfl
  | some q =>
    cases q with
    | string =>
      simp only [ixOf, sliceAll, go_bind]
      congr 1; funext v E r w
      cases v with
      | str s => simp only [strOf_str, bo_some, go_bind, go_need, decide_eq_true_eq]
      | _ => rfl
    | slice e =>
      simp only [ixOf, sliceAll, go_bind, go_opt]
      refine bo_ext fun z => ?_
      cases b with
      | val v =>
        cases v with
        | sl o sz es => simp only [go_bind, go_need, Bool.and_eq_true, decide_eq_true_eq, beq_iff_eq]
        | _ => rfl
      | rv s st ct p =>
        simp only [go_bind, go_rdAt]
        refine bo_ext fun v => ?_
        cases v with
        | sl o sz es =>
          simp only [slOf_sl, bo_some, go_bind, go_need, Bool.and_eq_true, decide_eq_true_eq, beq_iff_eq, go_ite]
        | _ => rfl
      | rs s st ct p lo n =>
        simp only [go_bind, go_rdAt]
        refine bo_ext fun v => ?_
        cases v with
        | sl o sz es => simp only [slOf_sl, bo_some, go_bind, go_need, Bool.and_eq_true, decide_eq_true_eq, beq_iff_eq]
        | _ => rfl
      | _ => rfl
    | _ => rfl
end
end
end Go.Lm

namespace Go.Lm
noncomputable section
open Prg

section
variable (C : Ctx) (m : Sem_) (st : Nat) (d : Option Tmp) (t : TypeId) (p : String) (a : Array Edge) (g : Option (Nat × Bool))
variable (E : Env) (r w : Nat) (K : Unit → Env → Nat → Nat → Rs)

/- s -/
theorem op_index (u : TypeId) (x ix : Operand) : (opP C m st ⟨d, .index u x ix, t, p, a, g⟩).go E r w K =
    (evV C.P x u).go E r w fun b E r w => (evV C.P ix 3).go E r w fun v E r w => bo (i64Of v) fun n => (indexV C.P b n d (ixOf (C.P.underlying u))).go E r w K := by
  show (Prg.bind (evV C.P x u) _).go E r w K = _
  rw [bind_is, go_bind]
  congr 1; funext b E r w
  show (Prg.bind (evV C.P ix 3) _).go E r w K = _
  rw [bind_is, go_bind]
  congr 1; funext v E r w
  cases v with
  | int k n =>
    simp only [i64Of_int, bo_some]
    cases b with
    | str s =>
      cases C.P.underlying u with
      | none => rfl
      | some q => cases q <;> rfl
    | agg cs =>
      cases C.P.underlying u with
      | none => rfl
      | some q => cases q <;> rfl
    | _ =>
      cases C.P.underlying u with
      | none => rfl
      | some q => cases q <;> rfl
  | _ => cases b <;> rfl
def tupOf (v : V) : Option (List V) := match v with | .tup vs => some vs | _ => none
@[go_sem] theorem tupOf_tup (vs : List V) : tupOf (.tup vs) = some vs := rfl
def extB (d : Option Tmp) (st i : Nat) : Bd → Prg Unit
  | .val (.tup vs) => do putD d (.val (← opt (vs[i]?)))
  | .rv s s1 c [] => do
    let x ← rdAt s s1 c []
    let vs ← opt (tupOf x)
    let v ← opt (vs[i]?)
    if v.shared then putD d (.val v) else do
      wrAt s s1 c [] (.tup (vs.set i .any)) none
      putD d (.own st st v)
  | _ => .fail
@[go_sem] theorem extB_val (i : Nat) (vs : List V) : extB d st i (.val (.tup vs)) = (do putD d (.val (← opt (vs[i]?)))) := rfl
@[go_sem] theorem extB_rv (i s s1 c : Nat) : extB d st i (.rv s s1 c []) = (do
    let x ← rdAt s s1 c []
    let vs ← opt (tupOf x)
    let v ← opt (vs[i]?)
    if v.shared then putD d (.val v) else do
      wrAt s s1 c [] (.tup (vs.set i .any)) none
      putD d (.own st st v)) := rfl
/- s -/
theorem op_extract (x : Operand) (i : Nat) : (opP C m st ⟨d, .extract x i, t, p, a, g⟩).go E r w K = (ev C.P x 0).go E r w fun b E r w => (extB d st i b).go E r w K := by
  show (Prg.bind (ev C.P x 0) _).go E r w K = _
  rw [bind_is, go_bind]
  congr 1; funext b E r w
  cases b with
  | val v => cases v <;> rfl
  | rv s s1 c pp =>
    cases pp with
    | nil =>
      simp only [extB]
      show (Prg.bind (rdAt s s1 c []) _).go E r w K = _
      rw [bind_is]
      simp only [go_bind, go_rdAt, go_opt]
      refine bo_ext fun v => ?_
      cases v with
      | tup vs => simp only [tupOf_tup, bo_some, go_bind, go_opt]
      | _ => rfl
    | cons => rfl
  | _ => rfl

/-! Appends. -/
def ownSl (v : V) : Option (Nat × List V) := match v with | .sl true sz es => some (sz, es) | _ => none
@[go_sem] theorem ownSl_sl (sz : Nat) (es : List V) : ownSl (.sl true sz es) = some (sz, es) := rfl
/- s -/
theorem go_appended (e : TypeId) (b : Bd) (K : Nat × List V → Env → Nat → Nat → Rs) : (appended C.P e b).go E r w K =
    br (pureT C.P 12 e = true) (fun _ => (readB b).go E r w fun v E r w => bo (slOf v) fun q => nd (leaves q.2.2 = true) fun _ => K q.2 E r w)
      (fun _ => (takeB b).go E r w fun v E r w => bo (slOf v.2) fun q => K q.2 E r w) := by
  unfold appended; rw [br_ite]
  split
  · rename_i h
    simp only [go_bind]
    congr 1; funext v E r w
    cases v with
    | sl o sz es => simp only [slOf_sl, bo_some, go_bind, go_need, go_pure]
    | _ => rfl
  · simp only [go_bind]
    congr 1; funext v E r w
    obtain ⟨o, v⟩ := v
    cases v with
    | sl o sz es => simp only [slOf_sl, bo_some, go_pure]
    | _ => rfl
/-- Two elements' kinds that an append joins. -/
/- s -/
theorem go_appendP (t0 t1 : TypeId) (x y : Bd) : (appendP C.P st d t0 t1 x y).go E r w K =
    bo (elemT C.P t0) fun e => bo (elemT C.P t1) fun e1 => bo (sizeT C.P e) fun z => bo (sizeT C.P e1) fun z1 => bo (bytesT C.P e) fun by_ => bo (zeroT C.P e) fun z0 =>
      nd ((decide (z0.cells.length = z ∧ 0 < z) && z0.cells.all V.isCell) = true) fun _ => (takeB x).go E r w fun v E r w => bo (ownSl v.2) fun q =>
        (appended C.P e y).go E r w fun q1 E r w => nd ((q.1 == z && (q1.1 == z || q1.2.isEmpty) && z1 == z) = true) fun _ =>
          nd ((q.2.length + q1.2.length) * by_ ≤ 70368744177664 ∧ 0 < by_) fun _ => (putD d (.own st st (.sl true z (q.2 ++ q1.2)))).go E r w K := by
  unfold appendP
  simp only [go_bind, go_opt, go_need]
  refine bo_ext fun e => ?_; refine bo_ext fun e1 => ?_; refine bo_ext fun z => ?_; refine bo_ext fun z1 => ?_; refine bo_ext fun by_ => ?_; refine bo_ext fun z0 => ?_; refine nd_ext ?_; congr 1; funext v E r w
  obtain ⟨o, v⟩ := v
  cases v with
  | sl o sz es =>
    cases o
    · rfl
    · simp only [ownSl_sl, bo_some, go_bind, go_need, decide_eq_true_eq]
  | _ => rfl

/-! Conversions. -/
def u8Of (u : Option TypeDesc) : Option Unit := match u with | some (.int .u8) => some () | _ => none
@[go_sem] theorem u8Of_u8 : u8Of (some (.int .u8)) = some () := rfl
def convK (P : Program) (st : Nat) (d : Option Tmp) (us ut : Option TypeDesc) (v : V) : Prg Unit :=
  match us, ut, v with
  | some _, some (.int k), .int _ n => putD d (.val (.int k (k.wrap n)))
  | some _, some .string, .str s => putD d (.val (.str s))
  | some (.slice e), some .string, .sl _ _ es => do
    let _ ← opt (u8Of (P.underlying e))
    putD d (.val (.str ⟨(← opt (bytesOf es)).toArray⟩))
  | some _, some (.slice e), .str s => do
    let _ ← opt (u8Of (P.underlying e))
    need (decide (s.size ≤ 1099511627776))
    putD d (.own st st (.sl true 1 (s.data.toList.map fun b => .int .u8 b.toNat)))
  | _, _, _ => .fail
@[go_sem] theorem convK_int (P : Program) (u : TypeDesc) (k k' : IntKind) (n : Int) : convK P st d (some u) (some (.int k)) (.int k' n) = putD d (.val (.int k (k.wrap n))) := by
  cases u <;> rfl
@[go_sem] theorem convK_strstr (P : Program) (u : TypeDesc) (s : ByteArray) : convK P st d (some u) (some .string) (.str s) = putD d (.val (.str s)) := by
  cases u <;> rfl
@[go_sem] theorem convK_bytes (P : Program) (e : TypeId) (o : Bool) (z : Nat) (es : List V) : convK P st d (some (.slice e)) (some .string) (.sl o z es) = (do
    let _ ← opt (u8Of (P.underlying e))
    putD d (.val (.str ⟨(← opt (bytesOf es)).toArray⟩))) := rfl
@[go_sem] theorem convK_toBytes (P : Program) (u : TypeDesc) (e : TypeId) (s : ByteArray) : convK P st d (some u) (some (.slice e)) (.str s) = (do
    let _ ← opt (u8Of (P.underlying e))
    need (decide (s.size ≤ 1099511627776))
    putD d (.own st st (.sl true 1 (s.data.toList.map fun b => .int .u8 b.toNat)))) := by
  cases u <;> rfl
@[go_sem] theorem go_convP (src to : TypeId) (x : Operand) : convP C.P st d src to x = (do let v ← evV C.P x src; convK C.P st d (C.P.underlying src) (C.P.underlying to) v) := by
  unfold convP
  congr 1; funext v
  cases hs : C.P.underlying src with
  | none => rfl
  | some us =>
    cases ht : C.P.underlying to with
    | none => cases us <;> rfl
    | some ut =>
      cases ut with
      | int k => cases v <;> cases us <;> rfl
      | string =>
        cases v with
        | str s => cases us <;> rfl
        | sl o z es =>
          cases us with
          | slice e =>
            simp only [convK_bytes]
            generalize C.P.underlying e = ue
            cases ue with
            | none => rfl
            | some q =>
              cases q with
              | int k => cases k <;> rfl
              | _ => rfl
          | _ => rfl
        | _ => cases us <;> rfl
      | slice e =>
        cases v with
        | str s =>
          simp only [convK_toBytes]
          generalize C.P.underlying e = ue
          cases ue with
          | none => cases us <;> rfl
          | some q =>
            cases q with
            | int k => cases k <;> cases us <;> rfl
            | _ => cases us <;> rfl
        | _ => cases us <;> rfl
      | _ => cases v <;> cases us <;> rfl

/-! Calls. -/
@[go_sem] theorem op_call (c : Call) : opP C m st ⟨d, .call c, t, p, a, g⟩ = calleeP C m st ⟨d, .call c, t, p, a, g⟩ c := rfl
@[go_sem] theorem call_len (o : Oper) (x : Operand) (u : TypeId) : calleeP C m st o ⟨.builtin .len, #[x], #[u]⟩ = (do lenP C.P o.dst u (← ev C.P x u)) := rfl
@[go_sem] theorem call_append (o : Oper) (x y : Operand) (u v : TypeId) : calleeP C m st o ⟨.builtin .append, #[x, y], #[u, v]⟩ = (do
    let b ← ev C.P x u
    let b' ← ev C.P y v
    appendP C.P st o.dst u v b b') := rfl
theorem call_mm (b : Bool) (o : Oper) (x y : Operand) (u v : TypeId) : (do
    match ← evVs C.P [(x, u), (y, v)] with
    | v :: vs => do need (!vs.isEmpty); putD o.dst (.val (← opt (minmax b v vs)))
    | [] => .fail : Prg Unit).go E r w K = (evV C.P x u).go E r w fun x E r w => (evV C.P y v).go E r w fun y E r w => bo (minmax b x [y]) fun z => (putD o.dst (.val z)).go E r w K := by
  simp only [evVs, go_bind, go_pure, go_opt, go_need, List.isEmpty_cons, Bool.not_false]
  simp only [nd_ite, if_true]
/- s -/
theorem call_min (o : Oper) (x y : Operand) (u v : TypeId) : (calleeP C m st o ⟨.builtin .min, #[x, y], #[u, v]⟩).go E r w K =
    (evV C.P x u).go E r w fun x E r w => (evV C.P y v).go E r w fun y E r w => bo (minmax true x [y]) fun z => (putD o.dst (.val z)).go E r w K := by
  rw [← call_mm]; rfl
/- s -/
theorem call_max (o : Oper) (x y : Operand) (u v : TypeId) : (calleeP C m st o ⟨.builtin .max, #[x, y], #[u, v]⟩).go E r w K =
    (evV C.P x u).go E r w fun x E r w => (evV C.P y v).go E r w fun y E r w => bo (minmax false x [y]) fun z => (putD o.dst (.val z)).go E r w K := by
  rw [← call_mm]; rfl
@[go_sem] theorem minmax_min (k k' : IntKind) (x y : Int) : minmax true (.int k x) [.int k' y] = some (.int k (min y x)) := by
  simp only [minmax, if_true, Option.some.injEq, V.int.injEq, true_and, Int.min_def]
  split <;> split <;> omega
@[go_sem] theorem minmax_max (k k' : IntKind) (x y : Int) : minmax false (.int k x) [.int k' y] = some (.int k (max y x)) := by
  simp only [minmax, Bool.false_eq_true, if_false, Option.some.injEq, V.int.injEq, true_and, Int.max_def]
  split <;> split <;> omega

/-- A function's shape: how many results, and are they plain. -/
def sig (C : Ctx) (f : FuncId) : Option (Nat × Bool) :=
  (C.P.funcs[f]?).bind fun fn => if fn.body.isSome && fn.name != "runtime.NumGoroutine" then some (fn.resultTypes.size, fn.resultTypes.all fun u => pureT C.P 12 u) else none
/-- What a call's results must be. -/
def outsOk (k n l : Nat) (pu flag : Bool) (outs : List V) : Bool :=
  decide (k ≤ outs.length) && decide (n ≤ 14 ∧ l ≤ n) && (!pu || V.plain.plainL (outs.take k)) && (!flag || (pu && outs.length == k) || V.deep.deepL outs)
/- s -/
theorem go_callP (f : FuncId) (vals : List V) (flag : Bool) (ls : List (Option (V × Place))) : (callP C m st d f vals flag ls).go E r w K =
    bo (sig C f) fun q => bo (m (.func f) vals) fun outs => nd (outsOk q.1 ls.length (C.mt f).length q.2 flag outs = true) fun _ =>
      (giveBack (st + 1) ls (outs.drop q.1)).go E r w fun _ E r w => (putD d (mk (!q.2) st (packR (outs.take q.1)))).go E r w K := by
  unfold callP sig
  simp only [go_bind, go_opt, go_need]
  cases hf : C.P.funcs[f]? with
  | none => rfl
  | some fn =>
    simp only [bo_some, Option.bind_some]
    cases hb : (fn.body.isSome && fn.name != "runtime.NumGoroutine") with
    | false => simp [nd_ite, bo]
    | true => simp only [nd_true, if_true, bo_some, outsOk]
/- s -/
theorem call_func (o : Oper) (f : FuncId) (args : Array Operand) (ts : Array TypeId) : (calleeP C m st o ⟨.value (.func f), args, ts⟩).go E r w K =
    nd (args.size = ts.size) fun _ => (lendP C (C.mt f) (args.toList.zip ts.toList)).go E r w fun ls E r w => (readP C ls (args.toList.zip ts.toList)).go E r w fun q E r w => (callP C m st o.dst f q.1 q.2 ls).go E r w K := by
  show (do
    need (decide (args.size = ts.size))
    let ls ← lendP C (C.mt f) (args.toList.zip ts.toList)
    let q ← readP C ls (args.toList.zip ts.toList)
    callP C m st o.dst f q.1 q.2 ls : Prg Unit).go E r w K = _
  simp only [go_bind, go_need, decide_eq_true_eq]
/-- A function value. -/
def cloOf (b : Bd) : Option (FuncId × List Cap × List V) := match b with | .val (.fn f caps) => some (f, [], caps) | .clo f caps => some (f, caps, []) | _ => none
@[go_sem] theorem cloOf_fn (f : FuncId) (caps : List V) : cloOf (.val (.fn f caps)) = some (f, [], caps) := rfl
@[go_sem] theorem cloOf_clo (f : FuncId) (caps : List Cap) : cloOf (.clo f caps) = some (f, caps, []) := rfl
/- s -/
theorem call_tmp (o : Oper) (s : Nat) (args : Array Operand) (ts : Array TypeId) : (calleeP C m st o ⟨.value (.tmp s), args, ts⟩).go E r w K =
    nd (args.size = ts.size) fun _ => (ev C.P (.tmp s) 0).go E r w fun b E r w => bo (cloOf b) fun c => (lendP C (C.mt c.1) (args.toList.zip ts.toList)).go E r w fun ls E r w =>
      (readP C ls (args.toList.zip ts.toList)).go E r w fun q E r w => (readCaps c.2.1).go E r w fun cs E r w => (callP C m st o.dst c.1 (q.1 ++ cs ++ c.2.2) (q.2 || !c.2.1.isEmpty) ls).go E r w K := by
  show (Prg.bind (need (decide (args.size = ts.size))) _).go E r w K = _
  rw [bind_is, go_bind, go_need]
  simp only [decide_eq_true_eq]
  refine nd_ext ?_
  show (Prg.bind (ev C.P (.tmp s) 0) _).go E r w K = _
  rw [bind_is, go_bind]
  congr 1; funext b E r w
  cases b with
  | val v =>
    cases v with
    | fn f caps =>
      simp only [cloOf_fn, bo_some, go_readCaps_nil, List.append_nil, List.isEmpty_nil, Bool.not_true, Bool.or_false]
      show (do
        let ls ← lendP C (C.mt f) (args.toList.zip ts.toList)
        let q ← readP C ls (args.toList.zip ts.toList)
        callP C m st o.dst f (q.1 ++ caps) q.2 ls : Prg Unit).go E r w K = _
      simp only [go_bind]
    | _ => rfl
  | clo f caps =>
    simp only [cloOf_clo, bo_some, List.append_nil]
    show (do
      let ls ← lendP C (C.mt f) (args.toList.zip ts.toList)
      let q ← readP C ls (args.toList.zip ts.toList)
      let cs ← readCaps caps
      callP C m st o.dst f (q.1 ++ cs) (q.2 || !caps.isEmpty) ls : Prg Unit).go E r w K = _
    simp only [go_bind]
  | _ => rfl
/- s -/
theorem lend_nil (ws : List Bool) (K : List (Option (V × Place)) → Env → Nat → Nat → Rs) : (lendP C ws []).go E r w K = K [] E r w := by cases ws <;> rfl
/- s -/
theorem lend_f (x : Operand) (u : TypeId) (l : List (Operand × TypeId)) (ws : List Bool) (K : List (Option (V × Place)) → Env → Nat → Nat → Rs) :
    (lendP C (false :: ws) ((x, u) :: l)).go E r w K = (lendP C ws l).go E r w fun ls E r w => K (none :: ls) E r w := by
  show (do let a ← lend1 C false x u; let as ← lendP C ws l; pure (a :: as) : Prg _).go E r w K = _
  simp only [go_bind, lend1, Bool.false_eq_true, if_false, go_pure]
/- s -/
theorem lend_0 (x : Operand) (u : TypeId) (l : List (Operand × TypeId)) (K : List (Option (V × Place)) → Env → Nat → Nat → Rs) :
    (lendP C [] ((x, u) :: l)).go E r w K = (lendP C [] l).go E r w fun ls E r w => K (none :: ls) E r w := by
  show (do let a ← lend1 C false x u; let as ← lendP C [] l; pure (a :: as) : Prg _).go E r w K = _
  simp only [go_bind, lend1, Bool.false_eq_true, if_false, go_pure]
def rvOf (b : Bd) : Option Place := match b with | .rv s st ct p => some ⟨s, st, ct, p⟩ | _ => none
@[go_sem] theorem rvOf_rv (s st ct : Nat) (p : Path) : rvOf (.rv s st ct p) = some ⟨s, st, ct, p⟩ := rfl
/- s -/
theorem lend_t (x : Operand) (u : TypeId) (l : List (Operand × TypeId)) (ws : List Bool) (K : List (Option (V × Place)) → Env → Nat → Nat → Rs) :
    (lendP C (true :: ws) ((x, u) :: l)).go E r w K = (ev C.P x u).go E r w fun b E r w => bo (rvOf b) fun q => (rdAt q.s q.st q.ct q.p).go E r w fun v E r w =>
      (clearAt q.s q.st q.ct q.p).go E r w fun _ E r w => (lendP C ws l).go E r w fun ls E r w => K (some (v, q) :: ls) E r w := by
  show (do let a ← lend1 C true x u; let as ← lendP C ws l; pure (a :: as) : Prg _).go E r w K = _
  simp only [go_bind, lend1, if_true, go_pure]
  congr 1; funext b E r w
  cases b with
  | rv s st ct p => simp only [rvOf_rv, bo_some, go_bind, go_pure]
  | _ => rfl
/- s -/
theorem read_nil (ls : List (Option (V × Place))) (K : List V × Bool → Env → Nat → Nat → Rs) : (readP C ls []).go E r w K = K ([], false) E r w := by cases ls <;> rfl
/- s -/
theorem read_some (v : V) (q : Place) (ls : List (Option (V × Place))) (x : Operand × TypeId) (l : List (Operand × TypeId)) (K : List V × Bool → Env → Nat → Nat → Rs) :
    (readP C (some (v, q) :: ls) (x :: l)).go E r w K = (readP C ls l).go E r w fun z E r w => K (v :: z.1, z.2) E r w := by
  show (do let z ← readP C ls l; pure (v :: z.1, z.2) : Prg _).go E r w K = _
  simp only [go_bind, go_pure]
/- s -/
theorem read_none (ls : List (Option (V × Place))) (x : Operand) (u : TypeId) (l : List (Operand × TypeId)) (K : List V × Bool → Env → Nat → Nat → Rs) :
    (readP C (none :: ls) ((x, u) :: l)).go E r w K = (read1 C x u).go E r w fun v E r w => (readP C ls l).go E r w fun z E r w => K (v.1 :: z.1, v.2 || z.2) E r w := by
  show (do let v ← read1 C x u; let z ← readP C ls l; pure (v.1 :: z.1, v.2 || z.2) : Prg _).go E r w K = _
  simp only [go_bind, go_pure]
/-- One argument. -/
def readK (s' : Nat) : Bd → Prg (V × Bool)
  | .val v => pure (v, false)
  | .rv s st ct [] => if s = s' then readRoot s st ct else do
    let v ← readB (.rv s st ct [])
    pure (v, !v.plain)
  | b => do
    let v ← readB b
    pure (v, !v.plain)
/- s -/
theorem readK_val (s' : Nat) (v : V) (K : V × Bool → Env → Nat → Nat → Rs) : (readK s' (.val v)).go E r w K = K (v, false) E r w := rfl
/- s -/
theorem readK_rv0 (s' s s1 ct : Nat) (K : V × Bool → Env → Nat → Nat → Rs) : (readK s' (.rv s s1 ct [])).go E r w K =
    br (s = s') (fun _ => (readRoot s s1 ct).go E r w K) (fun _ => (readB (.rv s s1 ct [])).go E r w fun v E r w => K (v, !v.plain) E r w) := by
  show (if s = s' then readRoot s s1 ct else do
    let v ← readB (.rv s s1 ct [])
    pure (v, !v.plain) : Prg _).go E r w K = _
  simp only [go_ite, br_ite, go_bind, go_pure]
/- s -/
theorem readK_rv1 (s' s s1 ct : Nat) (q : Nat × Nat) (pp : Path) (K : V × Bool → Env → Nat → Nat → Rs) : (readK s' (.rv s s1 ct (q :: pp))).go E r w K = (readB (.rv s s1 ct (q :: pp))).go E r w fun v E r w => K (v, !v.plain) E r w := by
  show (do
    let v ← readB (.rv s s1 ct (q :: pp))
    pure (v, !v.plain) : Prg _).go E r w K = _
  simp only [go_bind, go_pure]
/- s -/
theorem readK_rs (s' s s1 ct lo n : Nat) (pp : Path) (K : V × Bool → Env → Nat → Nat → Rs) : (readK s' (.rs s s1 ct pp lo n)).go E r w K = (readB (.rs s s1 ct pp lo n)).go E r w fun v E r w => K (v, !v.plain) E r w := by
  show (do
    let v ← readB (.rs s s1 ct pp lo n)
    pure (v, !v.plain) : Prg _).go E r w K = _
  simp only [go_bind, go_pure]
/- s -/
theorem readK_rp (s' s s1 ct i j : Nat) (pp : Path) (K : V × Bool → Env → Nat → Nat → Rs) : (readK s' (.rp s s1 ct pp i j)).go E r w K = (readB (.rp s s1 ct pp i j)).go E r w fun v E r w => K (v, !v.plain) E r w := by
  show (do
    let v ← readB (.rp s s1 ct pp i j)
    pure (v, !v.plain) : Prg _).go E r w K = _
  simp only [go_bind, go_pure]
/- s -/
theorem readK_clo (s' : Nat) (f : FuncId) (cs : List Cap) (K : V × Bool → Env → Nat → Nat → Rs) : (readK s' (.clo f cs)).go E r w K = (readB (.clo f cs)).go E r w fun v E r w => K (v, !v.plain) E r w := by
  show (do
    let v ← readB (.clo f cs)
    pure (v, !v.plain) : Prg _).go E r w K = _
  simp only [go_bind, go_pure]
/- s -/
theorem read1_tmp (s : Nat) (u : TypeId) (K : V × Bool → Env → Nat → Nat → Rs) : (read1 C (.tmp s) u).go E r w K = (ev C.P (.tmp s) u).go E r w fun b E r w => (readK s b).go E r w K := by
  show (Prg.bind (ev C.P (.tmp s) u) _).go E r w K = _
  rw [bind_is, go_bind]
  congr 1; funext b E r w
  cases b with
  | rv s1 st ct pp =>
    cases pp with
    | nil =>
      rfl
    | cons => rfl
  | _ => rfl
/- s -/
theorem read1_const (v : Value) (u : TypeId) (K : V × Bool → Env → Nat → Nat → Rs) : (read1 C (.const v) u).go E r w K = bo (ofVal C.P u v) fun x => K (x, false) E r w := by
  show (Prg.bind (ev C.P (.const v) u) _).go E r w K = _
  rw [bind_is, go_bind, go_ev_const]
  rfl
/- s -/
theorem read1_func (f : FuncId) (u : TypeId) (K : V × Bool → Env → Nat → Nat → Rs) : (read1 C (.func f) u).go E r w K = K (.fn f [], false) E r w := by
  rfl
/-- An argument that is all of an owned slot. -/
def rootK (s : Nat) (v : V) (E : Env) (r w : Nat) (K : V × Bool → Env → Nat → Nat → Rs) : Rs := match v with
  | .box y => K (.cptr y.freeze 0, true) E r w
  | y => K (y.freeze, false) (upd E s (.val y.freeze)) r (w ||| 1 <<< s)
/- s -/
theorem rootK_box (s : Nat) (y : V) (K : V × Bool → Env → Nat → Nat → Rs) : rootK s (.box y) E r w K = K (.cptr y.freeze 0, true) E r w := rfl
/- s -/
theorem rootK_sl (s : Nat) (o : Bool) (z : Nat) (es : List V) (K : V × Bool → Env → Nat → Nat → Rs) : rootK s (.sl o z es) E r w K = K ((V.sl o z es).freeze, false) (upd E s (.val (V.sl o z es).freeze)) r (w ||| 1 <<< s) := rfl
/- s -/
theorem rootK_agg (s : Nat) (cs : List V) (K : V × Bool → Env → Nat → Nat → Rs) : rootK s (.agg cs) E r w K = K ((V.agg cs).freeze, false) (upd E s (.val (V.agg cs).freeze)) r (w ||| 1 <<< s) := rfl
/- s -/
theorem go_readRoot (s s1 ct : Nat) (K : V × Bool → Env → Nat → Nat → Rs) : (readRoot s s1 ct).go E r w K = bo ((E s).at s1 ct []) fun v => rootK s v E (r ||| 1 <<< s) w K := by
  unfold readRoot
  rw [go_bind, go_rdAt]
  refine bo_ext fun v => ?_
  cases v <;> rfl
/- s -/
theorem back_nil (K : Unit → Env → Nat → Nat → Rs) : (giveBack st [] []).go E r w K = K () E r w := rfl
@[go_sem] theorem back_none (ls : List (Option (V × Place))) (vs : List V) : giveBack st (none :: ls) vs = giveBack st ls vs := by cases vs <;> rfl
@[go_sem] theorem back_some (v0 : V) (q : Place) (ls : List (Option (V × Place))) (v : V) (vs : List V) : giveBack st (some (v0, q) :: ls) (v :: vs) = (do back1 st q v; giveBack (st + 1) ls vs) := rfl
@[go_sem] theorem back1_root (s s1 ct : Nat) (v : V) : back1 st ⟨s, s1, ct, []⟩ v = setS s (.own st st v) := rfl
@[go_sem] theorem back1_in (s s1 ct : Nat) (q : Nat × Nat) (pp : Path) (v : V) : back1 st ⟨s, s1, ct, q :: pp⟩ v = (do need (!v.isAgg); wrAt s s1 ct (q :: pp) v (some st)) := rfl

/-! Closures' captures. -/
def capOf (b : Bd) : Option Cap := match b with | .rv s st ct [] => some (.r s st ct) | .val v => some (.v v) | _ => none
@[go_sem] theorem capOf_rv (s st ct : Nat) : capOf (.rv s st ct []) = some (.r s st ct) := rfl
@[go_sem] theorem capOf_val (v : V) : capOf (.val v) = some (.v v) := rfl
/- s -/
theorem capsOf_nil (K : List Cap → Env → Nat → Nat → Rs) : (capsOf C []).go E r w K = K [] E r w := rfl
/- s -/
theorem capsOf_cons (x : Operand) (xs : List Operand) (K : List Cap → Env → Nat → Nat → Rs) : (capsOf C (x :: xs)).go E r w K =
    (ev C.P x 0).go E r w fun b E r w => bo (capOf b) fun c => (capsOf C xs).go E r w fun cs E r w => K (c :: cs) E r w := by
  simp only [capsOf, go_bind, go_pure]
  congr 1; funext b E r w
  cases b with
  | val v => rfl
  | rv s st ct p => cases p <;> rfl
  | _ => rfl

/-! Results. -/
/- s -/
theorem resP_nil (K : List V → Env → Nat → Nat → Rs) : (resP C []).go E r w K = K [] E r w := rfl
/- s -/
theorem resP_tmp (s : Nat) (l : List ResultVar) (K : List V → Env → Nat → Nat → Rs) : (resP C (.tmp s :: l)).go E r w K =
    (ev C.P (.tmp s) 0).go E r w fun b E r w => (takeB b).go E r w fun v E r w => (resP C l).go E r w fun vs E r w => K (v.2 :: vs) E r w := by
  show (do let v ← takeB (← ev C.P (.tmp s) 0); let vs ← resP C l; pure (v.2 :: vs) : Prg (List V)).go E r w K = _
  simp only [go_bind, go_pure]
/- s -/
theorem resP_cell (s : Nat) (u : TypeId) (l : List ResultVar) (K : List V → Env → Nat → Nat → Rs) : (resP C (.cell s u :: l)).go E r w K =
    bo (sizeT C.P u) fun n => bo (aggT C.P u) fun ag => (ev C.P (.tmp s) 0).go E r w fun b E r w => bo (rvOf b) fun q => nd (q.p = []) fun _ =>
      bo ((E q.s).at q.st q.ct []) fun v => bo (unbox v) fun x => nd ((x.isAgg == ag && decide (x.cells.length = n)) = true) fun _ =>
        (resP C l).go (upd E q.s (.val .any)) (r ||| 1 <<< q.s) (w ||| 1 <<< q.s) fun vs E r w => K (x :: vs) E r w := by
  show (Prg.bind (opt (sizeT C.P u)) _).go E r w K = _
  rw [bind_is, go_bind, go_opt]
  refine bo_ext fun n => ?_
  show (Prg.bind (opt (aggT C.P u)) _).go E r w K = _
  rw [bind_is, go_bind, go_opt]
  refine bo_ext fun ag => ?_
  show (Prg.bind (ev C.P (.tmp s) 0) _).go E r w K = _
  rw [bind_is, go_bind]
  congr 1; funext b E r w
  cases b with
  | rv s1 st ct pp =>
    cases pp with
    | nil =>
      simp only [rvOf_rv, bo_some, nd_true]
      show (Prg.bind (rdAt s1 st ct []) _).go E r w K = _
      rw [bind_is, go_bind, go_rdAt]
      refine bo_ext fun v => ?_
      cases v with
      | box x =>
        simp only [unbox_box, bo_some]
        show (do
          need (x.isAgg == ag && decide (x.cells.length = n))
          setS s1 (.val .any)
          let vs ← resP C l
          pure (x :: vs) : Prg (List V)).go E (r ||| 1 <<< s1) w K = _
        simp only [go_bind, go_need, go_setS, go_pure]
      | _ => rfl
    | cons q pp => simp only [rvOf, bo_some]; rw [nd_ite, if_neg (by simp)]; rfl
  | _ => rfl
/- s -/
theorem outP_nil (i : Nat) (K : List V → Env → Nat → Nat → Rs) : (outP i []).go E r w K = K [] E r w := rfl
@[go_sem] theorem outP_f (i : Nat) (l : List Bool) : outP i (false :: l) = outP (i + 1) l := rfl
/-- What a lent slot holds at the end. -/
def lentV (i : Nat) (b : Bd) : V := match b with | .own st _ v => if st = i then v else .any | _ => .any
theorem lentV_own (i st ct : Nat) (v : V) : lentV i (.own st ct v) = if st = i then v else .any := rfl
/- s -/
theorem outP_t (i : Nat) (l : List Bool) (K : List V → Env → Nat → Nat → Rs) : (outP i (true :: l)).go E r w K =
    (outP (i + 1) l).go E (r ||| 1 <<< i) w fun vs E' r w => K (lentV i (E i) :: vs) E' r w := by
  rw [outP, go_bind, go_getS]
  cases E i with
  | own st ct v =>
    simp only [lentV]
    split <;> rw [go_bind] <;> rfl
  | _ => simp only [lentV]; rw [go_bind]; rfl
end
end
end Go.Lm

namespace Go.Lm
open Prg

@[go_sem] theorem ixOf_slice (e : TypeId) : ixOf (some (.slice e)) = .sl e := rfl
@[go_sem] theorem ixOf_array (n : Nat) (e : TypeId) : ixOf (some (.array n e)) = .arr n e := rfl
@[go_sem] theorem ixOf_string : ixOf (some .string) = .str := rfl
/- s -/
theorem exec_nil (C : Ctx) (m : Sem_) (ops : Array Oper) (st : Nat) (E : Env) (fs : List (Nat × Nat)) (K : Nat → Env → List (Nat × Nat) → Rs) : exec C m ops st [] E fs K = K st E fs := rfl
/- s -/
theorem exec_cons (C : Ctx) (m : Sem_) (ops : Array Oper) (st : Nat) (o : Oper) (l : List Oper) (E : Env) (fs : List (Nat × Nat)) (K : Nat → Env → List (Nat × Nat) → Rs) :
    exec C m ops st (o :: l) E fs K = (guardP C m ops st o).go E 0 0 fun _ E r w => exec C m ops (st + 16) l E ((r, w) :: fs) K := rfl
/- s -/
theorem finK_eq (C : Ctx) (res : List ResultVar) (mt : List Bool) (E : Env) : finK C res mt E = (resP C res).go E 0 0 fun rs E r w => (outP 0 mt).go E r w fun os _ _ _ => some (rs ++ os) := rfl

section
variable (P : Program) (t : TypeId)
@[go_sem] theorem ofVal_bool (b : Bool) : ofVal P t (.bool b) = some (.bool b) := rfl
@[go_sem] theorem ofVal_int (k : IntKind) (n : Int) : ofVal P t (.int k n) = some (.int k n) := rfl
@[go_sem] theorem ofVal_str (s : ByteArray) : ofVal P t (.string s) = some (.str s) := rfl
@[go_sem] theorem ofVal_nilS : ofVal P t (.slice none 0 0) = (elemT P t).bind fun e => (sizeT P e).map fun n => .sl true n [] := rfl
@[go_sem] theorem ofVal_nilP : ofVal P t (.pointer none) = some .nil := rfl
@[go_sem] theorem ofVal_nilF : ofVal P t .nilFunc = some .nil := rfl
end

@[go_sem] theorem params_nil (mt : List Bool) (i : Nat) : params mt i [] = fun _ => .val .any := rfl
@[go_sem] theorem params_0 (i : Nat) (v : V) (vs : List V) : params [] i (v :: vs) = upd (params [] (i + 1) vs) i (.val v) := rfl
@[go_sem] theorem params_t (mt : List Bool) (i : Nat) (v : V) (vs : List V) : params (true :: mt) i (v :: vs) = upd (params mt (i + 1) vs) i (.own i i v) := rfl
@[go_sem] theorem params_f (mt : List Bool) (i : Nat) (v : V) (vs : List V) : params (false :: mt) i (v :: vs) = upd (params mt (i + 1) vs) i (.val v) := rfl
@[go_sem] theorem liveIn_nil : liveIn [] [] = some fun _ => .val .any := rfl
@[go_sem] theorem liveIn_val (s : Nat) (r : List (Nat × Lk)) (v : V) (vs : List V) : liveIn ((s, .val) :: r) (v :: vs) = (liveIn r vs).map fun E => upd E s (.val v) := rfl
@[go_sem] theorem liveIn_own (s : Nat) (r : List (Nat × Lk)) (v : V) (vs : List V) : liveIn ((s, .own) :: r) (v :: vs) = (liveIn r vs).map fun E => upd E s (.own s s v) := rfl
@[go_sem] theorem liveIn_ref (s d : Nat) (r : List (Nat × Lk)) (vs : List V) : liveIn ((s, .ref d) :: r) vs = (liveIn r vs).map fun E => upd E s (.rv d d d []) := by cases vs <;> rfl

/-! Numbers, bools. -/
section
variable (k : IntKind) (a b : Int)
@[go_sem] theorem bin_add : binV .add (.int k a) (.int k b) = some (.int k (k.wrap (a + b))) := by simp [binV]
@[go_sem] theorem bin_sub : binV .sub (.int k a) (.int k b) = some (.int k (k.wrap (a - b))) := by simp [binV]
@[go_sem] theorem bin_mul : binV .mul (.int k a) (.int k b) = some (.int k (k.wrap (a * b))) := by simp [binV]
@[go_sem] theorem bin_quo : binV .quo (.int k a) (.int k b) = if b = 0 then none else some (.int k (k.wrap (a.tdiv b))) := by simp [binV]
@[go_sem] theorem bin_rem : binV .rem (.int k a) (.int k b) = if b = 0 then none else some (.int k (a.tmod b)) := by simp [binV]
@[go_sem] theorem bin_eql : binV .eql (.int k a) (.int k b) = some (.bool (decide (a = b))) := by simp only [binV, if_true]; congr
@[go_sem] theorem bin_neq : binV .neq (.int k a) (.int k b) = some (.bool (!decide (a = b))) := by simp only [binV, if_true]; congr
@[go_sem] theorem bin_lss : binV .lss (.int k a) (.int k b) = some (.bool (decide (a < b))) := by simp [binV]
@[go_sem] theorem bin_leq : binV .leq (.int k a) (.int k b) = some (.bool (decide (a ≤ b))) := by simp [binV]
@[go_sem] theorem bin_gtr : binV .gtr (.int k a) (.int k b) = some (.bool (decide (b < a))) := by simp only [binV, if_true]
@[go_sem] theorem bin_geq : binV .geq (.int k a) (.int k b) = some (.bool (decide (b ≤ a))) := by simp only [binV, if_true]
@[go_sem] theorem un_neg : unV .neg (.int k a) = some (.int k (k.wrap (0 - a))) := rfl
@[go_sem] theorem un_not (x : Bool) : unV .not (.bool x) = some (.bool (!x)) := rfl
end
section
variable (a b : ByteArray)
@[go_sem] theorem bin_sadd : binV .add (.str a) (.str b) = if a.size + b.size ≤ 9223372036854775807 then some (.str (a ++ b)) else none := rfl
@[go_sem] theorem bin_seql : binV .eql (.str a) (.str b) = some (.bool (a.toList == b.toList)) := rfl
@[go_sem] theorem bin_sneq : binV .neq (.str a) (.str b) = some (.bool (!(a.toList == b.toList))) := rfl
@[go_sem] theorem bin_slss : binV .lss (.str a) (.str b) = some (.bool (Op.bytesLess a.toList b.toList)) := rfl
@[go_sem] theorem bin_sleq : binV .leq (.str a) (.str b) = some (.bool (Op.bytesLess a.toList b.toList || a.toList == b.toList)) := rfl
@[go_sem] theorem bin_sgtr : binV .gtr (.str a) (.str b) = some (.bool (!(Op.bytesLess a.toList b.toList || a.toList == b.toList))) := rfl
@[go_sem] theorem bin_sgeq : binV .geq (.str a) (.str b) = some (.bool (!Op.bytesLess a.toList b.toList)) := rfl
end

/-! Values. -/
@[go_sem] theorem v_cells_any  : V.cells (.any) = [.any] := rfl
@[go_sem] theorem v_isAgg_any  : V.isAgg (.any) = false := rfl
@[go_sem] theorem v_isCell_any  : V.isCell (.any) = false := rfl
@[go_sem] theorem v_isLeaf_any  : V.isLeaf (.any) = false := rfl
@[go_sem] theorem v_loose_any  : V.loose (.any) = true := rfl
@[go_sem] theorem v_shared_any  : V.shared (.any) = true := rfl
@[go_sem] theorem v_solid_any  : V.solid (.any) = true := rfl
@[go_sem] theorem v_plain_any  : V.plain (.any) = false := rfl
@[go_sem] theorem v_deep_any  : V.deep (.any) = true := rfl
@[go_sem] theorem v_freeze_any  : V.freeze (.any) = .any := rfl
@[go_sem] theorem v_cells_bool (b : Bool) : V.cells (.bool b) = [.bool b] := rfl
@[go_sem] theorem v_isAgg_bool (b : Bool) : V.isAgg (.bool b) = false := rfl
@[go_sem] theorem v_isCell_bool (b : Bool) : V.isCell (.bool b) = true := rfl
@[go_sem] theorem v_isLeaf_bool (b : Bool) : V.isLeaf (.bool b) = true := rfl
@[go_sem] theorem v_loose_bool (b : Bool) : V.loose (.bool b) = true := rfl
@[go_sem] theorem v_shared_bool (b : Bool) : V.shared (.bool b) = true := rfl
@[go_sem] theorem v_solid_bool (b : Bool) : V.solid (.bool b) = true := rfl
@[go_sem] theorem v_plain_bool (b : Bool) : V.plain (.bool b) = true := rfl
@[go_sem] theorem v_deep_bool (b : Bool) : V.deep (.bool b) = true := rfl
@[go_sem] theorem v_freeze_bool (b : Bool) : V.freeze (.bool b) = .bool b := rfl
@[go_sem] theorem v_cells_int (k : IntKind) (n : Int) : V.cells (.int k n) = [.int k n] := rfl
@[go_sem] theorem v_isAgg_int (k : IntKind) (n : Int) : V.isAgg (.int k n) = false := rfl
@[go_sem] theorem v_isCell_int (k : IntKind) (n : Int) : V.isCell (.int k n) = true := rfl
@[go_sem] theorem v_isLeaf_int (k : IntKind) (n : Int) : V.isLeaf (.int k n) = true := rfl
@[go_sem] theorem v_loose_int (k : IntKind) (n : Int) : V.loose (.int k n) = true := rfl
@[go_sem] theorem v_shared_int (k : IntKind) (n : Int) : V.shared (.int k n) = true := rfl
@[go_sem] theorem v_solid_int (k : IntKind) (n : Int) : V.solid (.int k n) = true := rfl
@[go_sem] theorem v_plain_int (k : IntKind) (n : Int) : V.plain (.int k n) = true := rfl
@[go_sem] theorem v_deep_int (k : IntKind) (n : Int) : V.deep (.int k n) = true := rfl
@[go_sem] theorem v_freeze_int (k : IntKind) (n : Int) : V.freeze (.int k n) = .int k n := rfl
@[go_sem] theorem v_cells_str (s : ByteArray) : V.cells (.str s) = [.str s] := rfl
@[go_sem] theorem v_isAgg_str (s : ByteArray) : V.isAgg (.str s) = false := rfl
@[go_sem] theorem v_isCell_str (s : ByteArray) : V.isCell (.str s) = true := rfl
@[go_sem] theorem v_isLeaf_str (s : ByteArray) : V.isLeaf (.str s) = true := rfl
@[go_sem] theorem v_loose_str (s : ByteArray) : V.loose (.str s) = true := rfl
@[go_sem] theorem v_shared_str (s : ByteArray) : V.shared (.str s) = true := rfl
@[go_sem] theorem v_solid_str (s : ByteArray) : V.solid (.str s) = true := rfl
@[go_sem] theorem v_plain_str (s : ByteArray) : V.plain (.str s) = true := rfl
@[go_sem] theorem v_deep_str (s : ByteArray) : V.deep (.str s) = true := rfl
@[go_sem] theorem v_freeze_str (s : ByteArray) : V.freeze (.str s) = .str s := rfl
@[go_sem] theorem v_cells_sl (o : Bool) (z : Nat) (es : List V) : V.cells (.sl o z es) = [.sl o z es] := rfl
@[go_sem] theorem v_isAgg_sl (o : Bool) (z : Nat) (es : List V) : V.isAgg (.sl o z es) = false := rfl
@[go_sem] theorem v_isCell_sl (o : Bool) (z : Nat) (es : List V) : V.isCell (.sl o z es) = true := rfl
@[go_sem] theorem v_isLeaf_sl (o : Bool) (z : Nat) (es : List V) : V.isLeaf (.sl o z es) = false := rfl
@[go_sem] theorem v_loose_sl (o : Bool) (z : Nat) (es : List V) : V.loose (.sl o z es) = false := rfl
@[go_sem] theorem v_shared_sl (o : Bool) (z : Nat) (es : List V) : V.shared (.sl o z es) = !o := rfl
@[go_sem] theorem v_solid_sl (o : Bool) (z : Nat) (es : List V) : V.solid (.sl o z es) = es.isEmpty := rfl
@[go_sem] theorem v_plain_sl (o : Bool) (z : Nat) (es : List V) : V.plain (.sl o z es) = false := rfl
@[go_sem] theorem v_deep_sl (o : Bool) (z : Nat) (es : List V) : V.deep (.sl o z es) = (es.isEmpty || (o && V.deep.deepL es)) := rfl
@[go_sem] theorem v_freeze_sl (o : Bool) (z : Nat) (es : List V) : V.freeze (.sl o z es) = .sl false z (V.freezeL es) := rfl
@[go_sem] theorem v_cells_box (x : V) : V.cells (.box x) = [.box x] := rfl
@[go_sem] theorem v_isAgg_box (x : V) : V.isAgg (.box x) = false := rfl
@[go_sem] theorem v_isCell_box (x : V) : V.isCell (.box x) = true := rfl
@[go_sem] theorem v_isLeaf_box (x : V) : V.isLeaf (.box x) = false := rfl
@[go_sem] theorem v_loose_box (x : V) : V.loose (.box x) = false := rfl
@[go_sem] theorem v_shared_box (x : V) : V.shared (.box x) = false := rfl
@[go_sem] theorem v_solid_box (x : V) : V.solid (.box x) = false := rfl
@[go_sem] theorem v_plain_box (x : V) : V.plain (.box x) = false := rfl
@[go_sem] theorem v_deep_box (x : V) : V.deep (.box x) = x.deep := rfl
@[go_sem] theorem v_freeze_box (x : V) : V.freeze (.box x) = .cptr x.freeze 0 := rfl
@[go_sem] theorem v_cells_cptr (x : V) (j : Nat) : V.cells (.cptr x j) = [.cptr x j] := rfl
@[go_sem] theorem v_isAgg_cptr (x : V) (j : Nat) : V.isAgg (.cptr x j) = false := rfl
@[go_sem] theorem v_isCell_cptr (x : V) (j : Nat) : V.isCell (.cptr x j) = true := rfl
@[go_sem] theorem v_isLeaf_cptr (x : V) (j : Nat) : V.isLeaf (.cptr x j) = false := rfl
@[go_sem] theorem v_loose_cptr (x : V) (j : Nat) : V.loose (.cptr x j) = false := rfl
@[go_sem] theorem v_shared_cptr (x : V) (j : Nat) : V.shared (.cptr x j) = true := rfl
@[go_sem] theorem v_solid_cptr (x : V) (j : Nat) : V.solid (.cptr x j) = false := rfl
@[go_sem] theorem v_plain_cptr (x : V) (j : Nat) : V.plain (.cptr x j) = false := rfl
@[go_sem] theorem v_deep_cptr (x : V) (j : Nat) : V.deep (.cptr x j) = false := rfl
@[go_sem] theorem v_freeze_cptr (x : V) (j : Nat) : V.freeze (.cptr x j) = .cptr x j := rfl
@[go_sem] theorem v_cells_agg (cs : List V) : V.cells (.agg cs) = cs := rfl
@[go_sem] theorem v_isAgg_agg (cs : List V) : V.isAgg (.agg cs) = true := rfl
@[go_sem] theorem v_isCell_agg (cs : List V) : V.isCell (.agg cs) = false := rfl
@[go_sem] theorem v_isLeaf_agg (cs : List V) : V.isLeaf (.agg cs) = false := rfl
@[go_sem] theorem v_loose_agg (cs : List V) : V.loose (.agg cs) = false := rfl
@[go_sem] theorem v_shared_agg (cs : List V) : V.shared (.agg cs) = V.shared.sharedL cs := rfl
@[go_sem] theorem v_solid_agg (cs : List V) : V.solid (.agg cs) = V.solid.solidL cs := rfl
@[go_sem] theorem v_plain_agg (cs : List V) : V.plain (.agg cs) = V.plain.plainL cs := rfl
@[go_sem] theorem v_deep_agg (cs : List V) : V.deep (.agg cs) = V.deep.deepL cs := rfl
@[go_sem] theorem v_freeze_agg (cs : List V) : V.freeze (.agg cs) = .agg (V.freezeL cs) := rfl
@[go_sem] theorem v_cells_tup (vs : List V) : V.cells (.tup vs) = [.tup vs] := rfl
@[go_sem] theorem v_isAgg_tup (vs : List V) : V.isAgg (.tup vs) = false := rfl
@[go_sem] theorem v_isCell_tup (vs : List V) : V.isCell (.tup vs) = false := rfl
@[go_sem] theorem v_isLeaf_tup (vs : List V) : V.isLeaf (.tup vs) = false := rfl
@[go_sem] theorem v_loose_tup (vs : List V) : V.loose (.tup vs) = false := rfl
@[go_sem] theorem v_shared_tup (vs : List V) : V.shared (.tup vs) = V.shared.sharedL vs := rfl
@[go_sem] theorem v_solid_tup (vs : List V) : V.solid (.tup vs) = V.solid.solidL vs := rfl
@[go_sem] theorem v_plain_tup (vs : List V) : V.plain (.tup vs) = V.plain.plainL vs := rfl
@[go_sem] theorem v_deep_tup (vs : List V) : V.deep (.tup vs) = V.deep.deepL vs := rfl
@[go_sem] theorem v_freeze_tup (vs : List V) : V.freeze (.tup vs) = .tup (V.freezeL vs) := rfl
@[go_sem] theorem v_cells_fn (f : FuncId) (cs : List V) : V.cells (.fn f cs) = [.fn f cs] := rfl
@[go_sem] theorem v_isAgg_fn (f : FuncId) (cs : List V) : V.isAgg (.fn f cs) = false := rfl
@[go_sem] theorem v_isCell_fn (f : FuncId) (cs : List V) : V.isCell (.fn f cs) = true := rfl
@[go_sem] theorem v_isLeaf_fn (f : FuncId) (cs : List V) : V.isLeaf (.fn f cs) = false := rfl
@[go_sem] theorem v_loose_fn (f : FuncId) (cs : List V) : V.loose (.fn f cs) = false := rfl
@[go_sem] theorem v_shared_fn (f : FuncId) (cs : List V) : V.shared (.fn f cs) = V.shared.sharedL cs := rfl
@[go_sem] theorem v_solid_fn (f : FuncId) (cs : List V) : V.solid (.fn f cs) = V.solid.solidL cs := rfl
@[go_sem] theorem v_plain_fn (f : FuncId) (cs : List V) : V.plain (.fn f cs) = false := rfl
@[go_sem] theorem v_deep_fn (f : FuncId) (cs : List V) : V.deep (.fn f cs) = V.deep.deepL cs := rfl
@[go_sem] theorem v_freeze_fn (f : FuncId) (cs : List V) : V.freeze (.fn f cs) = .fn f (V.freezeL cs) := rfl
@[go_sem] theorem v_cells_nil  : V.cells (.nil) = [.nil] := rfl
@[go_sem] theorem v_isAgg_nil  : V.isAgg (.nil) = false := rfl
@[go_sem] theorem v_isCell_nil  : V.isCell (.nil) = true := rfl
@[go_sem] theorem v_isLeaf_nil  : V.isLeaf (.nil) = false := rfl
@[go_sem] theorem v_loose_nil  : V.loose (.nil) = false := rfl
@[go_sem] theorem v_shared_nil  : V.shared (.nil) = true := rfl
@[go_sem] theorem v_solid_nil  : V.solid (.nil) = true := rfl
@[go_sem] theorem v_plain_nil  : V.plain (.nil) = false := rfl
@[go_sem] theorem v_deep_nil  : V.deep (.nil) = true := rfl
@[go_sem] theorem v_freeze_nil  : V.freeze (.nil) = .nil := rfl
@[go_sem] theorem v_sharedL_nil : V.shared.sharedL [] = true := rfl
@[go_sem] theorem v_sharedL_cons (v : V) (vs : List V) : V.shared.sharedL (v :: vs) = (v.shared && V.shared.sharedL vs) := rfl
@[go_sem] theorem v_solidL_nil : V.solid.solidL [] = true := rfl
@[go_sem] theorem v_solidL_cons (v : V) (vs : List V) : V.solid.solidL (v :: vs) = (v.solid && V.solid.solidL vs) := rfl
@[go_sem] theorem v_plainL_nil : V.plain.plainL [] = true := rfl
@[go_sem] theorem v_plainL_cons (v : V) (vs : List V) : V.plain.plainL (v :: vs) = (v.plain && V.plain.plainL vs) := rfl
@[go_sem] theorem v_deepL_nil : V.deep.deepL [] = true := rfl
@[go_sem] theorem v_deepL_cons (v : V) (vs : List V) : V.deep.deepL (v :: vs) = (v.deep && V.deep.deepL vs) := rfl
@[go_sem] theorem v_freezeL_nil : V.freezeL [] = [] := rfl
@[go_sem] theorem v_freezeL_cons (v : V) (vs : List V) : V.freezeL (v :: vs) = v.freeze :: V.freezeL vs := rfl
@[go_sem] theorem v_elem_sl (o : Bool) (z : Nat) (es : List V) (i : Nat) : (V.sl o z es).elem i = es[i]? := rfl
@[go_sem] theorem v_elem_box (x : V) : (V.box x).elem 0 = some x := rfl
@[go_sem] theorem v_setElem_sl (z : Nat) (es : List V) (i : Nat) (e : V) : (V.sl true z es).setElem i e = some (.sl true z (es.set i e)) := rfl
@[go_sem] theorem v_setElem_box (x e : V) (i : Nat) : (V.box x).setElem i e = some (.box e) := rfl
@[go_sem] theorem v_setCells_agg (cs xs : List V) (j : Nat) : (V.agg cs).setCells j xs = .agg (cs.take j ++ xs ++ cs.drop (j + xs.length)) := rfl
@[go_sem] theorem v_setCells_int (k : IntKind) (n : Int) (x : V) : (V.int k n).setCells 0 [x] = x := rfl
@[go_sem] theorem v_setCells_bool (b : Bool) (x : V) : (V.bool b).setCells 0 [x] = x := rfl
@[go_sem] theorem v_setCells_str (s : ByteArray) (x : V) : (V.str s).setCells 0 [x] = x := rfl
@[go_sem] theorem v_setCells_sl (o : Bool) (z : Nat) (es : List V) (x : V) : (V.sl o z es).setCells 0 [x] = x := rfl
@[go_sem] theorem v_setCells_box (y x : V) : (V.box y).setCells 0 [x] = x := rfl
@[go_sem] theorem v_setCells_cptr (y : V) (j : Nat) (x : V) : (V.cptr y j).setCells 0 [x] = x := rfl
@[go_sem] theorem v_setCells_fn (f : FuncId) (cs : List V) (x : V) : (V.fn f cs).setCells 0 [x] = x := rfl
@[go_sem] theorem v_setCells_nil (x : V) : V.nil.setCells 0 [x] = x := rfl
@[go_sem] theorem v_child_sl (o : Bool) (z : Nat) (es : List V) (i j : Nat) : (V.sl o z es).child i j = (es[i]?).bind fun e => e.cells[j]? := rfl
@[go_sem] theorem v_child_box (x : V) (j : Nat) : (V.box x).child 0 j = x.cells[j]? := rfl
@[go_sem] theorem v_child_agg (cs : List V) (j : Nat) : (V.agg cs).child 0 j = cs[j]? := rfl
@[go_sem] theorem v_child_tup (cs : List V) (j : Nat) : (V.tup cs).child 0 j = cs[j]? := rfl
@[go_sem] theorem v_setChild_sl (z : Nat) (es : List V) (i j : Nat) (x : V) : (V.sl true z es).setChild i j x = (es[i]?).map fun e => .sl true z (es.set i (e.setCell j x)) := rfl
@[go_sem] theorem v_setChild_box (y : V) (i j : Nat) (x : V) : (V.box y).setChild i j x = some (.box (y.setCell j x)) := rfl
@[go_sem] theorem v_setChild_agg (cs : List V) (i j : Nat) (x : V) : (V.agg cs).setChild i j x = some (.agg (cs.set j x)) := rfl
@[go_sem] theorem v_setChild_tup (cs : List V) (i j : Nat) (x : V) : (V.tup cs).setChild i j x = some (.tup (cs.set j x)) := rfl
@[go_sem] theorem v_setCell_agg (cs : List V) (j : Nat) (x : V) : (V.agg cs).setCell j x = .agg (cs.set j x) := rfl
@[go_sem] theorem v_setCell_sl (o : Bool) (z : Nat) (es : List V) (x : V) : (V.sl o z es).setCell 0 x = x := rfl
@[go_sem] theorem v_setCell_any (x : V) : V.any.setCell 0 x = x := rfl
@[go_sem] theorem v_setCell_box (y x : V) : (V.box y).setCell 0 x = x := rfl
@[go_sem] theorem v_get_nil (v : V) : v.get [] = some v := by cases v <;> rfl
@[go_sem] theorem v_get_cons (v : V) (i j : Nat) (p : Path) : v.get ((i, j) :: p) = (v.child i j).bind fun x => x.get p := by cases v <;> rfl
@[go_sem] theorem v_put_nil (v x : V) : v.put [] x = some x := by cases v <;> rfl
@[go_sem] theorem v_put_cons (v x : V) (i j : Nat) (p : Path) : v.put ((i, j) :: p) x = (v.child i j).bind fun y => if y.isAgg then none else (y.put p x).bind fun y' => v.setChild i j y' := by cases v <;> rfl
@[go_sem] theorem packR_1 (v : V) : packR [v] = v := rfl
@[go_sem] theorem packR_0 : packR [] = .tup [] := rfl
@[go_sem] theorem packR_2 (v w : V) (vs : List V) : packR (v :: w :: vs) = .tup (v :: w :: vs) := rfl
attribute [go_sem] partO_t slPart_sl


theorem at_nil (st ct st' ct' : Nat) (v : V) : (Bd.own st' ct' v).at st ct [] = if st' = st then some v else none := rfl
theorem at_cons (st ct st' ct' : Nat) (v : V) (q : Nat × Nat) (p : Path) : (Bd.own st' ct' v).at st ct (q :: p) = if st' = st then (if ct' = ct then (v.get (q :: p)).bind fun x => if x.loose then none else some x else none) else none := rfl
attribute [go_sem] or_true true_or or_false false_or or_self and_self and_false false_and not_true_eq_false not_false_eq_true Classical.not_not Option.any_some Option.getD_some Option.getD_none Option.isSome_some Option.isSome_none Int.toNat_natCast Int.toNat_zero Int.natCast_nonneg Nat.zero_add Nat.add_zero Nat.mul_one Nat.one_mul Nat.zero_le Nat.le_refl beq_self_eq_true Option.bind_some Option.map_some Option.bind_none Option.map_none List.getElem?_toArray List.getElem?_cons_zero List.getElem?_cons_succ List.append_nil List.nil_append List.cons_append cond_true cond_false if_true if_false Bool.and_eq_true decide_eq_true_eq decide_true decide_false Bool.not_true Bool.not_false Bool.true_and Bool.false_and Bool.and_true Bool.and_false Bool.or_false Bool.false_or Bool.or_true Bool.true_or and_true true_and eq_self List.length_cons List.length_nil List.size_toArray List.toList_toArray List.zip_cons_cons List.zip_nil_left List.zip_nil_right List.all_cons List.all_nil List.take_zero List.take_succ_cons List.take_nil List.drop_zero List.drop_succ_cons List.drop_nil List.isEmpty_nil List.isEmpty_cons List.set_cons_zero List.set_cons_succ List.replicate_zero List.replicate_succ List.flatMap_nil List.map_cons List.map_nil Bool.not_eq_true' Bool.not_eq_eq_eq_not
attribute [go_sem] at_nil at_cons outsOk leaves lentV_own

/-- What is to be known of a function before its run. -/
structure FnF (C : Ctx) (f : FuncId) (fn : Func) (cs : List (Nat × List (Nat × Lk))) (mt : List Bool) (res : List ResultVar) : Prop where
  hf : C.P.funcs[f]? = some fn
  hm : C.mt f = mt
  hcs : C.cuts f = cs
  hres : fn.results.toList = res
  hr : fn.results.size = fn.resultTypes.size

theorem FnF.fn {C : Ctx} {f : FuncId} {fn : Func} {cs : List (Nat × List (Nat × Lk))} {mt : List Bool} {res : List ResultVar} (F : FnF C f fn cs mt res) {c : Code} {vals r : List V}
    (hx : C.ext f vals = none) (hb : fn.body = some c) (hl : (decide (mt.length ≤ vals.length) && decide (vals.length ≤ fn.ntmps)) = true)
    (h : runX C (lim C) f cs (finK C res mt) c (fun _ E => finK C res mt E) (fun _ _ _ => none) 100000 (params mt 0 vals) = some r) : lim C (.func f) vals = some r :=
  lim_fn hx F.hf hb F.hm F.hcs F.hres F.hr (by simpa using hl) h

theorem FnF.at {C : Ctx} {f : FuncId} {fn : Func} {cs : List (Nat × List (Nat × Lk))} {mt : List Bool} {res : List ResultVar} (F : FnF C f fn cs mt res) {c : Code} {vals r : List V} {id : Nat}
    {lv : List (Nat × Lk)} (hb : fn.body = some c) (hlv : cs.lookup id = some lv)
    (h : (bo (liveIn lv vals) fun E => match findX C (lim C) f cs (finK C res mt) id c (fun _ E => finK C res mt E) (fun _ _ _ => none) with | some kk => kk 100000 E | none => none) = some r) : lim C (.at_ f id) vals = some r := by
  unfold bo at h
  rw [Option.bind_eq_some_iff] at h
  obtain ⟨E, hE, h⟩ := h
  split at h
  · rename_i kk hk
    exact lim_at F.hf hb F.hm F.hcs F.hres F.hr hlv hE hk h
  · cases h
end Go.Lm

namespace Go.Lm
noncomputable section
open Prg
def Prg.goS {α : Type} (p : Prg α) (E : Env) (r w : Nat) (K : α → Env → Nat → Nat → Rs) (_ : Seal K := .mk) : Rs := p.go E r w K
def execS (C : Ctx) (m : Sem_) (ops : Array Oper) (st : Nat) (l : List Oper) (E : Env) (fs : List (Nat × Nat)) (K : Nat → Env → List (Nat × Nat) → Rs) (_ : Seal l := .mk) (_ : Seal ops := .mk) (_ : Seal K := .mk) : Rs := exec C m ops st l E fs K
def valKS (b : Bd) (K : V → Rs) (_ : Seal K := .mk) : Rs := valK b K
def ownKS (b : Bd) (K : V → Rs) (_ : Seal K := .mk) : Rs := ownK b K
def refKS (d : Nat) (b b' : Bd) (K : Unit → Rs) (_ : Seal K := .mk) : Rs := refK d b b' K
def liveKS (E : Env) (l : List (Nat × Lk)) (K : List V → Rs) (_ : Seal K := .mk) : Rs := liveK E l K
def runXS (C : Ctx) (m : Sem_) (f : FuncId) (cs : List (Nat × List (Nat × Lk))) (F : Env → Rs) (c : Code) (k : Kont) (x : Nat → Kont) (clk : Nat) (E : Env)
  (_ : Seal cs := .mk) (_ : Seal F := .mk) (_ : Seal c := .mk) (_ : Seal k := .mk) (_ : Seal x := .mk) : Rs := runX C m f cs F c k x clk E
def wrKS (b : Bd) (s st ct : Nat) (p : Path) (x : V) (ct' : Option Nat) (K : Bd → Rs) (_ : Seal K := .mk) : Rs := wrK b s st ct p x ct' K
def slTakeS (lo n : Nat) (v : V) (K : Bool → V → Rs) (_ : Seal K := .mk) : Rs := slTake lo n v K
def lenBS (b : Bd) (E : Env) (r w : Nat) (K : Int → Env → Nat → Nat → Rs) (_ : Seal K := .mk) : Rs := lenB b E r w K
def lenAllS (d : Option Tmp) (b : Bd) (E : Env) (r w : Nat) (K : Unit → Env → Nat → Nat → Rs) (i : Ix) (_ : Seal K := .mk) : Rs := lenAll d b E r w K i
def sliceAllS (P : Program) (d : Option Tmp) (b : Bd) (l : Int) (hi : Option Int) (E : Env) (r w : Nat) (K : Unit → Env → Nat → Nat → Rs) (i : Ix) (_ : Seal K := .mk) : Rs := sliceAll P d b l hi E r w K i
/-- Is here a cut? -/
def cutS (x : Option (List (Nat × Lk))) (c : List (Nat × Lk) → Rs) (n : Unit → Rs) (_ : Seal c := .mk) (_ : Seal n := .mk) : Rs := match x with | some lv => c lv | none => n ()
@[go_sem] theorem cutS_some (lv : List (Nat × Lk)) (c : List (Nat × Lk) → Rs) (n : Unit → Rs) : cutS (some lv) c n = c lv := rfl
@[go_sem] theorem cutS_none (c : List (Nat × Lk) → Rs) (n : Unit → Rs) : cutS none c n = n () := rfl
def rootKS (s : Nat) (v : V) (E : Env) (r w : Nat) (K : V × Bool → Env → Nat → Nat → Rs) (_ : Seal K := .mk) : Rs := rootK s v E r w K
section
variable {α β : Type} (E : Env) (r w : Nat)
@[go_sem] theorem s_go_bind (x : Prg α) (f : α → Prg β) (K : β → Env → Nat → Nat → Rs) : (x >>= f).goS E r w K = x.goS E r w fun a E r w => (f a).goS E r w K := by apply go_bind
@[go_sem] theorem s_go_pure (a : α) (K : α → Env → Nat → Nat → Rs) : (pure a : Prg α).goS E r w K = K a E r w := by apply go_pure
@[go_sem] theorem s_go_ret (a : α) (K : α → Env → Nat → Nat → Rs) : (Prg.ret a).goS E r w K = K a E r w := by apply go_ret
@[go_sem] theorem s_go_fail (K : α → Env → Nat → Nat → Rs) : (Prg.fail : Prg α).goS E r w K = none := by apply go_fail
@[go_sem] theorem s_go_getS (s : Nat) (K : Bd → Env → Nat → Nat → Rs) : (getS s).goS E r w K = K (E s) E (r ||| 1 <<< s) w := by apply go_getS
@[go_sem] theorem s_go_setS (s : Nat) (b : Bd) (K : Unit → Env → Nat → Nat → Rs) : (setS s b).goS E r w K = K () (upd E s b) r (w ||| 1 <<< s) := by apply go_setS
@[go_sem] theorem s_go_opt (x : Option α) (K : α → Env → Nat → Nat → Rs) : (Prg.opt x).goS E r w K = bo x fun a => K a E r w := by apply go_opt
@[go_sem] theorem s_go_need (c : Bool) (K : Unit → Env → Nat → Nat → Rs) : (Prg.need c).goS E r w K = nd (c = true) fun _ => K () E r w := by apply go_need
@[go_sem] theorem s_go_ite (c : Prop) [Decidable c] (x y : Prg α) (K : α → Env → Nat → Nat → Rs) : (if c then x else y).goS E r w K = br c (fun _ => x.goS E r w K) (fun _ => y.goS E r w K) := by apply go_ite
end
@[go_sem] theorem s_valK_val (v : V) (K : V → Rs) : valKS (.val v) K = K v := by apply valK_val
@[go_sem] theorem s_ownK_own (a b : Nat) (v : V) (K : V → Rs) : ownKS (.own a b v) K = K v := by apply ownK_own
@[go_sem] theorem s_ownK_sl (o : Bool) (z : Nat) (es : List V) (K : V → Rs) : ownKS (.val (.sl o z es)) K = K (.sl o z es) := by apply ownK_sl
@[go_sem] theorem s_ownK_cptr (x : V) (j : Nat) (K : V → Rs) : ownKS (.val (.cptr x j)) K = K (.cptr x j) := by apply ownK_cptr
@[go_sem] theorem s_ownK_nil (K : V → Rs) : ownKS (.val .nil) K = K .nil := by apply ownK_nil
@[go_sem] theorem s_ownK_agg (cs : List V) (K : V → Rs) : ownKS (.val (.agg cs)) K = K (.agg cs) := by apply ownK_agg
@[go_sem] theorem s_refK_rv (d d' st ct st' ct' : Nat) (v : V) (K : Unit → Rs) : refKS d (.rv d' st ct []) (.own st' ct' v) K = nd (d' = d ∧ st = st') K := by apply refK_rv
@[go_sem] theorem s_liveK_nil (E : Env) (K : List V → Rs) : liveKS E [] K = K [] := by apply liveK_nil
@[go_sem] theorem s_liveK_val (E : Env) (s : Nat) (r : List (Nat × Lk)) (K : List V → Rs) : liveKS E ((s, .val) :: r) K = valKS (E s) fun v => liveKS E r fun vs => K (v :: vs) := by apply liveK_val
@[go_sem] theorem s_liveK_own (E : Env) (s : Nat) (r : List (Nat × Lk)) (K : List V → Rs) : liveKS E ((s, .own) :: r) K = ownKS (E s) fun v => liveKS E r fun vs => K (v :: vs) := by apply liveK_own
@[go_sem] theorem s_liveK_ref (E : Env) (s d : Nat) (r : List (Nat × Lk)) (K : List V → Rs) : liveKS E ((s, .ref d) :: r) K = refKS d (E s) (E d) fun _ => liveKS E r K := by apply liveK_ref
section
variable (C : Ctx) (m : Sem_)
@[go_sem] theorem s_runX_skip (f : FuncId) (cs : List (Nat × List (Nat × Lk))) (F : Env → Rs) (k : Kont) (x : Nat → Kont) (clk : Nat) (E : Env) : runXS C m f cs F .skip k x clk E = k clk E := by apply runX_skip
@[go_sem] theorem s_runX_seq (f : FuncId) (cs : List (Nat × List (Nat × Lk))) (F : Env → Rs) (a b : Code) (k : Kont) (x : Nat → Kont) (clk : Nat) (E : Env) :
    runXS C m f cs F (.seq a b) k x clk E = runXS C m f cs F a (fun clk E => runXS C m f cs F b k x clk E) x clk E := by apply runX_seq
@[go_sem] theorem s_runX_cond (f : FuncId) (cs : List (Nat × List (Nat × Lk))) (F : Env → Rs) (c : Operand) (a b : Code) (k : Kont) (x : Nat → Kont) (clk : Nat) (E : Env) :
    runXS C m f cs F (.cond c a b) k x clk E = (evV C.P c 0).goS E 0 0 fun v _ _ _ => bo (asB v) fun t => br (t = true) (fun _ => runXS C m f cs F a k x clk E) (fun _ => runXS C m f cs F b k x clk E) := by apply runX_cond
@[go_sem] theorem s_runX_block (f : FuncId) (cs : List (Nat × List (Nat × Lk))) (F : Env → Rs) (id : Nat) (c : Code) (k : Kont) (x : Nat → Kont) (clk : Nat) (E : Env) :
    runXS C m f cs F (.block id c) k x clk E = runXS C m f cs F c k (fun i => if i = id then k else x i) clk E := by apply runX_block
@[go_sem] theorem s_runX_exit (f : FuncId) (cs : List (Nat × List (Nat × Lk))) (F : Env → Rs) (id : Nat) (k : Kont) (x : Nat → Kont) (clk : Nat) (E : Env) : runXS C m f cs F (.exit id) k x clk E = x id clk E := by apply runX_exit
@[go_sem] theorem s_runX_ret (f : FuncId) (cs : List (Nat × List (Nat × Lk))) (F : Env → Rs) (k : Kont) (x : Nat → Kont) (clk : Nat) (E : Env) : runXS C m f cs F .ret k x clk E = F E := by apply runX_ret
end
section
variable (P : Program) {β : Type} (E : Env) (r w : Nat)
@[go_sem] theorem s_go_ev_tmp (s : Nat) (t : TypeId) (K : Bd → Env → Nat → Nat → Rs) : (ev P (.tmp s) t).goS E r w K = K (evB s (E s)) E (r ||| 1 <<< s) w := by apply go_ev_tmp
@[go_sem] theorem s_go_ev_const (v : Value) (t : TypeId) (K : Bd → Env → Nat → Nat → Rs) : (ev P (.const v) t).goS E r w K = bo (ofVal P t v) fun x => K (.val x) E r w := by apply go_ev_const
@[go_sem] theorem s_go_ev_func (f : FuncId) (t : TypeId) (K : Bd → Env → Nat → Nat → Rs) : (ev P (.func f) t).goS E r w K = K (.val (.fn f [])) E r w := by apply go_ev_func
@[go_sem] theorem s_go_rdAt (s st ct : Nat) (p : Path) (K : V → Env → Nat → Nat → Rs) : (rdAt s st ct p).goS E r w K = bo ((E s).at st ct p) fun x => K x E (r ||| 1 <<< s) w := by apply go_rdAt
@[go_sem] theorem s_go_putD_some (d : Nat) (b : Bd) (K : Unit → Env → Nat → Nat → Rs) : (putD (some d) b).goS E r w K = K () (upd E d b) r (w ||| 1 <<< d) := by apply go_putD_some
@[go_sem] theorem s_go_putD_none (b : Bd) (K : Unit → Env → Nat → Nat → Rs) : (putD none b).goS E r w K = K () E r w := by apply go_putD_none
@[go_sem] theorem s_wrK_own (s st ct : Nat) (p : Path) (x : V) (ct' : Option Nat) (st' ct0 : Nat) (v : V) (K : Bd → Rs) :
    wrKS (.own st' ct0 v) s st ct p x ct' K = nd (st' = st ∧ (p = [] ∨ ct0 = ct)) fun _ => bo (v.put p x) fun y => K (.own st' (ct'.getD ct0) y) := by apply wrK_own
@[go_sem] theorem s_go_wrAt (s st ct : Nat) (p : Path) (x : V) (ct' : Option Nat) (K : Unit → Env → Nat → Nat → Rs) :
    (wrAt s st ct p x ct').goS E r w K = wrKS (E s) s st ct p x ct' fun b => K () (upd E s b) (r ||| 1 <<< s) (w ||| 1 <<< s) := by apply go_wrAt
@[go_sem] theorem s_go_clearAt (s st ct : Nat) (p : Path) (K : Unit → Env → Nat → Nat → Rs) :
    (clearAt s st ct p).goS E r w K = br (p = []) (fun _ => K () (upd E s (.val .any)) r (w ||| 1 <<< s)) (fun _ => (wrAt s st ct p .any none).goS E r w K) := by apply go_clearAt
@[go_sem] theorem s_go_readB_val (v : V) (K : V → Env → Nat → Nat → Rs) : (readB (.val v)).goS E r w K = K v E r w := by apply go_readB_val
@[go_sem] theorem s_go_readB_rv (s st ct : Nat) (p : Path) (K : V → Env → Nat → Nat → Rs) : (readB (.rv s st ct p)).goS E r w K = bo ((E s).at st ct p) fun x => K x.freeze E (r ||| 1 <<< s) w := by apply go_readB_rv
@[go_sem] theorem s_go_readB_rs (s st ct : Nat) (p : Path) (lo n : Nat) (K : V → Env → Nat → Nat → Rs) : (readB (.rs s st ct p lo n)).goS E r w K = bo ((E s).at st ct p) fun x => bo (slPart lo n x) fun y => K y E (r ||| 1 <<< s) w := by apply go_readB_rs
@[go_sem] theorem s_go_readB_rp (s st ct : Nat) (p : Path) (i j : Nat) (K : V → Env → Nat → Nat → Rs) : (readB (.rp s st ct p i j)).goS E r w K = bo ((E s).at st ct p) fun x => bo (x.elem i) fun e => nd (j ≤ e.cells.length) fun _ => K (.cptr e.freeze j) E (r ||| 1 <<< s) w := by apply go_readB_rp
@[go_sem] theorem s_go_readB_clo (f : FuncId) (cs : List Cap) (K : V → Env → Nat → Nat → Rs) : (readB (.clo f cs)).goS E r w K = (readCaps cs).goS E r w fun xs E r w => K (.fn f xs) E r w := by apply go_readB_clo
@[go_sem] theorem s_go_readCaps_nil (K : List V → Env → Nat → Nat → Rs) : (readCaps []).goS E r w K = K [] E r w := by apply go_readCaps_nil
@[go_sem] theorem s_go_readCaps_cons (c : Cap) (cs : List Cap) (K : List V → Env → Nat → Nat → Rs) : (readCaps (c :: cs)).goS E r w K = (readCap c).goS E r w fun x E r w => (readCaps cs).goS E r w fun xs E r w => K (x :: xs) E r w := by apply go_readCaps_cons
@[go_sem] theorem s_go_readCap_v (x : V) (K : V → Env → Nat → Nat → Rs) : (readCap (.v x)).goS E r w K = K x E r w := by apply go_readCap_v
@[go_sem] theorem s_go_readCap_r (s st ct : Nat) (K : V → Env → Nat → Nat → Rs) : (readCap (.r s st ct)).goS E r w K = bo ((E s).at st ct []) fun v => bo (unbox v) fun x => K (.cptr x.freeze 0) E (r ||| 1 <<< s) w := by apply go_readCap_r
@[go_sem] theorem s_go_evV (x : Operand) (t : TypeId) (K : V → Env → Nat → Nat → Rs) : (evV P x t).goS E r w K = (ev P x t).goS E r w fun b E r w => (readB b).goS E r w K := by apply go_evV
@[go_sem] theorem s_go_takeB_val (v : V) (K : Bool × V → Env → Nat → Nat → Rs) : (takeB (.val v)).goS E r w K = K (false, v) E r w := by apply go_takeB_val
@[go_sem] theorem s_go_takeB_rv (s st ct : Nat) (p : Path) (K : Bool × V → Env → Nat → Nat → Rs) : (takeB (.rv s st ct p)).goS E r w K =
    bo ((E s).at st ct p) fun x => br (x.shared = true) (fun _ => K (false, x) E (r ||| 1 <<< s) w) (fun _ => (clearAt s st ct p).goS E (r ||| 1 <<< s) w fun _ E r w => K (true, x) E r w) := by apply go_takeB_rv
@[go_sem] theorem s_slTake_sl (lo n : Nat) (o : Bool) (sz : Nat) (es : List V) (K : Bool → V → Rs) : slTakeS lo n (.sl o sz es) K =
    nd (lo + n ≤ es.length) fun _ => br (o = true) (fun _ => K true (.sl true sz ((es.drop lo).take n))) (fun _ => K false (.sl false sz ((es.drop lo).take n))) := by apply slTake_sl
@[go_sem] theorem s_go_takeB_rs (s st ct : Nat) (p : Path) (lo n : Nat) (K : Bool × V → Env → Nat → Nat → Rs) : (takeB (.rs s st ct p lo n)).goS E r w K =
    bo ((E s).at st ct p) fun x => slTakeS lo n x fun o y => br (o = true) (fun _ => (clearAt s st ct p).goS E (r ||| 1 <<< s) w fun _ E r w => K (true, y) E r w) (fun _ => K (false, y) E (r ||| 1 <<< s) w) := by apply go_takeB_rs
@[go_sem] theorem s_go_asPtr_val (x : V) (j : Nat) (K : Ptr → Env → Nat → Nat → Rs) : (asPtr (.val (.cptr x j))).goS E r w K = K (.c x j) E r w := by apply go_asPtr_val
@[go_sem] theorem s_go_asPtr_rp (s st ct : Nat) (p : Path) (i j : Nat) (K : Ptr → Env → Nat → Nat → Rs) : (asPtr (.rp s st ct p i j)).goS E r w K = K (.r s st ct p i j) E r w := by apply go_asPtr_rp
@[go_sem] theorem s_go_asPtr_rv (s st ct : Nat) (p : Path) (K : Ptr → Env → Nat → Nat → Rs) : (asPtr (.rv s st ct p)).goS E r w K = bo ((E s).at st ct p) fun v => bo (ptrV s st ct p v) fun q => K q E (r ||| 1 <<< s) w := by apply go_asPtr_rv
end
section
variable (C : Ctx) (m : Sem_) (ops : Array Oper) (st : Nat) (d : Option Tmp) (t : TypeId) (p : String) (a : Array Edge) (g : Option (Nat × Bool))
@[go_sem] theorem s_guard_some (o : Op) (j : Nat) (want : Bool) (E : Env) (r w : Nat) (K : Unit → Env → Nat → Nat → Rs) :
    (guardP C m ops st ⟨d, o, t, p, a, some (j, want)⟩).goS E r w K = bo ((ops[j]?).bind (·.dst)) fun s => bo (valB want (E s)) fun b =>
      br (b = true) (fun _ => (opP C m st ⟨d, o, t, p, a, some (j, want)⟩).goS E (r ||| 1 <<< s) w K) (fun _ => (putD d (.val (.tup []))).goS E (r ||| 1 <<< s) w K) := by apply guard_some
@[go_sem] theorem s_op_pick (c x y : Operand) (E : Env) (r w : Nat) (K : Unit → Env → Nat → Nat → Rs) : (opP C m st ⟨d, .pick c x y, t, p, a, g⟩).goS E r w K =
    (evV C.P c 0).goS E r w fun v E r w => bo (asB v) fun b => br (b = true)
      (fun _ => (evV C.P x t).goS E r w fun v E r w => nd (v.solid = true) fun _ => (putD d (.val v)).goS E r w K)
      (fun _ => (evV C.P y t).goS E r w fun v E r w => nd (v.solid = true) fun _ => (putD d (.val v)).goS E r w K) := by apply op_pick
@[go_sem] theorem s_op_build (u : TypeId) (parts : Array (Nat × Operand)) (E : Env) (r w : Nat) (K : Unit → Env → Nat → Nat → Rs) : (opP C m st ⟨d, .build u parts, t, p, a, g⟩).goS E r w K =
    bo (zeroT C.P u) fun z => bo (aggOf z) fun zs => match C.P.underlying u with
      | some (.struct fs) => nd ((fs.toList.all fun f => (sizeT C.P f.type).isSome) = true) fun _ =>
          (takeParts C.P st (fun i => (fs[i]?).map (·.type)) parts.toList).goS E r w fun q E r w =>
            bo (fillV (fun i => (fs[i]?).bind fun f => (sizeT C.P f.type).map fun n => (f.offset, n)) zs q.2) fun cs => (putD d (mk q.1 st (.agg cs))).goS E r w K
      | some (.array _ e) => bo (sizeT C.P e) fun n =>
          (takeParts C.P st (fun _ => some e) parts.toList).goS E r w fun q E r w =>
            bo (fillV (fun i => some (i * n, n)) zs q.2) fun cs => (putD d (mk q.1 st (.agg cs))).goS E r w K
      | _ => none := by apply op_build
@[go_sem] theorem s_go_takeParts_nil (P : Program) (tOf : Nat → Option TypeId) (E : Env) (r w : Nat) (K : Bool × List (Nat × V) → Env → Nat → Nat → Rs) : (takeParts P st tOf []).goS E r w K = K (false, []) E r w := by apply go_takeParts_nil
@[go_sem] theorem s_go_takeParts_cons (P : Program) (tOf : Nat → Option TypeId) (i : Nat) (x : Operand) (rest : List (Nat × Operand)) (E : Env) (r w : Nat) (K : Bool × List (Nat × V) → Env → Nat → Nat → Rs) :
    (takeParts P st tOf ((i, x) :: rest)).goS E r w K = bo (tOf i) fun t => (ev P x t).goS E r w fun b E r w => (takeB b).goS E r w fun v E r w => (takeParts P st tOf rest).goS E r w fun q E r w => K (v.1 || q.1, (i, v.2) :: q.2) E r w := by apply go_takeParts_cons
@[go_sem] theorem s_op_makeSlice (u : TypeId) (l c : Operand) (E : Env) (r w : Nat) (K : Unit → Env → Nat → Nat → Rs) : (opP C m st ⟨d, .makeSlice u l c, t, p, a, g⟩).goS E r w K =
    bo (elemT C.P u) fun e => bo (sizeT C.P e) fun n => bo (bytesT C.P e) fun by_ => bo (zeroT C.P e) fun z =>
      (evV C.P l 3).goS E r w fun x E r w => (evV C.P c 3).goS E r w fun y E r w => bo (i64Of x) fun i => bo (i64Of y) fun j =>
        nd ((decide (0 ≤ i ∧ i ≤ j ∧ j ≤ 1099511627776 ∧ j * by_ ≤ 70368744177664 ∧ 0 < n ∧ z.cells.length = n) && z.cells.all V.isCell && z.shared) = true) fun _ =>
          (putD d (.own st st (.sl true n (List.replicate i.toNat z)))).goS E r w K := by apply op_makeSlice
@[go_sem] theorem s_go_intOpt_none (E : Env) (r w : Nat) (K : Option Int → Env → Nat → Nat → Rs) : (intOpt C none).goS E r w K = K none E r w := by apply go_intOpt_none
@[go_sem] theorem s_go_intOpt_some (x : Operand) (E : Env) (r w : Nat) (K : Option Int → Env → Nat → Nat → Rs) : (intOpt C (some x)).goS E r w K = (evV C.P x 0).goS E r w fun v E r w => bo (i64Of v) fun n => K (some n) E r w := by apply go_intOpt_some
@[go_sem] theorem s_op_field (s : TypeId) (x : Operand) (f : Nat) (E : Env) (r w : Nat) (K : Unit → Env → Nat → Nat → Rs) : (opP C m st ⟨d, .field s x f, t, p, a, g⟩).goS E r w K =
    bo (fieldT C.P s f) fun q => (ev C.P x s).goS E r w fun b E r w => (fieldB C d q.1 q.2 b).goS E r w K := by apply op_field
@[go_sem] theorem s_op_indexAddr (u : TypeId) (x ix : Operand) (E : Env) (r w : Nat) (K : Unit → Env → Nat → Nat → Rs) : (opP C m st ⟨d, .indexAddr u x ix, t, p, a, g⟩).goS E r w K =
    (ev C.P x u).goS E r w fun b E r w => (evV C.P ix 3).goS E r w fun v E r w => bo (i64Of v) fun n => (indexP C.P d u b n).goS E r w K := by apply op_indexAddr
@[go_sem] theorem s_nilB_rv (s st ct : Nat) (p : Path) (E : Env) (r w : Nat) (K : Unit → Env → Nat → Nat → Rs) : (nilB d (.rv s st ct p)).goS E r w K =
    bo ((E s).at st ct p) fun v => bo (nilV (.rv s st ct p) v) fun b => (putD d b).goS E (r ||| 1 <<< s) w K := by apply nilB_rv
end
section
variable (P : Program) (E : Env) (r w : Nat) (K : Unit → Env → Nat → Nat → Rs) (d : Option Tmp)
@[go_sem] theorem s_go_partV (t : TypeId) (cs : List V) (off : Nat) (K : V → Env → Nat → Nat → Rs) : (partV P t cs off).goS E r w K = bo (sizeT P t) fun n => bo (aggT P t) fun ag => bo (partO cs off n ag) fun v => K v E r w := by apply go_partV
@[go_sem] theorem s_indexK_val (z sz : Nat) (n : Int) (o : Bool) (es : List V) : (indexK z n d (.val (.sl o sz es))).goS E r w K =
    nd ((0 ≤ n ∧ n.toNat < es.length) ∧ sz = z) fun _ => bo (es[n.toNat]?) fun e => (putD d (.val (.cptr e 0))).goS E r w K := by apply indexK_val
@[go_sem] theorem s_indexK_rv (z : Nat) (n : Int) (s st ct : Nat) (p : Path) : (indexK z n d (.rv s st ct p)).goS E r w K =
    bo ((E s).at st ct p) fun v => bo (slOf v) fun q => nd ((0 ≤ n ∧ n.toNat < q.2.2.length) ∧ q.2.1 = z) fun _ =>
      br (q.1 = true) (fun _ => (putD d (.rp s st ct p n.toNat 0)).goS E (r ||| 1 <<< s) w K) (fun _ => bo (q.2.2[n.toNat]?) fun e => (putD d (.val (.cptr e 0))).goS E (r ||| 1 <<< s) w K) := by apply indexK_rv
@[go_sem] theorem s_indexK_rs (z : Nat) (n : Int) (s st ct lo m : Nat) (p : Path) : (indexK z n d (.rs s st ct p lo m)).goS E r w K =
    bo ((E s).at st ct p) fun v => bo (slOf v) fun q => nd ((0 ≤ n ∧ n.toNat < m ∧ lo + m ≤ q.2.2.length) ∧ q.2.1 = z) fun _ =>
      br (q.1 = true) (fun _ => (putD d (.rp s st ct p (lo + n.toNat) 0)).goS E (r ||| 1 <<< s) w K) (fun _ => bo (q.2.2[lo + n.toNat]?) fun e => (putD d (.val (.cptr e 0))).goS E (r ||| 1 <<< s) w K) := by apply indexK_rs
@[go_sem] theorem s_lenB_val (o : Bool) (z : Nat) (es : List V) (K : Int → Env → Nat → Nat → Rs) : lenBS (.val (.sl o z es)) E r w K = K es.length E r w := by apply lenB_val
@[go_sem] theorem s_lenB_rv (s st ct : Nat) (p : Path) (K : Int → Env → Nat → Nat → Rs) : lenBS (.rv s st ct p) E r w K = bo ((E s).at st ct p) fun v => bo (slOf v) fun q => K q.2.2.length E (r ||| 1 <<< s) w := by apply lenB_rv
@[go_sem] theorem s_lenB_rs (s st ct lo n : Nat) (p : Path) (K : Int → Env → Nat → Nat → Rs) : lenBS (.rs s st ct p lo n) E r w K = bo ((E s).at st ct p) fun _ => K n E (r ||| 1 <<< s) w := by apply lenB_rs
@[go_sem] theorem s_lenAll_str (b : Bd) : lenAllS d b E r w K .str = (readB b).goS E r w fun v E r w => bo (strOf v) fun s => (putD d (.val (.int .i64 s.size))).goS E r w K := by apply lenAll_str
@[go_sem] theorem s_lenAll_arr (b : Bd) (n : Nat) (e : TypeId) : lenAllS d b E r w K (.arr n e) = (putD d (.val (.int .i64 n))).goS E r w K := by apply lenAll_arr
@[go_sem] theorem s_lenAll_sl (b : Bd) (e : TypeId) : lenAllS d b E r w K (.sl e) = lenBS b E r w fun n E r w => (putD d (.val (.int .i64 n))).goS E r w K := by apply lenAll_sl
@[go_sem] theorem s_go_lenP (t : TypeId) (b : Bd) : (lenP P d t b).goS E r w K = lenAllS d b E r w K (ixOf (P.underlying t)) := by apply go_lenP
@[go_sem] theorem s_sliceAll_str (b : Bd) (l : Int) (hi : Option Int) : sliceAllS P d b l hi E r w K .str =
  (readB b).goS E r w fun v E r w => bo (strOf v) fun s => nd (l ≤ hi.getD s.size ∧ hi.getD s.size ≤ s.size) fun _ => (putD d (.val (.str (s.extract l.toNat (hi.getD s.size).toNat)))).goS E r w K := by apply sliceAll_str
@[go_sem] theorem s_sliceAll_val (l : Int) (hi : Option Int) (e : TypeId) (o : Bool) (sz : Nat) (es : List V) : sliceAllS P d (.val (.sl o sz es)) l hi E r w K (.sl e) = bo (sizeT P e) fun z =>
    nd ((l ≤ hi.getD es.length ∧ hi.getD es.length ≤ es.length) ∧ sz = z) fun _ =>
        (putD d (.val (.sl false sz ((es.drop l.toNat).take ((hi.getD es.length).toNat - l.toNat))))).goS E r w K := by apply sliceAll_val
@[go_sem] theorem s_sliceAll_rv (l : Int) (hi : Option Int) (e : TypeId) (s st ct : Nat) (p : Path) : sliceAllS P d (.rv s st ct p) l hi E r w K (.sl e) = bo (sizeT P e) fun z =>
    bo ((E s).at st ct p) fun v => bo (slOf v) fun q => nd ((l ≤ hi.getD q.2.2.length ∧ hi.getD q.2.2.length ≤ q.2.2.length) ∧ q.2.1 = z) fun _ =>
        br (q.1 = true) (fun _ => (putD d (.rs s st ct p l.toNat ((hi.getD q.2.2.length).toNat - l.toNat))).goS E (r ||| 1 <<< s) w K)
          (fun _ => (putD d (.val (.sl false q.2.1 ((q.2.2.drop l.toNat).take ((hi.getD q.2.2.length).toNat - l.toNat))))).goS E (r ||| 1 <<< s) w K) := by apply sliceAll_rv
@[go_sem] theorem s_sliceAll_rs (l : Int) (hi : Option Int) (e : TypeId) (s st ct lo0 n : Nat) (p : Path) : sliceAllS P d (.rs s st ct p lo0 n) l hi E r w K (.sl e) = bo (sizeT P e) fun z =>
    bo ((E s).at st ct p) fun v => bo (slOf v) fun q => nd (((l ≤ hi.getD n ∧ hi.getD n ≤ n ∧ lo0 + n ≤ q.2.2.length) ∧ q.2.1 = z) ∧ q.1 = true) fun _ =>
        (putD d (.rs s st ct p (lo0 + l.toNat) ((hi.getD n).toNat - l.toNat))).goS E (r ||| 1 <<< s) w K := by apply sliceAll_rs
@[go_sem] theorem s_go_sliceP (t : TypeId) (b : Bd) (lo hi : Option Int) : (sliceP P d t b lo hi).goS E r w K = nd (0 ≤ lo.getD 0) fun _ => sliceAllS P d b (lo.getD 0) hi E r w K (ixOf (P.underlying t)) := by apply go_sliceP
end
section
variable (C : Ctx) (m : Sem_) (st : Nat) (d : Option Tmp) (t : TypeId) (p : String) (a : Array Edge) (g : Option (Nat × Bool))
variable (E : Env) (r w : Nat) (K : Unit → Env → Nat → Nat → Rs)
@[go_sem] theorem s_op_index (u : TypeId) (x ix : Operand) : (opP C m st ⟨d, .index u x ix, t, p, a, g⟩).goS E r w K =
    (evV C.P x u).goS E r w fun b E r w => (evV C.P ix 3).goS E r w fun v E r w => bo (i64Of v) fun n => (indexV C.P b n d (ixOf (C.P.underlying u))).goS E r w K := by apply op_index
@[go_sem] theorem s_op_extract (x : Operand) (i : Nat) : (opP C m st ⟨d, .extract x i, t, p, a, g⟩).goS E r w K = (ev C.P x 0).goS E r w fun b E r w => (extB d st i b).goS E r w K := by apply op_extract
@[go_sem] theorem s_go_appended (e : TypeId) (b : Bd) (K : Nat × List V → Env → Nat → Nat → Rs) : (appended C.P e b).goS E r w K =
    br (pureT C.P 12 e = true) (fun _ => (readB b).goS E r w fun v E r w => bo (slOf v) fun q => nd (leaves q.2.2 = true) fun _ => K q.2 E r w)
      (fun _ => (takeB b).goS E r w fun v E r w => bo (slOf v.2) fun q => K q.2 E r w) := by apply go_appended
@[go_sem] theorem s_go_appendP (t0 t1 : TypeId) (x y : Bd) : (appendP C.P st d t0 t1 x y).goS E r w K =
    bo (elemT C.P t0) fun e => bo (elemT C.P t1) fun e1 => bo (sizeT C.P e) fun z => bo (sizeT C.P e1) fun z1 => bo (bytesT C.P e) fun by_ => bo (zeroT C.P e) fun z0 =>
      nd ((decide (z0.cells.length = z ∧ 0 < z) && z0.cells.all V.isCell) = true) fun _ => (takeB x).goS E r w fun v E r w => bo (ownSl v.2) fun q =>
        (appended C.P e y).goS E r w fun q1 E r w => nd ((q.1 == z && (q1.1 == z || q1.2.isEmpty) && z1 == z) = true) fun _ =>
          nd ((q.2.length + q1.2.length) * by_ ≤ 70368744177664 ∧ 0 < by_) fun _ => (putD d (.own st st (.sl true z (q.2 ++ q1.2)))).goS E r w K := by apply go_appendP
@[go_sem] theorem s_call_min (o : Oper) (x y : Operand) (u v : TypeId) : (calleeP C m st o ⟨.builtin .min, #[x, y], #[u, v]⟩).goS E r w K =
    (evV C.P x u).goS E r w fun x E r w => (evV C.P y v).goS E r w fun y E r w => bo (minmax true x [y]) fun z => (putD o.dst (.val z)).goS E r w K := by apply call_min
@[go_sem] theorem s_call_max (o : Oper) (x y : Operand) (u v : TypeId) : (calleeP C m st o ⟨.builtin .max, #[x, y], #[u, v]⟩).goS E r w K =
    (evV C.P x u).goS E r w fun x E r w => (evV C.P y v).goS E r w fun y E r w => bo (minmax false x [y]) fun z => (putD o.dst (.val z)).goS E r w K := by apply call_max
@[go_sem] theorem s_go_callP (f : FuncId) (vals : List V) (flag : Bool) (ls : List (Option (V × Place))) : (callP C m st d f vals flag ls).goS E r w K =
    bo (sig C f) fun q => bo (m (.func f) vals) fun outs => nd (outsOk q.1 ls.length (C.mt f).length q.2 flag outs = true) fun _ =>
      (giveBack (st + 1) ls (outs.drop q.1)).goS E r w fun _ E r w => (putD d (mk (!q.2) st (packR (outs.take q.1)))).goS E r w K := by apply go_callP
@[go_sem] theorem s_call_func (o : Oper) (f : FuncId) (args : Array Operand) (ts : Array TypeId) : (calleeP C m st o ⟨.value (.func f), args, ts⟩).goS E r w K =
    nd (args.size = ts.size) fun _ => (lendP C (C.mt f) (args.toList.zip ts.toList)).goS E r w fun ls E r w => (readP C ls (args.toList.zip ts.toList)).goS E r w fun q E r w => (callP C m st o.dst f q.1 q.2 ls).goS E r w K := by apply call_func
@[go_sem] theorem s_call_tmp (o : Oper) (s : Nat) (args : Array Operand) (ts : Array TypeId) : (calleeP C m st o ⟨.value (.tmp s), args, ts⟩).goS E r w K =
    nd (args.size = ts.size) fun _ => (ev C.P (.tmp s) 0).goS E r w fun b E r w => bo (cloOf b) fun c => (lendP C (C.mt c.1) (args.toList.zip ts.toList)).goS E r w fun ls E r w =>
      (readP C ls (args.toList.zip ts.toList)).goS E r w fun q E r w => (readCaps c.2.1).goS E r w fun cs E r w => (callP C m st o.dst c.1 (q.1 ++ cs ++ c.2.2) (q.2 || !c.2.1.isEmpty) ls).goS E r w K := by apply call_tmp
@[go_sem] theorem s_lend_nil (ws : List Bool) (K : List (Option (V × Place)) → Env → Nat → Nat → Rs) : (lendP C ws []).goS E r w K = K [] E r w := by apply lend_nil
@[go_sem] theorem s_lend_f (x : Operand) (u : TypeId) (l : List (Operand × TypeId)) (ws : List Bool) (K : List (Option (V × Place)) → Env → Nat → Nat → Rs) :
    (lendP C (false :: ws) ((x, u) :: l)).goS E r w K = (lendP C ws l).goS E r w fun ls E r w => K (none :: ls) E r w := by apply lend_f
@[go_sem] theorem s_lend_0 (x : Operand) (u : TypeId) (l : List (Operand × TypeId)) (K : List (Option (V × Place)) → Env → Nat → Nat → Rs) :
    (lendP C [] ((x, u) :: l)).goS E r w K = (lendP C [] l).goS E r w fun ls E r w => K (none :: ls) E r w := by apply lend_0
@[go_sem] theorem s_lend_t (x : Operand) (u : TypeId) (l : List (Operand × TypeId)) (ws : List Bool) (K : List (Option (V × Place)) → Env → Nat → Nat → Rs) :
    (lendP C (true :: ws) ((x, u) :: l)).goS E r w K = (ev C.P x u).goS E r w fun b E r w => bo (rvOf b) fun q => (rdAt q.s q.st q.ct q.p).goS E r w fun v E r w =>
      (clearAt q.s q.st q.ct q.p).goS E r w fun _ E r w => (lendP C ws l).goS E r w fun ls E r w => K (some (v, q) :: ls) E r w := by apply lend_t
@[go_sem] theorem s_read_nil (ls : List (Option (V × Place))) (K : List V × Bool → Env → Nat → Nat → Rs) : (readP C ls []).goS E r w K = K ([], false) E r w := by apply read_nil
@[go_sem] theorem s_read_some (v : V) (q : Place) (ls : List (Option (V × Place))) (x : Operand × TypeId) (l : List (Operand × TypeId)) (K : List V × Bool → Env → Nat → Nat → Rs) :
    (readP C (some (v, q) :: ls) (x :: l)).goS E r w K = (readP C ls l).goS E r w fun z E r w => K (v :: z.1, z.2) E r w := by apply read_some
@[go_sem] theorem s_read_none (ls : List (Option (V × Place))) (x : Operand) (u : TypeId) (l : List (Operand × TypeId)) (K : List V × Bool → Env → Nat → Nat → Rs) :
    (readP C (none :: ls) ((x, u) :: l)).goS E r w K = (read1 C x u).goS E r w fun v E r w => (readP C ls l).goS E r w fun z E r w => K (v.1 :: z.1, v.2 || z.2) E r w := by apply read_none
@[go_sem] theorem s_readK_val (s' : Nat) (v : V) (K : V × Bool → Env → Nat → Nat → Rs) : (readK s' (.val v)).goS E r w K = K (v, false) E r w := by apply readK_val
@[go_sem] theorem s_readK_rv0 (s' s s1 ct : Nat) (K : V × Bool → Env → Nat → Nat → Rs) : (readK s' (.rv s s1 ct [])).goS E r w K =
    br (s = s') (fun _ => (readRoot s s1 ct).goS E r w K) (fun _ => (readB (.rv s s1 ct [])).goS E r w fun v E r w => K (v, !v.plain) E r w) := by apply readK_rv0
@[go_sem] theorem s_readK_rv1 (s' s s1 ct : Nat) (q : Nat × Nat) (pp : Path) (K : V × Bool → Env → Nat → Nat → Rs) : (readK s' (.rv s s1 ct (q :: pp))).goS E r w K = (readB (.rv s s1 ct (q :: pp))).goS E r w fun v E r w => K (v, !v.plain) E r w := by apply readK_rv1
@[go_sem] theorem s_readK_rs (s' s s1 ct lo n : Nat) (pp : Path) (K : V × Bool → Env → Nat → Nat → Rs) : (readK s' (.rs s s1 ct pp lo n)).goS E r w K = (readB (.rs s s1 ct pp lo n)).goS E r w fun v E r w => K (v, !v.plain) E r w := by apply readK_rs
@[go_sem] theorem s_readK_rp (s' s s1 ct i j : Nat) (pp : Path) (K : V × Bool → Env → Nat → Nat → Rs) : (readK s' (.rp s s1 ct pp i j)).goS E r w K = (readB (.rp s s1 ct pp i j)).goS E r w fun v E r w => K (v, !v.plain) E r w := by apply readK_rp
@[go_sem] theorem s_readK_clo (s' : Nat) (f : FuncId) (cs : List Cap) (K : V × Bool → Env → Nat → Nat → Rs) : (readK s' (.clo f cs)).goS E r w K = (readB (.clo f cs)).goS E r w fun v E r w => K (v, !v.plain) E r w := by apply readK_clo
@[go_sem] theorem s_read1_tmp (s : Nat) (u : TypeId) (K : V × Bool → Env → Nat → Nat → Rs) : (read1 C (.tmp s) u).goS E r w K = (ev C.P (.tmp s) u).goS E r w fun b E r w => (readK s b).goS E r w K := by apply read1_tmp
@[go_sem] theorem s_read1_const (v : Value) (u : TypeId) (K : V × Bool → Env → Nat → Nat → Rs) : (read1 C (.const v) u).goS E r w K = bo (ofVal C.P u v) fun x => K (x, false) E r w := by apply read1_const
@[go_sem] theorem s_read1_func (f : FuncId) (u : TypeId) (K : V × Bool → Env → Nat → Nat → Rs) : (read1 C (.func f) u).goS E r w K = K (.fn f [], false) E r w := by apply read1_func
@[go_sem] theorem s_rootK_box (s : Nat) (y : V) (K : V × Bool → Env → Nat → Nat → Rs) : rootKS s (.box y) E r w K = K (.cptr y.freeze 0, true) E r w := by apply rootK_box
@[go_sem] theorem s_rootK_sl (s : Nat) (o : Bool) (z : Nat) (es : List V) (K : V × Bool → Env → Nat → Nat → Rs) : rootKS s (.sl o z es) E r w K = K ((V.sl o z es).freeze, false) (upd E s (.val (V.sl o z es).freeze)) r (w ||| 1 <<< s) := by apply rootK_sl
@[go_sem] theorem s_rootK_agg (s : Nat) (cs : List V) (K : V × Bool → Env → Nat → Nat → Rs) : rootKS s (.agg cs) E r w K = K ((V.agg cs).freeze, false) (upd E s (.val (V.agg cs).freeze)) r (w ||| 1 <<< s) := by apply rootK_agg
@[go_sem] theorem s_go_readRoot (s s1 ct : Nat) (K : V × Bool → Env → Nat → Nat → Rs) : (readRoot s s1 ct).goS E r w K = bo ((E s).at s1 ct []) fun v => rootKS s v E (r ||| 1 <<< s) w K := by apply go_readRoot
@[go_sem] theorem s_back_nil (K : Unit → Env → Nat → Nat → Rs) : (giveBack st [] []).goS E r w K = K () E r w := by apply back_nil
@[go_sem] theorem s_capsOf_nil (K : List Cap → Env → Nat → Nat → Rs) : (capsOf C []).goS E r w K = K [] E r w := by apply capsOf_nil
@[go_sem] theorem s_capsOf_cons (x : Operand) (xs : List Operand) (K : List Cap → Env → Nat → Nat → Rs) : (capsOf C (x :: xs)).goS E r w K =
    (ev C.P x 0).goS E r w fun b E r w => bo (capOf b) fun c => (capsOf C xs).goS E r w fun cs E r w => K (c :: cs) E r w := by apply capsOf_cons
@[go_sem] theorem s_resP_nil (K : List V → Env → Nat → Nat → Rs) : (resP C []).goS E r w K = K [] E r w := by apply resP_nil
@[go_sem] theorem s_resP_tmp (s : Nat) (l : List ResultVar) (K : List V → Env → Nat → Nat → Rs) : (resP C (.tmp s :: l)).goS E r w K =
    (ev C.P (.tmp s) 0).goS E r w fun b E r w => (takeB b).goS E r w fun v E r w => (resP C l).goS E r w fun vs E r w => K (v.2 :: vs) E r w := by apply resP_tmp
@[go_sem] theorem s_resP_cell (s : Nat) (u : TypeId) (l : List ResultVar) (K : List V → Env → Nat → Nat → Rs) : (resP C (.cell s u :: l)).goS E r w K =
    bo (sizeT C.P u) fun n => bo (aggT C.P u) fun ag => (ev C.P (.tmp s) 0).goS E r w fun b E r w => bo (rvOf b) fun q => nd (q.p = []) fun _ =>
      bo ((E q.s).at q.st q.ct []) fun v => bo (unbox v) fun x => nd ((x.isAgg == ag && decide (x.cells.length = n)) = true) fun _ =>
        (resP C l).goS (upd E q.s (.val .any)) (r ||| 1 <<< q.s) (w ||| 1 <<< q.s) fun vs E r w => K (x :: vs) E r w := by apply resP_cell
@[go_sem] theorem s_outP_nil (i : Nat) (K : List V → Env → Nat → Nat → Rs) : (outP i []).goS E r w K = K [] E r w := by apply outP_nil
@[go_sem] theorem s_outP_t (i : Nat) (l : List Bool) (K : List V → Env → Nat → Nat → Rs) : (outP i (true :: l)).goS E r w K =
    (outP (i + 1) l).goS E (r ||| 1 <<< i) w fun vs E' r w => K (lentV i (E i) :: vs) E' r w := by apply outP_t
end
@[go_sem] theorem s_exec_nil (C : Ctx) (m : Sem_) (ops : Array Oper) (st : Nat) (E : Env) (fs : List (Nat × Nat)) (K : Nat → Env → List (Nat × Nat) → Rs) : execS C m ops st [] E fs K = K st E fs := by apply exec_nil
@[go_sem] theorem s_exec_cons (C : Ctx) (m : Sem_) (ops : Array Oper) (st : Nat) (o : Oper) (l : List Oper) (E : Env) (fs : List (Nat × Nat)) (K : Nat → Env → List (Nat × Nat) → Rs) :
    execS C m ops st (o :: l) E fs K = (guardP C m ops st o).goS E 0 0 fun _ E r w => execS C m ops (st + 16) l E ((r, w) :: fs) K := by apply exec_cons
@[go_sem] theorem s_finK_eq (C : Ctx) (res : List ResultVar) (mt : List Bool) (E : Env) : finK C res mt E = (resP C res).goS E 0 0 fun rs E r w => (outP 0 mt).goS E r w fun os _ _ _ => some (rs ++ os) := by apply finK_eq
@[go_sem] theorem s_runX_region (C : Ctx) (m : Sem_) (f : FuncId) (cs : List (Nat × List (Nat × Lk))) (F : Env → Rs) (id : Nat) (l : List Oper) (k : Kont) (x : Nat → Kont) (clk : Nat) (E : Env) :
    runXS C m f cs F (.region id l.toArray false) k x clk E = cutS (cs.lookup id) (fun lv => liveKS E lv fun vs => m (.at_ f id) vs) (fun _ => execS C m l.toArray clk l E [] (fun st E' _ => k st E')) := by
  show runX C m f cs F (.region id l.toArray false) k x clk E = _
  rw [runX_region]
  unfold cutS
  cases List.lookup id cs <;> rfl
@[go_sem] theorem s_runX_draw (C : Ctx) (m : Sem_) (f : FuncId) (cs : List (Nat × List (Nat × Lk))) (F : Env → Rs) (id : Nat) (l : List Oper) (k : Kont) (x : Nat → Kont) (clk : Nat) (E : Env) :
    runXS C m f cs F (.region id l.toArray true) k x clk E = cutS (cs.lookup id) (fun lv => liveKS E lv fun vs => m (.at_ f id) vs) (fun _ => execS C m l.toArray clk l E [] (fun st E' fs => dr l fs (fun _ => k st E'))) := by
  show runX C m f cs F (.region id l.toArray true) k x clk E = _
  rw [runX_draw]
  unfold cutS
  cases List.lookup id cs <;> rfl
@[go_sem] theorem s_runX_loop (C : Ctx) (m : Sem_) (f : FuncId) (cs : List (Nat × List (Nat × Lk))) (F : Env → Rs) (c : Code) (k : Kont) (x : Nat → Kont) (clk : Nat) (E : Env) :
    runXS C m f cs F (.loop c) k x clk E = bo (firstId c) fun id => bo (cs.lookup id) fun lv => liveKS E lv fun vs => m (.at_ f id) vs := by apply runX_loop

theorem FnF.fnS {C : Ctx} {f : FuncId} {fn : Func} {cs : List (Nat × List (Nat × Lk))} {mt : List Bool} {res : List ResultVar} (F : FnF C f fn cs mt res) {c : Code} {vals r : List V}
    (hx : C.ext f vals = none) (hb : fn.body = some c) (hl : (decide (mt.length ≤ vals.length) && decide (vals.length ≤ fn.ntmps)) = true)
    (h : runXS C (lim C) f cs (finK C res mt) c (fun _ E => finK C res mt E) (fun _ _ _ => none) 100000 (params mt 0 vals) = some r) : lim C (.func f) vals = some r :=
  F.fn hx hb hl h

/-- The code behind a cut: what is run, and with which continuations. -/
def findS (C : Ctx) (m : Sem_) (f : FuncId) (cs : List (Nat × List (Nat × Lk))) (F : Env → Rs) (id : Nat) (c : Code) (k : Kont) (x : Nat → Kont) (E : Env) (e : Unit → Rs)
    (_ : Seal c := .mk) (_ : Seal k := .mk) (_ : Seal x := .mk) (_ : Seal e := .mk) (_ : Seal cs := .mk) (_ : Seal F := .mk) : Rs :=
  match findX C m f cs F id c k x with
  | some kk => kk 100000 E
  | none => e ()
section
variable (C : Ctx) (m : Sem_) (f : FuncId) (cs : List (Nat × List (Nat × Lk))) (F : Env → Rs) (id : Nat) (k : Kont) (x : Nat → Kont) (E : Env) (e : Unit → Rs)
@[go_sem] theorem findS_region (id' : Nat) (l : List Oper) (d : Bool) : findS C m f cs F id (.region id' l.toArray d) k x E e = br (id' = id)
    (fun _ => execS C m l.toArray 100000 l E [] (fun st E' fs => br (d = true) (fun _ => dr l fs (fun _ => k st E')) (fun _ => k st E'))) e := by
  unfold findS
  simp only [findX, br_ite]
  by_cases h : id' = id
  · rw [if_pos h, if_pos h]
    show exec C m l.toArray 100000 l E [] (fun st E' fs => if d = true then dr l fs (fun _ => k st E') else k st E') = exec C m l.toArray 100000 l E [] (fun st E' fs => br (d = true) (fun _ => dr l fs (fun _ => k st E')) (fun _ => k st E'))
    congr 1; funext st E' fs
    rw [br_ite]
  · rw [if_neg h, if_neg h]
@[go_sem] theorem findS_seq (a b : Code) : findS C m f cs F id (.seq a b) k x E e = findS C m f cs F id a (fun clk E => runXS C m f cs F b k x clk E) x E (fun _ => findS C m f cs F id b k x E e) := by
  unfold findS
  simp only [findX]
  show (match (findX C m f cs F id a (runX C m f cs F b k x) x).or (findX C m f cs F id b k x) with | some kk => kk 100000 E | none => e ()) = match (findX C m f cs F id a (runX C m f cs F b k x) x) with | some kk => kk 100000 E | none => match findX C m f cs F id b k x with | some kk => kk 100000 E | none => e ()
  cases findX C m f cs F id a (runX C m f cs F b k x) x <;> rfl
@[go_sem] theorem findS_cond (c : Operand) (a b : Code) : findS C m f cs F id (.cond c a b) k x E e = findS C m f cs F id a k x E (fun _ => findS C m f cs F id b k x E e) := by
  unfold findS
  simp only [findX]
  cases findX C m f cs F id a k x <;> rfl
@[go_sem] theorem findS_block (i : Nat) (c : Code) : findS C m f cs F id (.block i c) k x E e = findS C m f cs F id c k (fun j => if j = i then k else x j) E e := rfl
@[go_sem] theorem findS_loop (c : Code) : findS C m f cs F id (.loop c) k x E e = findS C m f cs F id c (fun clk E => runXS C m f cs F (.loop c) (fun _ _ => none) x clk E) x E e := rfl
@[go_sem] theorem findS_skip : findS C m f cs F id .skip k x E e = e () := rfl
@[go_sem] theorem findS_exit (i : Nat) : findS C m f cs F id (.exit i) k x E e = e () := rfl
@[go_sem] theorem findS_ret : findS C m f cs F id .ret k x E e = e () := rfl
end
theorem FnF.atS {C : Ctx} {f : FuncId} {fn : Func} {cs : List (Nat × List (Nat × Lk))} {mt : List Bool} {res : List ResultVar} (F : FnF C f fn cs mt res) {c : Code} {vals r : List V} {id : Nat}
    {lv : List (Nat × Lk)} (hb : fn.body = some c) (hlv : cs.lookup id = some lv)
    (h : (bo (liveIn lv vals) fun E => findS C (lim C) f cs (finK C res mt) id c (fun _ E => finK C res mt E) (fun _ _ _ => none) E (fun _ => none)) = some r) : lim C (.at_ f id) vals = some r :=
  F.at hb hlv h
end
end Go.Lm

namespace Go.Lm

/-- A text, by its bytes. -/
def bs (l : List UInt8) : ByteArray := ⟨l.toArray⟩
@[go_sem] theorem bs_eq (l : List UInt8) : ByteArray.mk l.toArray = bs l := rfl
theorem toList_loop (a : ByteArray) : ∀ (n i : Nat) (r : List UInt8), a.size - i = n → ByteArray.toList.loop a i r = r.reverse ++ a.data.toList.drop i := by
  intro n
  induction n with
  | zero =>
    intro i r h
    unfold ByteArray.toList.loop
    rw [if_neg (by omega), List.drop_eq_nil_of_le (by rw [Array.length_toList]; show a.size ≤ i; omega), List.append_nil]
  | succ n ih =>
    intro i r h
    unfold ByteArray.toList.loop
    rw [if_pos (by omega), ih (i + 1) _ (by omega)]
    have hi : i < a.data.toList.length := by rw [Array.length_toList]; show i < a.size; omega
    rw [List.drop_eq_getElem_cons hi]
    simp only [List.reverse_cons, List.append_assoc, List.cons_append, List.nil_append]
    congr 2
    show a.data[i]! = _
    have : i < a.data.size := by simpa using hi
    rw [getElem!_pos a.data i this]; simp
theorem ba_toList (a : ByteArray) : a.toList = a.data.toList := by
  unfold ByteArray.toList
  rw [toList_loop a a.size 0 [] (by omega)]; simp
@[go_sem] theorem bs_toList (l : List UInt8) : (bs l).toList = l := by rw [ba_toList]; rfl
@[go_sem] theorem bs_data (l : List UInt8) : (bs l).data.toList = l := rfl
@[go_sem] theorem bs_size (l : List UInt8) : (bs l).size = l.length := rfl
@[go_sem] theorem bs_getD (l : List UInt8) (n : Nat) : (bs l).data.getD n 0 = l.getD n 0 := by
  simp only [bs, Array.getD_eq_getD_getElem?, List.getD_eq_getElem?_getD]; simp
@[go_sem] theorem bs_append (l k : List UInt8) : bs l ++ bs k = bs (l ++ k) := by
  apply ByteArray.ext
  rw [ByteArray.data_append]; simp [bs]
@[go_sem] theorem bs_extract (l : List UInt8) (i j : Nat) : (bs l).extract i j = bs ((l.take j).drop i) := by
  apply ByteArray.ext
  rw [ByteArray.data_extract]
  apply Array.ext'
  simp [bs, Array.toList_extract, List.extract]
  rw [List.drop_take]
@[go_sem] theorem beq_bytes (a b : List UInt8) : (a == b) = decide (a = b) := by by_cases h : a = b <;> simp [h]
attribute [go_sem] decide_eq_false_iff_not Bool.or_eq_true Bool.or_eq_false_iff Bool.not_eq_false'
attribute [go_sem] List.length_set Bool.false_eq_true List.getElem?_set_self List.set_set Nat.sub_zero Int.sub_zero Int.add_zero Int.zero_add Nat.sub_self Int.cast_ofNat_Int Int.natCast_pos Int.ofNat_lt Int.ofNat_le Int.natCast_inj List.length_map List.getElem?_map
theorem br_pos {c : Prop} {t e : Unit → Rs} {r : Rs} (h : c) (hk : c → t () = r) : br c t e = r := by rw [show c = True from eq_true h, br_true]; exact hk h
theorem br_neg {c : Prop} {t e : Unit → Rs} {r : Rs} (h : ¬ c) (hk : ¬ c → e () = r) : br c t e = r := by rw [show c = False from eq_false h, br_false]; exact hk h
theorem wrapS {i : Nat} (h : i < 9223372036854775807) : IntKind.i64.wrap ((i : Int) + 1) = ((i + 1 : Nat) : Int) := IntWalk.i64_in _ ⟨by omega, by omega⟩
theorem wrapP {i : Nat} (h : 0 < i) (h2 : i ≤ 9223372036854775807) : IntKind.i64.wrap ((i : Int) - 1) = ((i - 1 : Nat) : Int) := by
  rw [IntWalk.i64_in _ ⟨by omega, by omega⟩]; omega
theorem getS {α : Type} {l : List α} {i : Nat} (h : i < l.length) : l[i]? = some l[i] := List.getElem?_eq_getElem h
theorem getDS {l : List UInt8} {i : Nat} (h : i < l.length) : l.getD i 0 = l[i] := by rw [List.getD_eq_getElem?_getD, List.getElem?_eq_getElem h]; rfl
end Go.Lm
