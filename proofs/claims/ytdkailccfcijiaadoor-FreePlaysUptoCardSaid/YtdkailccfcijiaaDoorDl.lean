/- What Patch, Lists, Compose answer: the plain words. No condition. -/
import Derived.Test.YtdkailccfcijiaaDoorDi
import Derived.Test.YtdkailccfcijiaaDoorErr
import Derived.Test.YtdkailccfcijiaaDoorRg
namespace Go.Proofs.YtdkailccfcijiaaDoor
open Go.RowKit Go.Shelf
set_option linter.unusedVariables false

/-- All steps, one behind the other; none: a step has failed. -/
def runAll {α β γ : Type} (f : Option α → Option β → Option (List γ)) : List (Option α × Option β) → Option (List γ)
  | [] => some []
  | p :: t => match f p.1 p.2 with
    | none => none
    | some r => (runAll f t).map fun s => r ++ s
section
variable {α β γ : Type} {f : Option α → Option β → Option (List γ)}
theorem runAll_append (l r : List (Option α × Option β)) : runAll f (l ++ r) = (runAll f l).bind fun s => (runAll f r).map fun t => s ++ t := by
  induction l with
  | nil => simp [runAll]
  | cons p l ih =>
    simp only [List.cons_append, runAll]
    cases h : f p.1 p.2 with
    | none => rfl
    | some r' =>
      simp only [ih]
      cases runAll f l <;> cases runAll f r <;> simp [List.append_assoc]
theorem runAll_snoc {l : List (Option α × Option β)} {s r : List γ} {p : Option α × Option β} (h : runAll f l = some s) (hp : f p.1 p.2 = some r) : runAll f (l ++ [p]) = some (s ++ r) := by
  rw [runAll_append, h]
  simp [runAll, hp]
theorem runAll_fail {l : List (Option α × Option β)} {s : List γ} {p : Option α × Option β} (h : runAll f l = some s) (hp : f p.1 p.2 = none) : runAll f (l ++ [p]) = none := by
  rw [runAll_append, h]
  simp [runAll, hp]
theorem runAll_prefix {l m : List (Option α × Option β)} (h : runAll f l = none) (hp : l <+: m) : runAll f m = none := by
  obtain ⟨t, rfl⟩ := hp
  rw [runAll_append, h]
  rfl
theorem runAll_length {l : List (Option α × Option β)} {s : List γ} (hf : ∀ x y r, f x y = some r → r.length ≤ 1) (h : runAll f l = some s) : s.length ≤ l.length := by
  induction l generalizing s with
  | nil => simp [runAll] at h; subst h; simp
  | cons p l ih =>
    simp only [runAll] at h
    cases hp : f p.1 p.2 with
    | none => rw [hp] at h; cases h
    | some r =>
      rw [hp] at h
      simp only [Option.map_eq_some_iff] at h
      obtain ⟨t, ht, rfl⟩ := h
      have h1 := ih ht
      have h2 := hf _ _ _ hp
      simp; omega
end

def patchOne : Option P → Option C → Option (List P)
  | some x, none => some [x]
  | none, none => some []
  | none, some c => if c.had then none else if c.old.toList == [] then some (if c.has then [⟨c.k, c.new⟩] else []) else none
  | some x, some c => if c.had then if x.v.toList == c.old.toList then some (if c.has then [⟨c.k, c.new⟩] else []) else none else none
def listsOne (x y : Option P) : C := ⟨match y with | some y => y.k | none => match x with | some x => x.k | none => ⟨#[]⟩, x.isSome, y.isSome, match x with | some x => x.v | none => ⟨#[]⟩, match y with | some y => y.v | none => ⟨#[]⟩⟩
def keepC (c : C) : List C := if c.idle then [] else [c]
def composeOne : Option C → Option C → Option (List C)
  | some x, none => some (keepC x)
  | none, some y => some (keepC y)
  | none, none => some []
  | some x, some y => if x.has == y.had then if x.new.toList == y.old.toList then some (keepC ⟨x.k, x.had, y.has, x.old, y.new⟩) else none else none

open Classical in
noncomputable def answer {α β γ : Type} (ka : α → ByteArray) (kb : β → ByteArray) (f : Option α → Option β → Option (List γ)) (a : List α) (b : List β) : List γ × Option Nat :=
  if Rises (a.map ka) ∧ Rises (b.map kb) then match runAll f (sidesL ka kb a b) with
    | some l => (l, none)
    | none => ([], some 1)
  else ([], some 0)
noncomputable def patchL (a : List P) (l : List C) : List P × Option Nat := answer P.k C.k patchOne a l
noncomputable def listsL (a b : List P) : List C × Option Nat := answer P.k P.k (fun x y => some (keepC (listsOne x y))) a b
noncomputable def composeL (a b : List C) : List C × Option Nat := answer C.k C.k composeOne a b
section
variable {α β γ : Type} {ka : α → ByteArray} {kb : β → ByteArray} {f : Option α → Option β → Option (List γ)} {a : List α} {b : List β}
theorem answer_order (h : ¬ (Rises (a.map ka) ∧ Rises (b.map kb))) : answer ka kb f a b = ([], some 0) := if_neg h
theorem answer_ok (h : Rises (a.map ka) ∧ Rises (b.map kb)) {l : List γ} (hr : runAll f (sidesL ka kb a b) = some l) : answer ka kb f a b = (l, none) := by
  unfold answer
  rw [if_pos h, hr]
theorem answer_lost (h : Rises (a.map ka) ∧ Rises (b.map kb)) (hr : runAll f (sidesL ka kb a b) = none) : answer ka kb f a b = ([], some 1) := by
  unfold answer
  rw [if_pos h, hr]
end
theorem putC_len (c : C) : (if c.has then [(⟨c.k, c.new⟩ : P)] else []).length ≤ 1 := by split <;> simp
theorem patchOne_len (x : Option P) (y : Option C) (r : List P) (h : patchOne x y = some r) : r.length ≤ 1 := by
  unfold patchOne at h
  split at h
  · cases h; simp
  · cases h; simp
  · split at h
    · cases h
    · split at h
      · cases h; exact putC_len _
      · cases h
  · split at h
    · split at h
      · cases h; exact putC_len _
      · cases h
    · cases h
theorem keepC_len (c : C) : (keepC c).length ≤ 1 := by unfold keepC; split <;> simp
theorem composeOne_len (x y : Option C) (r : List C) (h : composeOne x y = some r) : r.length ≤ 1 := by
  unfold composeOne at h
  split at h
  · cases h; exact keepC_len _
  · cases h; exact keepC_len _
  · cases h; simp
  · split at h
    · split at h
      · cases h; exact keepC_len _
      · cases h
    · cases h
theorem sidesL_length {α β : Type} (ka : α → ByteArray) (kb : β → ByteArray) (a : List α) (b : List β) : (sidesL ka kb a b).length ≤ a.length + b.length := by
  fun_induction sidesL ka kb a b <;> simp_all <;> omega

theorem Sep.first {w0 w : World} {c : Chunk} {L : List Chunk} (h : Sep w0 w (c :: L)) : Sep w0 w [c] :=
  ⟨h.below, fun d hd => h.is d (by simp at hd; subst hd; exact List.mem_cons_self), fun d hd => h.lie d (by simp at hd; subst hd; exact List.mem_cons_self), List.pairwise_singleton _ _⟩
theorem Sep.down {w0 w : World} {c : Chunk} (L1 : List Chunk) {L2 : List Chunk} (h : Sep w0 w (c :: (L1 ++ L2))) : Sep w0 w (L1 ++ c :: L2) := h.perm List.perm_middle.symm
theorem kq_put {w W0 W : World} {L : List Chunk} {bA bB : Nat} {tA tB : TypeId} {vA vB : List Value} (S : Sep w W0 L) (hA : blk bA tA vA ∈ L) (hB : blk bB tB vB ∈ L) (l : Nat) (o' : Obj) (hl : W0.heap.size ≤ l) : Kq (Kab w bA bB) W (W.putObj l o') :=
  fun k hk => World.putObj_heap_other (fun e => by have := kab_lt S hA hB k hk; omega)
theorem row_succ {α : Type} {T : Ty α} {w0 w : World} {L : List Chunk} {v : Value} {l : List α} {x : α} (S : Sep w0 w (row T v (l ++ [x]) :: L)) : ∃ g n c, v = .slice (some ⟨g, 0, none⟩) n c := by
  rcases Row.form S.hd with ⟨rfl, h⟩ | ⟨g, c, rfl, _⟩
  · simp at h
  · exact ⟨g, _, c, rfl⟩
/-- append, as one run. -/
theorem run_appE {α : Type} {T : Ty α} {P : Program} {w0 w : World} {L : List Chunk} {t : TypeId} {bytes : Nat} (E : Elem P T t bytes) (ty : TypeId) {v : Value} {l : List α} (S : Sep w0 w (row T v l :: L)) {b : Option Addr} {m c : Nat} {r : List α} (hs : Rd T w b m r) (hb : (l.length + m) * bytes ≤ 140737488355328) :
    ∃ v' w', (Builtin.append_ #[t, t] ty #[v, .slice b m c]).run P w = .ok v' w' ∧ Sep w0 w' (row T v' (l ++ r) :: L) ∧ Kp w w' (fun k => v.ownBlock = some k) := by
  obtain ⟨z, hz, hinfo⟩ := E.hi
  obtain ⟨i, hi, hzz⟩ := Option.map_eq_some_iff.1 hinfo
  simp only [Prod.mk.injEq] at hzz
  obtain ⟨v', w', h1, h2, h3, h4⟩ := run_app (P := P) (w := w) t ty i z bytes E.ht hi hzz.1 hzz.2.1 hzz.2.2 hz S.hd hs (c := c) hb E.pos
  exact ⟨v', w', h1, S.turn (d := row T v' (l ++ r)) h3 h2 (row_blk_turn (l := l) h4 h2), h3⟩
theorem bsP (k v : ByteArray) (w : World) : (Instr.buildSlice 22 1 #[(0, .agg #[.string k, .string v])]).run Tryd.prog w = .ok (.slice (some ⟨w.heap.size, 0, none⟩) 1 1) (w.alloc (.cells #[.string k, .string v] 28)) := by kernel_rfl
theorem bsC (k : ByteArray) (had has : Bool) (o n : ByteArray) (w : World) : (Instr.buildSlice 23 1 #[(0, .agg #[.string k, .bool had, .bool has, .string o, .string n])]).run Tryd.prog w = .ok (.slice (some ⟨w.heap.size, 0, none⟩) 1 1) (w.alloc (.cells #[.string k, .bool had, .bool has, .string o, .string n] 32)) := by kernel_rfl
/-- append inside a fence. -/
theorem appIn_sep {α : Type} {T : Ty α} {F : Fence} {n : Nat} {P : Program} {w0 w : World} {L : List Chunk} {ops : Array Oper} {rest : List Oper} {o : Oper} {a : Act} {Q : Exit → Act → World → Prop} {t : TypeId} {bytes : Nat} (E : Elem P T t bytes) (hgd : o.guard = none) (s x : Operand)
    (ho : o.op = .call { callee := .builtin .append, args := #[s, x], argTypes := #[t, t] })
    (v : Value) (l : List α) (hs : a.eval s = v) (S : Sep w0 w (row T v l :: L)) (b : Option Addr) (m c : Nat) (r : List α) (hx : a.eval x = .slice b m c) (hrd : Rd T w b m r)
    (hbytes : (l.length + m) * bytes ≤ 140737488355328)
    (h : ∀ v' w', Sep w0 w' (row T v' (l ++ r) :: L) → Kp w w' (fun k => v.ownBlock = some k) → wpListIn F n P ops Q rest (a.put o.dst v') w') :
    wpListIn F n P ops Q (o :: rest) a w := by
  refine wpListIn_plain hgd fun K hK' => ?_
  obtain ⟨v', w', hrun, S2, hk⟩ := run_appE (c := c) E o.type S hrd hbytes
  unfold Oper.wpIn
  refine ⟨?_, ?_⟩
  · simp [Oper.about, ho, resolve, Target.leads, Sem.run_pure]
  · rw [Oper.semAt_plain F _ _ (by rw [ho]; intro c hc'; cases hc')]
    simp [execOp, ho, resolve, invoke, builtin, hs, hx, hrun, Result.andThen]
    exact hK' _ _ (h v' w' S2 hk)
/-- What was appended is laid into the box behind the two boxes. -/
theorem out_put {α : Type} {T : Ty α} {w0 w : World} {M : List Chunk} {cA cB : Chunk} {g : Nat} {t : TypeId} {v v2 : Value} {l : List α} (S : Sep w0 w (row T v2 l :: cB :: cA :: blk g t [v] :: M)) :
    Sep w0 (w.setCell ⟨g, 0, none⟩ v2) (row T v2 l :: cB :: cA :: blk g t [v2] :: M) := Sep.down [row T v2 l, cB, cA] (blk_set (Sep.up3 S) 0 v2)
section
variable {α β γ : Type} {T : Ty γ} {l1 : List α} {l2 : List β} {f : Option α → Option β → Option (List γ)} {w W Wa W2 : World} {bA bB g : Nat} {tA tB t : TypeId} {vA vB : List Value} {v v2 : Value} {out : List γ} {M : List Chunk} {pre : List (Side l1 l2)} {x : Side l1 l2}
/-- A round that has laid one more into the box. -/
theorem round_put {y : γ} (B : Nat) (S : Sep w W (row T v out :: blk bB tB vB :: blk bA tA vA :: blk g t [v] :: M)) (hb : Below W.heap.size W Wa) (hk : Kp Wa W2 (fun k => v.ownBlock = some k)) (S2 : Sep w W2 (row T v2 (out ++ [y]) :: blk bB tB vB :: blk bA tA vA :: blk g t [v] :: M))
    (hr : runAll f (pre.map Side.val) = some out) (hp : f x.val.1 x.val.2 = some [y]) :
    KeepsFrom B W (W2.setCell ⟨g, 0, none⟩ v2) ∧ Kq (Kab w bA bB) W (W2.setCell ⟨g, 0, none⟩ v2) ∧
      ∃ v out, runAll f ((pre ++ [x]).map Side.val) = some out ∧ Sep w (W2.setCell ⟨g, 0, none⟩ v2) (row T v out :: blk bB tB vB :: blk bA tA vA :: blk g t [v] :: M) := by
  have S3 := out_put S2
  exact ⟨(((keepsOthers_of_below hb).trans (keepsOthers_app (S.step hb) hk)).trans (KeepsOthers.setCell W2 ⟨g, 0, none⟩ v2)).from B, kq_of_sep S S3 (.tail _ (.tail _ (.head _))) (.tail _ (.head _)) (.tail _ (.tail _ (.head _))) (.tail _ (.head _)),
    _, _, by rw [List.map_append]; exact runAll_snoc hr hp, S3⟩
/-- A round that has laid none. -/
theorem round_skip (B : Nat) (S : Sep w W (row T v out :: blk bB tB vB :: blk bA tA vA :: blk g t [v] :: M)) (hb : Below W.heap.size W Wa) (hr : runAll f (pre.map Side.val) = some out) (hp : f x.val.1 x.val.2 = some []) :
    KeepsFrom B W Wa ∧ Kq (Kab w bA bB) W Wa ∧
      ∃ v out, runAll f ((pre ++ [x]).map Side.val) = some out ∧ Sep w Wa (row T v out :: blk bB tB vB :: blk bA tA vA :: blk g t [v] :: M) := by
  have S3 := S.step hb
  exact ⟨(keepsOthers_of_below hb).from B, kq_of_sep S S3 (.tail _ (.tail _ (.head _))) (.tail _ (.head _)) (.tail _ (.tail _ (.head _))) (.tail _ (.head _)),
    v, out, by rw [List.map_append]; have := runAll_snoc (p := x.val) hr hp; rwa [List.append_nil] at this, S3⟩
/-- A round that leaves by ErrLost: the two stores, in either order. -/
theorem lost_put {c0 c1 c2 c3 : Chunk} {W9 : World} {g4 g5 : Nat} {t4 t5 : TypeId} {u4 u5 : Value} (B : Nat) (S : Sep w W (c0 :: c1 :: c2 :: c3 :: blk g5 t5 [u5] :: blk g4 t4 [u4] :: [])) (hb : Below W.heap.size W W9) (v4 v5 : Value)
    (hr : runAll f (pre.map Side.val) = some out) (hp : f x.val.1 x.val.2 = none) :
    (KeepsFrom B W ((W9.setCell ⟨g4, 0, none⟩ v4).setCell ⟨g5, 0, none⟩ v5).drew ∧ runAll f ((pre ++ [x]).map Side.val) = none ∧ Sep w ((W9.setCell ⟨g4, 0, none⟩ v4).setCell ⟨g5, 0, none⟩ v5).drew [blk g5 t5 [v5], blk g4 t4 [v4]]) ∧
    (KeepsFrom B W ((W9.setCell ⟨g5, 0, none⟩ v5).setCell ⟨g4, 0, none⟩ v4).drew ∧ runAll f ((pre ++ [x]).map Side.val) = none ∧ Sep w ((W9.setCell ⟨g5, 0, none⟩ v5).setCell ⟨g4, 0, none⟩ v4).drew [blk g5 t5 [v5], blk g4 t4 [v4]]) := by
  have S9 := (S.step hb).tl.tl.tl.tl
  have hn : runAll f ((pre ++ [x]).map Side.val) = none := by rw [List.map_append]; exact runAll_fail hr hp
  have hk := keepsOthers_of_below hb
  refine ⟨⟨(((hk.trans (KeepsOthers.setCell _ _ _)).trans (KeepsOthers.setCell _ _ _)).trans (KeepsOthers.drew _)).from B, hn, ?_⟩, ⟨(((hk.trans (KeepsOthers.setCell _ _ _)).trans (KeepsOthers.setCell _ _ _)).trans (KeepsOthers.drew _)).from B, hn, ?_⟩⟩
  · exact (blk_set (Sep.up1 (blk_set (Sep.up1 S9) 0 v4)) 0 v5).drew
  · exact (Sep.up1 (blk_set (Sep.up1 (blk_set S9 0 v5)) 0 v4)).drew
end
/-- Two stores into two boxes, in either order. -/
theorem two_put {w W9 : World} {g4 g5 : Nat} {t4 t5 : TypeId} {u4 u5 : Value} (S : Sep w W9 [blk g5 t5 [u5], blk g4 t4 [u4]]) (v4 v5 : Value) :
    Sep w ((W9.setCell ⟨g4, 0, none⟩ v4).setCell ⟨g5, 0, none⟩ v5) [blk g5 t5 [v5], blk g4 t4 [v4]] ∧ Sep w ((W9.setCell ⟨g5, 0, none⟩ v5).setCell ⟨g4, 0, none⟩ v4) [blk g5 t5 [v5], blk g4 t4 [v4]] :=
  ⟨blk_set (Sep.up1 (blk_set (Sep.up1 S) 0 v4)) 0 v5, Sep.up1 (blk_set (Sep.up1 (blk_set S 0 v5)) 0 v4)⟩
/-- The three ways of a round. -/
theorem Side.ways {α β : Type} {l1 : List α} {l2 : List β} (x : Side l1 l2) : (∃ i y, l1[i]? = some y ∧ x.1 = (some i, none) ∧ x.val = (some y, none)) ∨ (∃ k z, l2[k]? = some z ∧ x.1 = (none, some k) ∧ x.val = (none, some z)) ∨
    (∃ i k y z, l1[i]? = some y ∧ l2[k]? = some z ∧ x.1 = (some i, some k) ∧ x.val = (some y, some z)) := by
  obtain ⟨⟨p, q⟩, h1, h2, h3⟩ := x
  cases p with
  | none =>
    cases q with
    | none => exact absurd ⟨rfl, rfl⟩ h3
    | some k =>
      have hk := h2 k rfl
      exact .inr (.inl ⟨k, l2[k], List.getElem?_eq_getElem hk, rfl, by simp [Side.val, List.getElem?_eq_getElem hk]⟩)
  | some i =>
    have hi := h1 i rfl
    cases q with
    | none => exact .inl ⟨i, l1[i], List.getElem?_eq_getElem hi, rfl, by simp [Side.val, List.getElem?_eq_getElem hi]⟩
    | some k =>
      have hk := h2 k rfl
      exact .inr (.inr ⟨i, k, l1[i], l2[k], List.getElem?_eq_getElem hi, List.getElem?_eq_getElem hk, rfl, by simp [Side.val, List.getElem?_eq_getElem hi, List.getElem?_eq_getElem hk]⟩)
end Go.Proofs.YtdkailccfcijiaaDoor
