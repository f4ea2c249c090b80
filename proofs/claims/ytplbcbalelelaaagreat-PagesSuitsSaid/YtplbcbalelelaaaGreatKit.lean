/- Words for memory: what a call may have turned ('Chg'), blocks that are known whole, small laws. No condition. -/
import Derived.Test.YtplbcbalelelaaaGreatProg
import Derived.WalkKit
import Derived.WalkSpells
import Derived.WalkLawsBesides
import Derived.Deep.QuietTactic
import Derived.BigQuiet
import Derived.Outline
import Derived.Lib.Hide
import Derived.StillTailTactics
import Derived.Deep.RegionHeld3
import Derived.Deep.LoopGhost
import Derived.Deep.DeepCutAuto
import Derived.Deep.AppendLies
import Derived.Maps.AppendAt
import Derived.Laws.EntriesVeiled
set_option linter.unusedSimpArgs false
set_option linter.unusedVariables false
namespace Go.Proofs.YtplbcbalelelaaaGreat
open Go.RowKit

/-- Of the blocks that were there, only those in S may have turned; streams and tape are as they were. -/
structure Chg (S : Nat → Prop) (w w' : World) : Prop where
  os : w'.os = w.os
  tape : w'.tape = w.tape
  output : w'.output = w.output
  size : w.heap.size ≤ w'.heap.size
  block : ∀ k, k < w.heap.size → ¬ S k → w'.heap[k]? = w.heap[k]?

def nov : Nat → Prop := fun _ => False

theorem Chg.refl (S : Nat → Prop) (w : World) : Chg S w w := ⟨rfl, rfl, rfl, Nat.le_refl _, fun _ _ _ => rfl⟩
theorem Chg.trans {S : Nat → Prop} {a b c : World} (h : Chg S a b) (k : Chg S b c) : Chg S a c :=
  ⟨k.os.trans h.os, k.tape.trans h.tape, k.output.trans h.output, Nat.le_trans h.size k.size,
   fun i hi hs => (k.block i (Nat.lt_of_lt_of_le hi h.size) hs).trans (h.block i hi hs)⟩
/-- Another set: it need only hold what is old and was in the first. -/
theorem Chg.mono {S T : Nat → Prop} {w w' : World} (h : Chg S w w') (hs : ∀ k, k < w.heap.size → S k → T k) : Chg T w w' :=
  ⟨h.os, h.tape, h.output, h.size, fun k hk ht => h.block k hk fun s => ht (hs k hk s)⟩
/-- A step behind others: what it turns is in S or is new. -/
theorem Chg.step {S T : Nat → Prop} {a b c : World} (h : Chg S a b) (k : Chg T b c) (hs : ∀ k, k < a.heap.size → T k → S k) : Chg S a c :=
  ⟨k.os.trans h.os, k.tape.trans h.tape, k.output.trans h.output, Nat.le_trans h.size k.size,
   fun i hi hn => (k.block i (Nat.lt_of_lt_of_le hi h.size) fun t => hn (hs i hi t)).trans (h.block i hi hn)⟩
theorem Chg.below {S : Nat → Prop} {B : Nat} {w w' : World} (h : Chg S w w') (hB : B ≤ w.heap.size) (hs : ∀ k, k < B → ¬ S k) : Below B w w' :=
  ⟨h.os, h.tape, h.output, h.size, fun k hk => h.block k (Nat.lt_of_lt_of_le hk hB) (hs k hk)⟩
theorem Chg.of_below {S : Nat → Prop} {w w' : World} (h : Below w.heap.size w w') : Chg S w w' :=
  ⟨h.os, h.tape, h.output, h.size, fun k hk _ => h.block k hk⟩
theorem Chg.below0 {w w' : World} (h : Chg nov w w') : Below w.heap.size w w' := h.below (Nat.le_refl _) fun _ _ => id
theorem Chg.of_grown {w w' : World} {row : Option Nat} {S : Nat → Prop} (h : w.grownBy w' row) (hs : ∀ k, row = some k → S k) : Chg S w w' :=
  ⟨h.os, h.tape, h.output, h.size, fun k hk hn => h.block k hk fun e => hn (hs k e.symm)⟩
theorem Chg.drew {S : Nat → Prop} {a w : World} (h : Chg S a w) : Chg S a w.drew := ⟨h.os, h.tape, h.output, h.size, h.block⟩
theorem Chg.drewN {S : Nat → Prop} {a w : World} (h : Chg S a w) (n : Nat) : Chg S a (w.drewN n) := ⟨h.os, h.tape, h.output, h.size, h.block⟩
theorem Chg.drewL {S : Nat → Prop} {a w : World} {n : Nat} (h : Chg S (a.drewN n) w) : Chg S a w := ⟨h.os, h.tape, h.output, h.size, h.block⟩
theorem Chg.drewL1 {S : Nat → Prop} {a w : World} (h : Chg S a.drew w) : Chg S a w := ⟨h.os, h.tape, h.output, h.size, h.block⟩
theorem Chg.alloc {S : Nat → Prop} {a w : World} (h : Chg S a w) (o : Obj) : Chg S a (w.alloc o) :=
  ⟨h.os, h.tape, h.output, Nat.le_trans h.size (by simp), fun k hk hn => (Below.heap_alloc _ _ _ (Nat.lt_of_lt_of_le hk h.size)).trans (h.block k hk hn)⟩
theorem Chg.setCell {S : Nat → Prop} {a w : World} (h : Chg S a w) {p : Addr} (hp : S p.block ∨ a.heap.size ≤ p.block) (u : Value) : Chg S a (w.setCell p u) :=
  ⟨h.os, h.tape, h.output, by simpa [World.setCell] using h.size, fun k hk hn => (Below.heap_setCell _ _ _ _ (by
    rintro rfl
    rcases hp with hp | hp
    · exact hn hp
    · omega)).trans (h.block k hk hn)⟩
theorem Chg.obj {S : Nat → Prop} {w w' : World} {k : Nat} {o : Obj} (h : Chg S w w') (hk : w.heap[k]? = some o) (hn : ¬ S k) : w'.heap[k]? = some o :=
  (h.block k (by
    rcases Nat.lt_or_ge k w.heap.size with hlt | hge
    · exact hlt
    · rw [Array.getElem?_eq_none hge] at hk; cases hk) hn).trans hk
theorem Chg.cell {S : Nat → Prop} {w w' : World} {p : Addr} {v : Value} (h : Chg S w w') (hc : w.cell? p = some v) (hn : ¬ S p.block) : w'.cell? p = some v :=
  (World.cell?_of_block (w := w) (h.block p.block (World.block_lt_of_cell? w p hc) hn)).trans hc

theorem Chg.froz {S : Nat → Prop} {w w' : World} {p : Addr} {v : Value} {b : Bool} (h : Chg S w w') (hc : w.cell? p = some v) (hf : w.frozen? p = b) (hn : ¬ S p.block) : w'.frozen? p = b :=
  (World.frozen?_of_block (w := w) (h.block p.block (World.block_lt_of_cell? w p hc) hn)).trans hf
theorem lt_of_obj {w : World} {k : Nat} {o : Obj} (hk : w.heap[k]? = some o) : k < w.heap.size := by
  rcases Nat.lt_or_ge k w.heap.size with hlt | hge
  · exact hlt
  · rw [Array.getElem?_eq_none hge] at hk; cases hk
theorem cell_of_obj {w : World} {k : Nat} {cs : Array Value} {t : TypeId} {fz : Nat × Nat} (hk : w.heap[k]? = some (.cells cs t fz)) (i : Nat) : w.cell? ⟨k, i, none⟩ = cs[i]? := by
  simp [World.cell?, hk]
theorem frozen_of_obj {w : World} {k : Nat} {cs : Array Value} {t : TypeId} (hk : w.heap[k]? = some (.cells cs t (0, 0))) (i : Nat) : w.frozen? ⟨k, i, none⟩ = false := by
  simp [World.frozen?, hk]
theorem obj_setCell {w : World} {k : Nat} {cs : Array Value} {t : TypeId} {fz : Nat × Nat} (hk : w.heap[k]? = some (.cells cs t fz)) (i : Nat) (u : Value) :
    (w.setCell ⟨k, i, none⟩ u).heap[k]? = some (.cells (cs.setIfInBounds i u) t fz) := by
  simp [World.setCell, Array.getElem?_modify, hk]
theorem obj_setCell_ne {w : World} {k : Nat} {o : Obj} (hk : w.heap[k]? = some o) {p : Addr} (hp : k ≠ p.block) (u : Value) :
    (w.setCell p u).heap[k]? = some o := (Below.heap_setCell w p u k hp).trans hk
theorem obj_alloc {w : World} {k : Nat} {o : Obj} (hk : w.heap[k]? = some o) (o' : Obj) : (w.alloc o').heap[k]? = some o :=
  (Below.heap_alloc w o' k (lt_of_obj hk)).trans hk
theorem obj_new (w : World) (o : Obj) : (w.alloc o).heap[w.heap.size]? = some o := heap_alloc_new w o
theorem obj_new2 {w : World} {n : Nat} (h : n = w.heap.size) (o : Obj) : (w.alloc o).heap[n]? = some o := by subst h; exact obj_new w o
theorem obj_drewN {w : World} {k : Nat} {o : Obj} (hk : w.heap[k]? = some o) (n : Nat) : (w.drewN n).heap[k]? = some o := hk

theorem quiet_add {P : Program} {f : FuncId} {args : Array Value} {w : World} {a n : Nat} {v : Value}
    (h : Calls P f args (w.drewN (a + n)) fun e w' => e = .returned v ∧ ∃ m, w' = (w.drewN (a + n)).drewN m) :
    Calls P f args (w.drewN (a + n)) fun e w'' => e = .returned v ∧ ∃ m, w'' = w.drewN (a + m) :=
  h.mono fun _ _ ⟨he, m, hm⟩ => ⟨he, n + m, by rw [hm, World.drewN_drewN, Nat.add_assoc]⟩
theorem quiet_add_same {P : Program} {f : FuncId} {args : Array Value} {w : World} {a n : Nat} {v : Value}
    (h : Calls P f args (w.drewN (a + n)) fun e w' => e = .returned v ∧ w' = w.drewN (a + n)) :
    Calls P f args (w.drewN (a + n)) fun e w'' => e = .returned v ∧ ∃ m, w'' = w.drewN (a + m) :=
  h.mono fun _ _ ⟨he, hm⟩ => ⟨he, n, hm⟩


/-! A slice that reads as a list. -/
def Rd {α : Type} (enc : α → Value) (w : World) (A : Option Addr) (l : List α) : Prop :=
  ∀ j x, l[j]? = some x → ∃ ad, A = some ad ∧ w.cell? (ad.add j) = some (enc x)
/-- Where it lies: not in S. -/
def Off (S : Nat → Prop) (A : Option Addr) : Prop := ∀ ad, A = some ad → ¬ S ad.block
theorem block_add (a : Addr) (n : Nat) : (a.add n).block = a.block := by unfold Addr.add; split <;> rfl
theorem add_add (a : Addr) (i j : Nat) : (a.add i).add j = a.add (i + j) := by
  unfold Addr.add
  by_cases hi : i = 0 <;> by_cases hj : j = 0 <;> simp [hi, hj, Nat.add_assoc]
section
variable {α : Type} {enc : α → Value} {w w' : World} {A : Option Addr} {l : List α}
theorem Rd.nil : Rd enc w A ([] : List α) := fun j x h => by simp at h
theorem Rd.at_ (h : Rd enc w A l) {k : Nat} (hk : k < l.length) : ∃ ad, A = some ad ∧ w.cell? (ad.add k) = some (enc l[k]) := h k _ (List.getElem?_eq_getElem hk)
theorem Rd.chg {S : Nat → Prop} (h : Rd enc w A l) (hc : Chg S w w') (ho : Off S A) : Rd enc w' A l := fun j x hx => by
  obtain ⟨ad, e, hcell⟩ := h j x hx
  exact ⟨ad, e, hc.cell hcell (by rw [block_add]; exact ho ad e)⟩
theorem Rd.chg0 (h : Rd enc w A l) (hc : Chg nov w w') : Rd enc w' A l := h.chg hc fun _ _ h => h
theorem Off.nov (A : Option Addr) : Off nov A := fun _ _ h => h
/-- Where it lies below a number, and all that may turn lies from there on. -/
theorem Off.lt {S : Nat → Prop} {B : Nat} (h : ∀ ad, A = some ad → ad.block < B) (hs : ∀ k, k < B → ¬ S k) : Off S A := fun ad e => hs _ (h ad e)
/-- The part from k on. -/
theorem Rd.drop {k cap : Nat} (h : Rd enc w A l) (hc : l.length ≤ cap) : Rd enc w (if cap = k then A else A.map (·.add k)) (l.drop k) := fun j x hx => by
  rw [List.getElem?_drop] at hx
  obtain ⟨ad, rfl, hcell⟩ := h (k + j) x hx
  have hlt : k + j < l.length := (List.getElem?_eq_some_iff.1 hx).1
  rw [if_neg (by omega)]
  exact ⟨ad.add k, rfl, by rw [add_add]; exact hcell⟩
theorem Rd.take {k : Nat} (h : Rd enc w A l) : Rd enc w A (l.take k) := fun j x hx => by
  rw [List.getElem?_take] at hx
  split at hx
  · exact h j x hx
  · cases hx
theorem Rd.of_block {g o : Nat} {cs : Array Value} {t : TypeId} {fz : Nat × Nat} (hg : w.heap[g]? = some (.cells cs t fz)) (hcs : ∀ j x, l[j]? = some x → cs[o + j]? = some (enc x)) : Rd enc w (some ⟨g, o, none⟩) l := fun j x hx => by
  refine ⟨_, rfl, ?_⟩
  have : (⟨g, o, none⟩ : Addr).add j = ⟨g, o + j, none⟩ := by
    unfold Addr.add; split
    · next h => subst h; rfl
    · rfl
  rw [this, cell_of_obj hg]
  exact hcs j x hx
theorem Rd.of_own {base e size n : Nat} {c : Nat} (h : w.ownsRow base e 1 (.slice A n c) n (l.map enc)) : Rd enc w A l := fun j x hx => by
  obtain ⟨g, cap, hv, _, hlt⟩ := h.form (by
    have := h.1
    have h2 : j < l.length := (List.getElem?_eq_some_iff.1 hx).1
    simp at this; omega)
  have hA : A = some ⟨g, 0, none⟩ := by injection hv
  subst hA
  exact ⟨_, rfl, h.cells (g := g) rfl j _ (by simp [hx])⟩
end
/-- What the model asks of a type of keys: its '==' is that of the Lean type κ. -/
structure KeyEq {κ : Type} [DecidableEq κ] (P : Program) (kt : TypeId) (enc : κ → Value) : Prop where
  eq : ∀ (w : World) (a b : κ), (Op.equal kt (enc a) (enc b)).run P w = .ok (decide (a = b)) w
  now : ∀ kind, P.underlying kt = some kind → ∀ a b : κ, Instr.sameNow kind (enc a) (enc b) = none ∨ Instr.sameNow kind (enc a) (enc b) = some (decide (a = b))
  check : ∀ (w : World) (em : Bool) (a : κ), (Instr.checkKey em 10000 kt (enc a)).run P w = .ok () w
  same : ∀ a, Instr.sameBits 10000 (enc a) (enc a) = true
  inj : ∀ a b, enc a = enc b → a = b
  und : ∃ d, P.underlying kt = some d

def look {κ : Type} [DecidableEq κ] : List (κ × Value) → κ → Option Value
  | [], _ => none
  | (a, v) :: m, k => if k = a then some v else look m k
/-- Block b is a map that reads as f. -/
def MapFn {κ : Type} [DecidableEq κ] (w : World) (b : Nat) (enc : κ → Value) (f : κ → Option Value) : Prop :=
  ∃ es clock, w.heap[b]? = some (.map es clock) ∧ ∃ m : List (κ × Value), es.toList.map (fun e => (e.key, e.val)) = m.map (fun x => (enc x.1, x.2)) ∧ ∀ k, look m k = f k

section
variable {κ : Type} [DecidableEq κ] {P : Program} {kt : TypeId} {enc : κ → Value}
/-- Where a key stands. -/
def at_ : List (κ × Value) → κ → Nat → Option (Nat × Value)
  | [], _, _ => none
  | (a, v) :: m, k, i => if k = a then some (i, v) else at_ m k (i + 1)
theorem at_look : ∀ (m : List (κ × Value)) (k : κ) (i : Nat), (at_ m k i).map (·.2) = look m k
  | [], _, _ => rfl
  | (a, v) :: m, k, i => by
    unfold at_ look
    split
    · rfl
    · exact at_look m k (i + 1)
theorem findAsking_run (K : KeyEq P kt enc) (w : World) (k : κ) : ∀ (es : List MapEntry) (m : List (κ × Value)) (i : Nat),
    es.map (fun e => (e.key, e.val)) = m.map (fun x => (enc x.1, x.2)) → (Instr.findAsking kt (enc k) es i).run P w = .ok (at_ m k i) w
  | [], m, i, h => by
    cases m with
    | nil => rfl
    | cons x m => simp at h
  | e :: es, m, i, h => by
    cases m with
    | nil => simp at h
    | cons x m =>
      simp only [List.map_cons, List.cons.injEq, Prod.mk.injEq] at h
      obtain ⟨⟨h1, h2⟩, h3⟩ := h
      simp only [Instr.findAsking, Sem.run_bind, h1, K.eq, Result.andThen_ok, at_]
      by_cases hk : k = x.1
      · simp [hk, h2]
      · simp only [hk, decide_false, Bool.false_eq_true, if_false]
        exact findAsking_run K w k es m (i + 1) h3
theorem findNow_run (K : KeyEq P kt enc) {kind : TypeDesc} (hd : P.underlying kt = some kind) (k : κ) : ∀ (es : List MapEntry) (m : List (κ × Value)) (i : Nat),
    es.map (fun e => (e.key, e.val)) = m.map (fun x => (enc x.1, x.2)) → Instr.findNow kind (enc k) es i = none ∨ Instr.findNow kind (enc k) es i = some (at_ m k i)
  | [], m, i, h => by
    cases m with
    | nil => exact .inr rfl
    | cons x m => simp at h
  | e :: es, m, i, h => by
    cases m with
    | nil => simp at h
    | cons x m =>
      simp only [List.map_cons, List.cons.injEq, Prod.mk.injEq] at h
      obtain ⟨⟨h1, h2⟩, h3⟩ := h
      simp only [Instr.findNow, h1, at_]
      rcases K.now kind hd k x.1 with hn | hn
      · rw [hn]; exact .inl rfl
      · rw [hn]
        by_cases hk : k = x.1
        · right; simp [hk, h2]
        · simp only [hk, decide_false, if_false]
          exact findNow_run K hd k es m (i + 1) h3
theorem findKey_run (K : KeyEq P kt enc) (w : World) (k : κ) (es : List MapEntry) (m : List (κ × Value))
    (h : es.map (fun e => (e.key, e.val)) = m.map (fun x => (enc x.1, x.2))) : (Instr.findKey kt (enc k) es).run P w = .ok (at_ m k 0) w := by
  obtain ⟨d, hd⟩ := K.und
  simp only [Instr.findKey, Sem.run_bind, run_underlying hd, Result.andThen_ok]
  rcases findNow_run K hd k es m 0 h with hn | hn
  · rw [hn]; exact findAsking_run K w k es m 0 h
  · rw [hn]; rfl
theorem run_getObj_map {w : World} {b : Nat} {es : Array MapEntry} {clock : Nat} (hb : w.heap[b]? = some (.map es clock)) : (getObj b).run P w = .ok (.map es clock) w := by
  simp [getObj, Sem.run, hb]
theorem run_lookup_fn (K : KeyEq P kt enc) {xt e : TypeId} (ht : P.underlying xt = some (.map kt e)) {w : World} {b : Nat} {f : κ → Option Value} (hm : MapFn w b enc f)
    {z : Value} (hz : (zeroValue e).run P w = .ok z w) (k : κ) (ok : Bool) :
    (Instr.lookup xt (.map (some b)) (enc k) ok).run P w = .ok (if ok then .tuple #[(f k).getD z, .bool (f k).isSome] else (f k).getD z) w := by
  obtain ⟨es, clock, hb, m, hm, hf⟩ := hm
  simp only [Instr.lookup, Sem.run_bind, run_underlying ht, Result.andThen_ok, run_getObj_map hb, Sem.run_pure, K.check, findKey_run K w k es.toList m hm]
  rw [← hf k, ← at_look m k 0]
  cases at_ m k 0 with
  | none => simp only [Sem.run_bind, hz, Result.andThen_ok, Option.map_none, Option.getD_none, Option.isSome_none, Sem.run_pure]
  | some x => obtain ⟨i, v⟩ := x; simp only [Option.map_some, Option.getD_some, Option.isSome_some, Sem.run_bind, Sem.run_pure, Result.andThen_ok]
theorem run_lookup_nil (K : KeyEq P kt enc) {xt e : TypeId} (ht : P.underlying xt = some (.map kt e)) {w : World} {z : Value} (hz : (zeroValue e).run P w = .ok z w) (k : κ) (ok : Bool) :
    (Instr.lookup xt (.map none) (enc k) ok).run P w = .ok (if ok then .tuple #[z, .bool false] else z) w := by
  simp only [Instr.lookup, Sem.run_bind, run_underlying ht, Result.andThen_ok, Sem.run_pure, K.check]
  have := findKey_run K w k [] [] rfl
  simp only [at_] at this
  simp only [this, Result.andThen_ok, Sem.run_bind, hz, Sem.run_pure]

theorem at_none : ∀ (m : List (κ × Value)) (k : κ) (i : Nat), at_ m k i = none → ∀ v k', look (m ++ [(k, v)]) k' = if k' = k then some v else look m k'
  | [], k, i, _, v, k' => by simp [look]
  | (a, u) :: m, k, i, h, v, k' => by
    unfold at_ at h
    split at h
    · cases h
    · rename_i hne
      simp only [List.cons_append, look]
      rw [at_none m k (i + 1) h v k']
      by_cases h1 : k' = a
      · subst h1; rw [if_pos rfl, if_neg (fun e => hne e.symm)]; simp
      · simp [h1]
theorem at_some : ∀ (m : List (κ × Value)) (k : κ) (i j : Nat) (u : Value), at_ m k i = some (j, u) →
    i ≤ j ∧ j - i < m.length ∧ (∃ v', m[j - i]? = some (k, v')) ∧ ∀ v k', look (m.modify (j - i) fun x => (x.1, v)) k' = if k' = k then some v else look m k'
  | [], k, i, j, u, h => by cases h
  | (a, v0) :: m, k, i, j, u, h => by
    unfold at_ at h
    split at h
    · rename_i he
      simp only [Option.some.injEq, Prod.mk.injEq] at h
      obtain ⟨rfl, rfl⟩ := h
      subst he
      refine ⟨Nat.le_refl _, by simp, ⟨v0, by simp⟩, fun v k' => ?_⟩
      simp only [Nat.sub_self, List.modify_zero_cons, look]
      by_cases h1 : k' = k <;> simp [h1]
    · rename_i hne
      obtain ⟨h1, h2, h3, h4⟩ := at_some m k (i + 1) j u h
      have hj : j - i = (j - (i + 1)) + 1 := by omega
      refine ⟨by omega, by simp; omega, by rw [hj]; simpa using h3, fun v k' => ?_⟩
      rw [hj]
      simp only [List.modify_succ_cons, look]
      rw [h4 v k']
      by_cases h5 : k' = a
      · subst h5; rw [if_pos rfl, if_neg (fun e => hne e.symm)]; simp
      · simp [h5]
theorem run_update_fn (K : KeyEq P kt enc) {xt e : TypeId} (ht : P.underlying xt = some (.map kt e)) {w : World} {b : Nat} {f : κ → Option Value} (hm : MapFn w b enc f) (k : κ) (v : Value) :
    ∃ o, (Instr.mapUpdate xt (.map (some b)) (enc k) v).run P w = .ok () { w with heap := w.heap.setIfInBounds b o } ∧
      MapFn { w with heap := w.heap.setIfInBounds b o } b enc (fun k' => if k' = k then some v else f k') := by
  obtain ⟨es, clock, hb, m, hm, hf⟩ := hm
  have hlt := lt_of_obj hb
  have hset : ∀ o w', (setObj b o).run P w = .ok () w' ↔ w' = { w with heap := w.heap.setIfInBounds b o } := by
    intro o w'
    simp only [setObj, Sem.run, hb]
    constructor
    · intro h; injection h with _ h; exact h.symm
    · rintro rfl; rfl
  simp only [Instr.mapUpdate, Sem.run_bind, run_underlying ht, Result.andThen_ok, run_getObj_map hb, Sem.run_pure, K.check, findKey_run K w k es.toList m hm]
  cases hat : at_ m k 0 with
  | none =>
    refine ⟨.map (es.push { key := enc k, val := v, born := clock }) (clock + 1), (hset _ _).2 rfl, es.push { key := enc k, val := v, born := clock }, clock + 1, by simp [hlt], m ++ [(k, v)], by simp [hm], fun k' => ?_⟩
    rw [at_none m k 0 hat v k', hf]
  | some x =>
    obtain ⟨j, u⟩ := x
    obtain ⟨-, h2, ⟨v', h3⟩, h4⟩ := at_some m k 0 j u hat
    simp only [Nat.sub_zero] at h2 h3 h4
    have hes : (es.toList.map (fun e => (e.key, e.val)))[j]? = some (enc k, v') := by rw [hm]; simp [h3]
    have hkey : ((es[j]?).map (·.key)).getD (enc k) = enc k := by
      rw [List.getElem?_map] at hes
      rw [← Array.getElem?_toList]
      cases hh : es.toList[j]? with
      | none => rfl
      | some e0 => rw [hh] at hes; simp at hes; simp [hes.1]
    refine ⟨.map (es.modify j fun e => { e with key := enc k, val := v }) clock, ?_, es.modify j (fun e => { e with key := enc k, val := v }), clock, by simp [hlt], m.modify j (fun x => (x.1, v)), ?_, fun k' => ?_⟩
    · simp only [hkey, Instr.keyThatStays, K.same, if_true, Sem.run_pure, Result.andThen_ok, Sem.run_bind]
      exact (hset _ _).2 rfl
    · rw [Array.toList_modify]
      apply List.ext_getElem?
      intro i
      have hi := congrArg (·[i]?) hm
      simp only [List.getElem?_map, List.getElem?_modify] at hi ⊢
      by_cases hij : j = i
      · subst hij
        simp only [if_true, h3] at hi ⊢
        cases hh : es.toList[j]? with
        | none => rw [hh] at hi; simp at hi
        | some e0 => simp
      · simp only [hij, if_false] at hi ⊢
        simpa using hi
    · rw [h4 v k', hf]
theorem MapFn.new (w : World) (enc : κ → Value) : MapFn (w.alloc (.map #[] 0)) w.heap.size enc (fun _ => none) :=
  ⟨#[], 0, obj_new w _, [], rfl, fun _ => rfl⟩
theorem MapFn.chg {S : Nat → Prop} {w w' : World} {b : Nat} {f : κ → Option Value} (h : MapFn w b enc f) (hc : Chg S w w') (hs : ¬ S b) : MapFn w' b enc f := by
  obtain ⟨es, clock, hb, r⟩ := h
  exact ⟨es, clock, hc.obj hb hs, r⟩
theorem MapFn.lt {w : World} {b : Nat} {f : κ → Option Value} (h : MapFn w b enc f) : b < w.heap.size := by
  obtain ⟨es, clock, hb, r⟩ := h
  exact lt_of_obj hb
theorem MapFn.ne {w : World} {b k : Nat} {f : κ → Option Value} (h : MapFn w b enc f) {cs : Array Value} {t : TypeId} {fz : Nat × Nat} (hk : w.heap[k]? = some (.cells cs t fz)) : b ≠ k := by
  obtain ⟨es, clock, hb, r⟩ := h
  rintro rfl
  rw [hb] at hk; cases hk
theorem Chg.setObj {S : Nat → Prop} {a w : World} (h : Chg S a w) {b : Nat} (hp : S b ∨ a.heap.size ≤ b) (o : Obj) : Chg S a { w with heap := w.heap.setIfInBounds b o } :=
  ⟨h.os, h.tape, h.output, by simpa using h.size, fun k hk hn => by
    have : b ≠ k := by
      rintro rfl
      rcases hp with hp | hp
      · exact hn hp
      · omega
    simp only [Array.getElem?_setIfInBounds, this, if_false]
    exact h.block k hk hn⟩
end
/-- A call of function g enters it. -/
def Ent (g : FuncId) : Prop := ∀ (args : Array Value) (w : World), (callFunc g args).run Tryz.prog w = .ok (.enter g args) w
theorem ent_of {g : FuncId} {fn : Func} {c : Code} (hf : Tryz.prog.funcs[g]? = some fn) (hname : (fn.name == "runtime.NumGoroutine") = false) (hb : fn.body = some c) : Ent g := fun args w => by
  simp only [callFunc, program, Sem.run_bind, Sem.run]
  have hn' : ¬ fn.name = "runtime.NumGoroutine" := by simpa using hname
  simp [hf, hn', hb]
def bv (c : UInt8) : Value := .int .u8 c.toNat
def nv (n : Nat) : Value := .int .i64 n
def intV (n : Int) : Value := .int .i64 n
theorem keyEq_int {P : Program} {kt : TypeId} {q : IntKind} (hk : P.underlying kt = some (.int q)) : KeyEq P kt intV where
  eq w a b := by
    have h : ∀ d, (Op.equalIn (d + 1) kt (intV a) (intV b)).run P w = .ok (decide (a = b)) w := fun d => by
      simp [Op.equalIn, intV, run_underlying hk, Sem.run_bind, Sem.run_pure]
      rfl
    exact h 9999
  now kind hd a b := by
    rw [hk] at hd; cases hd
    right; simp [Instr.sameNow, intV]; rfl
  check w em a := by
    have h : ∀ d, (Instr.checkKey em (d + 1) kt (intV a)).run P w = .ok () w := fun d => by
      simp [Instr.checkKey, intV, run_underlying hk, Sem.run_bind, Sem.run_pure]
    exact h 9999
  same a := by
    have h : ∀ d, Instr.sameBits (d + 1) (intV a) (intV a) = true := fun d => by simp [Instr.sameBits, intV]
    exact h 9999
  inj a b h := by simpa [intV] using h
  und := ⟨_, hk⟩
theorem look_append {κ : Type} [DecidableEq κ] : ∀ (m : List (κ × Value)) (k : κ) (v : Value), (∀ x ∈ m, x.1 ≠ k) → ∀ k', (if k' = k then some v else look m k') = look (m ++ [(k, v)]) k'
  | [], k, v, _, k' => rfl
  | (a, u) :: m, k, v, h, k' => by
    have h1 := look_append m k v (fun x hx => h x (List.mem_cons_of_mem _ hx)) k'
    have h2 := h (a, u) (List.mem_cons_self ..)
    simp only [List.cons_append, look, ← h1]
    by_cases h3 : k' = a
    · subst h3
      rw [if_neg h2]; simp
    · simp [h3]
/-- An entry of a literal map, or a store into a map of the call's own. -/
theorem wpList_put {κ : Type} [DecidableEq κ] {P : Program} {kt : TypeId} {enc : κ → Value} {w : World} {ops : Array Oper} {rest : List Oper} {o : Oper} {a : Act} {Q : Exit → Act → World → Prop}
    (hg : o.guard = none) (t : TypeId) (m k x : Operand) (ho : o.op = .insert t m k x ∨ o.op = .mapUpdate t m k x)
    (K : KeyEq P kt enc) {e : TypeId} (ht : P.underlying t = some (.map kt e)) (b : Nat) (f : κ → Option Value) (hm : MapFn w b enc f) (hb : a.eval m = .map (some b)) (key : κ) (hk : a.eval k = enc key)
    (h : ∀ w', MapFn w' b enc (fun k' => if k' = key then some (a.eval x) else f k') → Chg (· = b) w w' → wpList P ops Q rest (a.put o.dst undef) w') : wpList P ops Q (o :: rest) a w := by
  refine wpList_plain hg fun K' hK => ?_
  obtain ⟨o', hrun, hm'⟩ := run_update_fn K ht hm key (a.eval x)
  have hc : Chg (· = b) w { w with heap := w.heap.setIfInBounds b o' } := Chg.setObj (S := (· = b)) (Chg.refl _ _) (.inl rfl) _
  rcases ho with ho | ho <;>
  · unfold Oper.wp execOp
    simp only [ho, Sem.run_bind, hb, hk, hrun, Result.andThen_ok, Sem.run_pure, Oper.upon_skip]
    exact hK _ _ (h _ hm' hc)
end Go.Proofs.YtplbcbalelelaaaGreat
