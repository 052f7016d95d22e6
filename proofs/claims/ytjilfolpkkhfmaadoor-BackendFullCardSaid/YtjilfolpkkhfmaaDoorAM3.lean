/- The relation between the interpreter's stores and the model's worlds, and its laws. -/
import Derived.Test.YtjilfolpkkhfmaaDoorAM2
import Derived.Calls
import Derived.Laws.World
import Derived.Laws.Cells
namespace Go.AM

namespace Tr
variable {α : Type}
theorem get_node_zero (v : Option α) (l r : Tr α) : (Tr.node v l r).get 0 = v := rfl
theorem get_updF_same (o : Option α) : ∀ (f : Nat) (t : Tr α) (k : Nat), k < f → (updF o f t k).get k = o := by
  intro f
  induction f with
  | zero => intro t k h; omega
  | succ f ih =>
    intro t k h
    cases t with
    | leaf =>
      cases k with
      | zero => simp [updF, get]
      | succ k =>
        simp only [updF]
        cases hb : Nat.beq (k % 2) 0 <;> simp only [get, hb] <;> exact ih _ _ (by omega)
    | node v l r =>
      cases k with
      | zero => simp [updF, get]
      | succ k =>
        simp only [updF]
        cases hb : Nat.beq (k % 2) 0 <;> simp only [get, hb] <;> exact ih _ _ (by omega)
theorem get_leaf (k : Nat) : (Tr.leaf : Tr α).get k = none := rfl
theorem get_updF_ne (o : Option α) : ∀ (f : Nat) (t : Tr α) (k j : Nat), k ≠ j → (updF o f t k).get j = t.get j := by
  intro f
  induction f with
  | zero => intro t k j h; rfl
  | succ f ih =>
    intro t k j h
    cases t with
    | leaf =>
      cases k with
      | zero => cases j with
        | zero => omega
        | succ j => simp only [updF, get]; cases Nat.beq (j % 2) 0 <;> rfl
      | succ k =>
        simp only [updF]
        cases hb : Nat.beq (k % 2) 0
        · cases j with
          | zero => simp [get]
          | succ j =>
            simp only [get]
            cases hj : Nat.beq (j % 2) 0
            · simp only []
              rw [ih _ _ _ (by intro e; apply h; have h1 : k % 2 ≠ 0 := by intro e'; simp [e'] at hb
                               have h2 : j % 2 ≠ 0 := by intro e'; simp [e'] at hj
                               omega)]
              rfl
            · rfl
        · cases j with
          | zero => simp [get]
          | succ j =>
            simp only [get]
            cases hj : Nat.beq (j % 2) 0
            · rfl
            · simp only []
              rw [ih _ _ _ (by intro e; apply h; have h1 : k % 2 = 0 := Nat.eq_of_beq_eq_true hb
                               have h2 : j % 2 = 0 := Nat.eq_of_beq_eq_true hj
                               omega)]
              rfl
    | node v l r =>
      cases k with
      | zero => cases j with
        | zero => omega
        | succ j => simp only [updF, get]
      | succ k =>
        simp only [updF]
        cases hb : Nat.beq (k % 2) 0
        · cases j with
          | zero => simp [get]
          | succ j =>
            simp only [get]
            cases hj : Nat.beq (j % 2) 0
            · simp only []
              rw [ih _ _ _ (by intro e; apply h; have h1 : k % 2 ≠ 0 := by intro e'; simp [e'] at hb
                               have h2 : j % 2 ≠ 0 := by intro e'; simp [e'] at hj
                               omega)]
            · rfl
        · cases j with
          | zero => simp [get]
          | succ j =>
            simp only [get]
            cases hj : Nat.beq (j % 2) 0
            · rfl
            · simp only []
              rw [ih _ _ _ (by intro e; apply h; have h1 : k % 2 = 0 := Nat.eq_of_beq_eq_true hb
                               have h2 : j % 2 = 0 := Nat.eq_of_beq_eq_true hj
                               omega)]
theorem get_upd (t : Tr α) (k j : Nat) (o : Option α) : (t.upd k o).get j = if k = j then o else t.get j := by
  by_cases h : k = j
  · subst h; rw [if_pos rfl]; exact get_updF_same o _ _ _ (by omega)
  · rw [if_neg h]; exact get_updF_ne o _ _ _ _ h
theorem get_set (t : Tr α) (k j : Nat) (a : α) : (t.set k a).get j = if k = j then some a else t.get j := get_upd t k j _
theorem get_ofList : ∀ (l : List α) (i : Nat) (t : Tr α) (j : Nat), (ofList l i t).get j = if i ≤ j ∧ j < i + l.length then l[j - i]? else t.get j := by
  intro l
  induction l with
  | nil => intro i t j; simp [ofList]; intro h h'; omega
  | cons a l ih =>
    intro i t j
    rw [ofList, ih, get_set]
    by_cases h1 : i + 1 ≤ j ∧ j < i + 1 + l.length
    · rw [if_pos h1, if_pos (by simp; omega)]
      have : j - i = (j - (i + 1)) + 1 := by omega
      rw [this]; simp
    · rw [if_neg h1]
      by_cases h2 : i = j
      · subst h2; simp
      · rw [if_neg h2, if_neg (by simp; omega)]
end Tr

/-- Where a block of the interpreter's lies: the model's block, the cell at which it begins, and how many cells the model's block has. -/
structure Loc where
  blk : Nat
  base : Nat
  tot : Nat

abbrev Ren := Nat → Option Loc

inductive VR (ρ : Ren) : Value → Value → Prop
  | bool (b : Bool) : VR ρ (.bool b) (.bool b)
  | int (k : IntKind) (n : Int) : VR ρ (.int k n) (.int k n)
  | float (k : FloatKind) (b : Nat) : VR ρ (.float k b) (.float k b)
  | complex (k : FloatKind) (a b : Nat) : VR ρ (.complex k a b) (.complex k a b)
  | string (s : ByteArray) : VR ρ (.string s) (.string s)
  | nilptr : VR ρ (.pointer none) (.pointer none)
  | ptr (b o : Nat) (l : Loc) (h : ρ b = some l) : VR ρ (.pointer (some ⟨b, o, none⟩)) (.pointer (some ⟨l.blk, l.base + o, none⟩))
  | nilslice (n c : Nat) : VR ρ (.slice none n c) (.slice none n c)
  | slice (b o n c : Nat) (l : Loc) (h : ρ b = some l) (hc : c < CAPX) : VR ρ (.slice (some ⟨b, o, none⟩) n c) (.slice (some ⟨l.blk, l.base + o, none⟩) n c)
  | sliceX (b o n c s : Nat) (l : Loc) (h : ρ b = some l) (hc : l.base + o + c * s = l.tot) (hn : n ≤ c) :
      VR ρ (.slice (some ⟨b, o, none⟩) n (CAPX + s)) (.slice (some ⟨l.blk, l.base + o, none⟩) n c)
  | nilmap : VR ρ (.map none) (.map none)
  | map (r : Nat) (l : Loc) (h : ρ r = some l) : VR ρ (.map (some r)) (.map (some l.blk))
  | nilFunc : VR ρ .nilFunc .nilFunc
  | func (fn : Fn) (a b a' b' : Array Value) (ha : a.size = a'.size) (hb : b.size = b'.size)
      (h : ∀ i, i < a.size → VR ρ (a.getD i undef) (a'.getD i undef)) (h' : ∀ i, i < b.size → VR ρ (b.getD i undef) (b'.getD i undef)) :
      VR ρ (.func fn a b) (.func fn a' b')
  | nilIface : VR ρ .nilIface .nilIface
  | iface (t : TypeId) (v v' : Value) (h : VR ρ v v') : VR ρ (.iface t v) (.iface t v')
  | agg (a a' : Array Value) (ha : a.size = a'.size) (h : ∀ i, i < a.size → VR ρ (a.getD i undef) (a'.getD i undef)) : VR ρ (.agg a) (.agg a')
  | tuple (a a' : Array Value) (ha : a.size = a'.size) (h : ∀ i, i < a.size → VR ρ (a.getD i undef) (a'.getD i undef)) : VR ρ (.tuple a) (.tuple a')

def Sub (ρ ρ' : Ren) : Prop := ∀ b l, ρ b = some l → ρ' b = some l
theorem Sub.refl (ρ : Ren) : Sub ρ ρ := fun _ _ h => h
theorem Sub.trans {a b c : Ren} (h : Sub a b) (h' : Sub b c) : Sub a c := fun _ _ x => h' _ _ (h _ _ x)

theorem VR.mono {ρ ρ' : Ren} (hs : Sub ρ ρ') {v c : Value} (h : VR ρ v c) : VR ρ' v c := by
  induction h with
  | ptr b o l h => exact .ptr b o l (hs _ _ h)
  | slice b o n c l h hc => exact .slice b o n c l (hs _ _ h) hc
  | sliceX b o n c s l h hc hn => exact .sliceX b o n c s l (hs _ _ h) hc hn
  | map r l h => exact .map r l (hs _ _ h)
  | func fn a b a' b' ha hb h h' ih ih' => exact .func fn a b a' b' ha hb ih ih'
  | iface t v v' h ih => exact .iface t v v' ih
  | agg a a' ha h ih => exact .agg a a' ha ih
  | tuple a a' ha h ih => exact .tuple a a' ha ih
  | _ => constructor

theorem VR.undef {ρ : Ren} : VR ρ undef undef := .tuple #[] #[] rfl (fun i h => by simp at h)

/-- Lists, cell by cell. -/
def VRl (ρ : Ren) (a c : List Value) : Prop := a.length = c.length ∧ ∀ i, i < a.length → VR ρ (a.getD i Go.undef) (c.getD i Go.undef)
theorem VRl.nil {ρ : Ren} : VRl ρ [] [] := ⟨rfl, fun i h => by simp at h⟩
theorem VRl.cons {ρ : Ren} {v c : Value} {a b : List Value} (h : VR ρ v c) (h' : VRl ρ a b) : VRl ρ (v :: a) (c :: b) := by
  refine ⟨by simp [h'.1], fun i hi => ?_⟩
  cases i with
  | zero => simpa using h
  | succ i => simpa using h'.2 i (by simpa using hi)
theorem VRl.cons_inv {ρ : Ren} {v : Value} {a b : List Value} (h : VRl ρ (v :: a) b) : ∃ c b', b = c :: b' ∧ VR ρ v c ∧ VRl ρ a b' := by
  cases b with
  | nil => simp [VRl] at h
  | cons c b =>
    refine ⟨c, b, rfl, by simpa using h.2 0 (by simp), by simpa using h.1, fun i hi => ?_⟩
    simpa using h.2 (i + 1) (by simpa using hi)
theorem VRl.nil_inv {ρ : Ren} {b : List Value} (h : VRl ρ [] b) : b = [] := by
  cases b with
  | nil => rfl
  | cons c b => simp [VRl] at h
theorem VRl.mono {ρ ρ' : Ren} (hs : Sub ρ ρ') {a c : List Value} (h : VRl ρ a c) : VRl ρ' a c := ⟨h.1, fun i hi => (h.2 i hi).mono hs⟩
theorem VRl.append {ρ : Ren} {a b c d : List Value} (h : VRl ρ a c) (h' : VRl ρ b d) : VRl ρ (a ++ b) (c ++ d) := by
  refine ⟨by simp [h.1, h'.1], fun i hi => ?_⟩
  by_cases hl : i < a.length
  · have hl' : i < c.length := by rw [← h.1]; exact hl
    have := h.2 i hl
    simp only [List.getD_eq_getElem?_getD] at this ⊢
    rw [List.getElem?_append_left hl, List.getElem?_append_left hl']; exact this
  · have hl' : ¬ i < c.length := by rw [← h.1]; exact hl
    have := h'.2 (i - a.length) (by simp at hi; omega)
    simp only [List.getD_eq_getElem?_getD] at this ⊢
    rw [List.getElem?_append_right (by omega), List.getElem?_append_right (by omega), ← h.1]; exact this

theorem VR.agg_of {ρ : Ren} {a c : List Value} (h : VRl ρ a c) : VR ρ (.agg a.toArray) (.agg c.toArray) :=
  .agg _ _ (by simpa using h.1) (fun i hi => by simpa [Array.getD_eq_getD_getElem?, List.getD_eq_getElem?_getD] using h.2 i (by simpa using hi))
theorem VR.tuple_of {ρ : Ren} {a c : List Value} (h : VRl ρ a c) : VR ρ (.tuple a.toArray) (.tuple c.toArray) :=
  .tuple _ _ (by simpa using h.1) (fun i hi => by simpa [Array.getD_eq_getD_getElem?, List.getD_eq_getElem?_getD] using h.2 i (by simpa using hi))
theorem VR.agg_inv {ρ : Ren} {a : Array Value} {c : Value} (h : VR ρ (.agg a) c) : ∃ a', c = .agg a' ∧ VRl ρ a.toList a'.toList := by
  cases h with
  | agg _ a' ha h => exact ⟨a', rfl, by simpa using ha, fun i hi => by simpa [Array.getD_eq_getD_getElem?, List.getD_eq_getElem?_getD] using h i (by simpa using hi)⟩
theorem VR.tuple_inv {ρ : Ren} {a : Array Value} {c : Value} (h : VR ρ (.tuple a) c) : ∃ a', c = .tuple a' ∧ VRl ρ a.toList a'.toList := by
  cases h with
  | tuple _ a' ha h => exact ⟨a', rfl, by simpa using ha, fun i hi => by simpa [Array.getD_eq_getD_getElem?, List.getD_eq_getElem?_getD] using h i (by simpa using hi)⟩
theorem VR.cells {ρ : Ren} {v c : Value} (h : VR ρ v c) : VRl ρ v.cells.toList c.cells.toList := by
  cases h with
  | agg a a' ha h => exact (VR.agg_inv (.agg a a' ha h)).elim fun _ x => by obtain ⟨e, y⟩ := x; cases e; exact y
  | _ => exact VRl.cons (by first | (constructor; done) | (constructor <;> assumption)) VRl.nil
theorem VRl.get {ρ : Ren} {a c : List Value} (h : VRl ρ a c) {i : Nat} {v : Value} (hi : a[i]? = some v) : ∃ u, c[i]? = some u ∧ VR ρ v u := by
  have hl : i < a.length := (List.getElem?_eq_some_iff.1 hi).1
  refine ⟨c.getD i Go.undef, ?_, ?_⟩
  · rw [List.getD_eq_getElem?_getD, List.getElem?_eq_getElem (by rw [← h.1]; exact hl)]; rfl
  · have := h.2 i hl
    rw [List.getD_eq_getElem?_getD, hi] at this
    simpa using this

/-- An entry of a map. -/
def ER (ρ : Ren) (e e' : MapEntry) : Prop := VR ρ e.key e'.key ∧ VR ρ e.val e'.val ∧ e.born = e'.born
def ERl (ρ : Ren) (es es' : List MapEntry) : Prop := es.length = es'.length ∧ ∀ (i : Nat) (e : MapEntry), es[i]? = some e → ∃ e' : MapEntry, es'[i]? = some e' ∧ ER ρ e e'

def OR (ρ : Ren) (l : Loc) : AObj → Obj → Prop
  | .cells n z c ext, .cells cs _ fz =>
    cs.size = l.tot ∧ l.base + n ≤ l.tot ∧ (∀ i v, i < n → cellOf z c i = some v → VR ρ v (cs.getD (l.base + i) undef)) ∧
    (ext ≠ .ro → ∀ o, o < l.tot → ¬ (fz.1 ≤ o ∧ o < fz.2)) ∧ (ext = .fixed → l.base + n = l.tot)
  | .map es clock, .map es' clock' => clock = clock' ∧ ERl ρ es es'.toList
  | .siter s pos, .stringIter s' pos' => l.base = 0 ∧ s = s' ∧ pos = pos'
  | .miter m since seen st, .mapIter m' since' seen' st' =>
    l.base = 0 ∧ VR ρ (.map m) (.map m') ∧ since = since' ∧ seen.toArray = seen' ∧ st = st'
  | _, _ => False

theorem OR.mono {ρ ρ' : Ren} (hs : Sub ρ ρ') {l : Loc} {a : AObj} {o : Obj} (h : OR ρ l a o) : OR ρ' l a o := by
  cases a <;> cases o <;> simp only [OR] at h ⊢ <;> try exact h
  · exact ⟨h.1, h.2.1, fun i v hi hv => (h.2.2.1 i v hi hv).mono hs, h.2.2.2⟩
  · exact ⟨h.1, h.2.1, fun i e he => let ⟨e', h1, h2⟩ := h.2.2 i e he; ⟨e', h1, h2.1.mono hs, h2.2.1.mono hs, h2.2.2⟩⟩
  · exact ⟨h.1, h.2.1.mono hs, h.2.2⟩

def AObj.isRo : AObj → Bool
  | .cells _ _ _ .ro => true
  | _ => false

structure Sim (ρ : Ren) (σ : Sto) (w : World) : Prop where
  live : ∀ b o, σ.objs.get b = some o → ∃ l obj, ρ b = some l ∧ w.heap[l.blk]? = some obj ∧ OR ρ l o obj
  inj : ∀ b b' o o' l l', σ.objs.get b = some o → σ.objs.get b' = some o' → ρ b = some l → ρ b' = some l' → l.blk = l'.blk → o.isRo = false → b = b'
  dom : ∀ b l, ρ b = some l → b < σ.next

/-- The model's blocks that may be written. -/
def Foot (ρ : Ren) (σ : Sto) (k : Nat) : Prop := ∃ b o l, σ.objs.get b = some o ∧ ρ b = some l ∧ l.blk = k ∧ o.isRo = false

/-- The model's blocks of the interpreter's objects. -/
def Live (ρ : Ren) (σ : Sto) (k : Nat) : Prop := ∃ b o l, σ.objs.get b = some o ∧ ρ b = some l ∧ l.blk = k

structure Ev (ρ : Ren) (σ : Sto) (w : World) (ρ' : Ren) (σ' : Sto) (w' : World) : Prop where
  sub : Sub ρ ρ'
  os : w'.os = w.os
  tape : w'.tape = w.tape
  output : w'.output = w.output
  size : w.heap.size ≤ w'.heap.size
  pres : ∀ k, k < w.heap.size → ¬ Foot ρ σ k → w'.heap[k]? = w.heap[k]?
  foot : ∀ k, Foot ρ' σ' k → Foot ρ σ k ∨ w.heap.size ≤ k
  next : σ.next ≤ σ'.next
  new : ∀ b l, ρ' b = some l → ρ b = some l ∨ σ.next ≤ b
  all : ∀ k, Live ρ' σ' k → Live ρ σ k ∨ w.heap.size ≤ k

theorem Ev.refl (ρ : Ren) (σ : Sto) (w : World) : Ev ρ σ w ρ σ w := ⟨Sub.refl ρ, rfl, rfl, rfl, Nat.le_refl _, fun _ _ _ => rfl, fun _ h => .inl h, Nat.le_refl _, fun _ _ h => .inl h, fun _ h => .inl h⟩
theorem Ev.trans {ρ ρ' ρ'' : Ren} {σ σ' σ'' : Sto} {w w' w'' : World} (h : Ev ρ σ w ρ' σ' w') (h' : Ev ρ' σ' w' ρ'' σ'' w'') : Ev ρ σ w ρ'' σ'' w'' where
  sub := h.sub.trans h'.sub
  os := h'.os.trans h.os
  tape := h'.tape.trans h.tape
  output := h'.output.trans h.output
  size := Nat.le_trans h.size h'.size
  pres k hk hf := by
    rw [h'.pres k (Nat.lt_of_lt_of_le hk h.size) (fun x => (h.foot k x).elim hf (fun y => by omega)), h.pres k hk hf]
  foot k hf := (h'.foot k hf).elim (fun x => h.foot k x) (fun x => .inr (Nat.le_trans h.size x))
  next := Nat.le_trans h.next h'.next
  new b l hb := (h'.new b l hb).elim (fun x => h.new b l x) (fun x => .inr (Nat.le_trans h.next x))
  all k hf := (h'.all k hf).elim (fun x => h.all k x) (fun x => .inr (Nat.le_trans h.size x))

/-- A draw changes nothing of it. -/
theorem Sim.drew {ρ : Ren} {σ : Sto} {w : World} (h : Sim ρ σ w) : Sim ρ σ w.drew := ⟨h.live, h.inj, h.dom⟩
theorem Ev.drew {ρ ρ' : Ren} {σ σ' : Sto} {w w' : World} (h : Ev ρ σ w ρ' σ' w') : Ev ρ σ w ρ' σ' w'.drew := ⟨h.sub, h.os, h.tape, h.output, h.size, h.pres, h.foot, h.next, h.new, h.all⟩
theorem Ev.drewl {ρ ρ' : Ren} {σ σ' : Sto} {w w' : World} (h : Ev ρ σ w.drew ρ' σ' w') : Ev ρ σ w ρ' σ' w' := ⟨h.sub, h.os, h.tape, h.output, h.size, h.pres, h.foot, h.next, h.new, h.all⟩

/- loads -/
theorem Sim.block {ρ : Ren} {σ : Sto} {w : World} (hs : Sim ρ σ w) {b n : Nat} {z : List Value} {c : Tr Value} {e : Ext} (h : σ.objs.get b = some (.cells n z c e)) {l : Loc} (hl : ρ b = some l) :
    ∃ cs el fz, w.heap[l.blk]? = some (.cells cs el fz) ∧ OR ρ l (.cells n z c e) (.cells cs el fz) := by
  obtain ⟨l', obj, h1, h2, h3⟩ := hs.live b _ h
  obtain rfl : l = l' := Option.some.inj (hl.symm.trans h1)
  cases obj <;> simp only [OR] at h3
  exact ⟨_, _, _, h2, h3⟩

theorem Sim.load {ρ : Ren} {σ : Sto} {w : World} (hs : Sim ρ σ w) {b o : Nat} {v : Value} (h : σ.load b o = some v) {l : Loc} (hl : ρ b = some l) :
    ∃ cv, w.cell? ⟨l.blk, l.base + o, none⟩ = some cv ∧ VR ρ v cv := by
  unfold Sto.load at h
  split at h
  · rename_i n z c e hb
    split at h
    · rename_i hn
      obtain ⟨cs, el, fz, hh, hsz, hbn, hv, _⟩ := hs.block hb hl
      refine ⟨cs.getD (l.base + o) undef, ?_, hv o v hn h⟩
      have : l.base + o < cs.size := by omega
      simp [World.cell?, hh, Array.getD_eq_getD_getElem?, this]
    · cases h
  · cases h

theorem Sim.loads {ρ : Ren} {σ : Sto} {w : World} (hs : Sim ρ σ w) {b : Nat} {l : Loc} (hl : ρ b = some l) :
    ∀ (n o : Nat) (vs : List Value), σ.loads b o n = some vs → ∃ cvs, VRl ρ vs cvs ∧ cvs.length = n ∧ ∀ j v, cvs[j]? = some v → w.cell? ⟨l.blk, l.base + o + j, none⟩ = some v := by
  intro n
  induction n with
  | zero => intro o vs h; simp [Sto.loads] at h; subst h; exact ⟨[], VRl.nil, rfl, fun j v hj => by simp at hj⟩
  | succ n ih =>
    intro o vs h
    simp only [Sto.loads, Option.bind_eq_bind, Option.bind_eq_some_iff, Option.pure_def, Option.some.injEq] at h
    obtain ⟨v, hv, vs', hvs, rfl⟩ := h
    obtain ⟨cv, h1, h2⟩ := hs.load hv hl
    obtain ⟨cvs, h3, h4, h5⟩ := ih (o + 1) vs' hvs
    refine ⟨cv :: cvs, VRl.cons h2 h3, by simp [h4], fun j u hj => ?_⟩
    cases j with
    | zero => simp at hj; subst hj; exact h1
    | succ j => simp at hj; have := h5 j u hj; rw [show l.base + o + (j + 1) = l.base + (o + 1) + j by omega]; exact this

theorem addr_add (k o : Nat) (n : Nat) : (⟨k, o, none⟩ : Addr).add n = ⟨k, o + n, none⟩ := by
  unfold Addr.add; split
  · simp_all
  · rfl

theorem Sim.run_loads {ρ : Ren} {σ : Sto} {w : World} {P : Program} (hs : Sim ρ σ w) {b o n : Nat} {vs : List Value} (h : σ.loads b o n = some vs) {l : Loc} (hl : ρ b = some l) :
    ∃ cvs, VRl ρ vs cvs ∧ (loadCells ⟨l.blk, l.base + o, none⟩ n).run P w = .ok cvs.toArray w := by
  obtain ⟨cvs, h1, h2, h3⟩ := hs.loads hl n o vs h
  refine ⟨cvs, h1, ?_⟩
  have := run_loadCells_list (P := P) (w := w) ⟨l.blk, l.base + o, none⟩ cvs (fun j v hj => by rw [addr_add]; exact h3 j v hj)
  rw [h2] at this; exact this

/- stores -/
theorem isAggV_one {v : Value} (h : Sto.isAggV v = false) : v.oneCell' = true := by cases v <;> simp_all [Sto.isAggV, Value.oneCell']
theorem VR.isAgg {ρ : Ren} {v c : Value} (h : VR ρ v c) : Sto.isAggV c = Sto.isAggV v := by cases h <;> rfl

theorem frozen_false {w : World} {k o : Nat} {cs : Array Value} {el : TypeId} {fz : Nat × Nat} (hh : w.heap[k]? = some (.cells cs el fz)) (hf : ¬ (fz.1 ≤ o ∧ o < fz.2)) : w.frozen? ⟨k, o, none⟩ = false := by
  obtain ⟨a, b⟩ := fz
  simp only [World.frozen?, hh]
  simpa using hf

theorem heap_setCell (w : World) (k o : Nat) (v : Value) (j : Nat) : (w.setCell ⟨k, o, none⟩ v).heap[j]? =
    if k = j then (w.heap[j]?).map (fun | .cells c elem frozen => .cells (c.setIfInBounds o v) elem frozen | x => x) else w.heap[j]? := by
  simp only [World.setCell, Array.getElem?_modify]
  split
  · congr 1
  · rfl

theorem cellOf_set (z : List Value) (c : Tr Value) (o : Nat) (v : Value) (i : Nat) : cellOf z (c.set o v) i = if o = i then some v else cellOf z c i := by
  unfold cellOf; rw [Tr.get_set]; by_cases h : o = i <;> simp [h]

/-- Writing one object of the interpreter's, and its block. -/
theorem Sim.write {ρ : Ren} {σ : Sto} {w w' : World} (hs : Sim ρ σ w) {b : Nat} {o o' : AObj} (hb : σ.objs.get b = some o) (hro : o.isRo = false) (_hro' : o'.isRo = false) {l : Loc} (hl : ρ b = some l) {obj' : Obj}
    (hh : ∀ j, w'.heap[j]? = if l.blk = j then some obj' else w.heap[j]?) (hor : OR ρ l o' obj') (hos : w'.os = w.os) (ht : w'.tape = w.tape) (ho : w'.output = w.output) :
    Sim ρ { σ with objs := σ.objs.set b o' } w' ∧ Ev ρ σ w ρ { σ with objs := σ.objs.set b o' } w' := by
  have hlt : l.blk < w.heap.size := by
    obtain ⟨l', obj, h1, h2, _⟩ := hs.live b o hb
    obtain rfl : l = l' := Option.some.inj (hl.symm.trans h1)
    exact (Array.getElem?_eq_some_iff.1 h2).1
  have hsz : w'.heap.size = w.heap.size := by
    apply Nat.le_antisymm
    · apply Nat.le_of_not_lt; intro hc
      have := hh w.heap.size
      rw [if_neg (by omega)] at this
      simp [hc] at this
    · apply Nat.le_of_not_lt; intro hc
      have := hh w'.heap.size
      by_cases e : l.blk = w'.heap.size
      · rw [if_pos e] at this; simp at this
      · rw [if_neg e] at this; simp [hc] at this
  refine ⟨⟨?_, ?_, hs.dom⟩, ⟨Sub.refl ρ, hos, ht, ho, by omega, ?_, ?_, Nat.le_refl _, fun _ _ h => .inl h, ?_⟩⟩
  · intro b' x hx
    simp only [Tr.get_set] at hx
    by_cases e : b = b'
    · subst e
      rw [if_pos rfl] at hx; cases hx
      exact ⟨l, obj', hl, by rw [hh, if_pos rfl], hor⟩
    · rw [if_neg e] at hx
      obtain ⟨l', obj, h1, h2, h3⟩ := hs.live b' x hx
      refine ⟨l', obj, h1, ?_, h3⟩
      rw [hh, if_neg, h2]
      intro e'
      exact e (hs.inj b b' o x l l' hb hx hl h1 e' hro)
  · intro b1 b2 o1 o2 l1 l2 h1 h2 h3 h4 h5 h6
    simp only [Tr.get_set] at h1 h2
    by_cases e1 : b = b1
    · subst e1
      by_cases e2 : b = b2
      · exact e2
      · rw [if_neg e2] at h2
        exact hs.inj b b2 o o2 l1 l2 hb h2 h3 h4 h5 hro
    · rw [if_neg e1] at h1
      by_cases e2 : b = b2
      · subst e2
        exact hs.inj b1 b o1 o l1 l2 h1 hb h3 h4 h5 h6
      · rw [if_neg e2] at h2
        exact hs.inj b1 b2 o1 o2 l1 l2 h1 h2 h3 h4 h5 h6
  · intro k hk hf
    rw [hh, if_neg]
    intro e
    exact hf ⟨b, o, l, hb, hl, e, hro⟩
  · rintro k ⟨b', o2, l', h1, h2, h3, h4⟩
    simp only [Tr.get_set] at h1
    by_cases e : b = b'
    · subst e
      exact .inl ⟨b, o, l', hb, h2, h3, hro⟩
    · rw [if_neg e] at h1
      exact .inl ⟨b', o2, l', h1, h2, h3, h4⟩
  · rintro k ⟨b', o2, l', h1, h2, h3⟩
    simp only [Tr.get_set] at h1
    by_cases e : b = b'
    · subst e
      exact .inl ⟨b, o, l', hb, h2, h3⟩
    · rw [if_neg e] at h1
      exact .inl ⟨b', o2, l', h1, h2, h3⟩

theorem Sim.store {ρ : Ren} {σ σ' : Sto} {w : World} {P : Program} (hs : Sim ρ σ w) {b o : Nat} {v cv : Value} (h : σ.store b o v = some σ') (hv : VR ρ v cv) {l : Loc} (hl : ρ b = some l) :
    ∃ w', (Go.store ⟨l.blk, l.base + o, none⟩ cv).run P w = .ok () w' ∧ Sim ρ σ' w' ∧ Ev ρ σ w ρ σ' w' := by
  unfold Sto.store at h
  split at h
  · rename_i n z c e hb
    split at h
    · rename_i hc
      simp only [Bool.and_eq_true, decide_eq_true_eq, Bool.not_eq_true', bne_iff_ne, ne_eq] at hc
      obtain ⟨⟨hn, hagg⟩, hro⟩ := hc
      cases h
      obtain ⟨cs, el, fz, hh, hsz, hbn, hcv, hfz, hgr⟩ := hs.block hb hl
      have hlt : l.base + o < cs.size := by omega
      have hcell : w.cell? ⟨l.blk, l.base + o, none⟩ = some (cs[l.base + o]) := by simp [World.cell?, hh, hlt]
      have hagg' : Sto.isAggV cv = false := by rw [hv.isAgg]; exact hagg
      refine ⟨w.setCell ⟨l.blk, l.base + o, none⟩ cv, ?_, ?_⟩
      · rw [run_store P w _ cv _ (isAggV_one hagg'), hcell]
        simp only []
        rw [frozen_false hh (hfz hro _ (by omega))]
        rfl
      · refine hs.write (o' := .cells n z (c.set o v) e) (obj' := .cells (cs.setIfInBounds (l.base + o) cv) el fz) hb (by cases e <;> simp_all [AObj.isRo]) (by cases e <;> simp_all [AObj.isRo]) hl ?_ ?_ rfl rfl rfl
        · intro j
          rw [heap_setCell]
          split
          · rename_i e'; subst e'; rw [hh]; rfl
          · rfl
        · refine ⟨by simp [hsz], hbn, ?_, hfz, hgr⟩
          intro i u hi hu
          rw [cellOf_set] at hu
          by_cases e' : o = i
          · subst e'; rw [if_pos rfl] at hu; cases hu
            simpa [Array.getD_eq_getD_getElem?, Array.getElem?_setIfInBounds, hlt] using hv
          · rw [if_neg e'] at hu
            have := hcv i u hi hu
            rw [Array.getD_eq_getD_getElem?, Array.getElem?_setIfInBounds, if_neg (by omega), ← Array.getD_eq_getD_getElem?]
            exact this
    · cases h
  · cases h

theorem Sim.stores {ρ : Ren} {P : Program} {b : Nat} {l : Loc} (hl : ρ b = some l) : ∀ (vs cvs : List Value) (o i o0 : Nat) (σ σ' : Sto) (w : World), o0 + i = o → Sim ρ σ w → σ.stores b o vs = some σ' → VRl ρ vs cvs →
    ∃ w', (storeCells ⟨l.blk, l.base + o0, none⟩ cvs i).run P w = .ok () w' ∧ Sim ρ σ' w' ∧ Ev ρ σ w ρ σ' w' := by
  intro vs
  induction vs with
  | nil =>
    intro cvs o i o0 σ σ' w ho hs h hv
    obtain rfl := hv.nil_inv
    simp only [Sto.stores, Option.some.injEq] at h; subst h
    exact ⟨w, rfl, hs, Ev.refl _ _ _⟩
  | cons v vs ih =>
    intro cvs o i o0 σ σ' w ho hs h hv
    obtain ⟨cv, cvs', rfl, hv1, hv2⟩ := hv.cons_inv
    simp only [Sto.stores, Option.bind_eq_bind, Option.bind_eq_some_iff] at h
    obtain ⟨σ1, h1, h2⟩ := h
    obtain ⟨w1, hr, hs1, he1⟩ := hs.store (P := P) h1 hv1 hl
    obtain ⟨w2, hr2, hs2, he2⟩ := ih cvs' (o + 1) (i + 1) o0 σ1 σ' w1 (by omega) hs1 h2 hv2
    refine ⟨w2, ?_, hs2, he1.trans he2⟩
    simp only [storeCells, Sem.run_bind, addr_add]
    rw [show l.base + o0 + i = l.base + o by omega, hr]
    exact hr2

/- new blocks -/
def extend (ρ : Ren) (b : Nat) (l : Loc) : Ren := fun x => if x = b then some l else ρ x
theorem extend_self (ρ : Ren) (b : Nat) (l : Loc) : extend ρ b l b = some l := by simp [extend]
theorem Sub.extend {ρ : Ren} {b : Nat} (l : Loc) (h : ρ b = none) : Sub ρ (extend ρ b l) := by
  intro x y hx; unfold AM.extend; split
  · rename_i e; subst e; rw [h] at hx; cases hx
  · exact hx
theorem Sim.fresh {ρ : Ren} {σ : Sto} {w : World} (hs : Sim ρ σ w) {b : Nat} (h : σ.next ≤ b) : ρ b = none := by
  cases e : ρ b with
  | none => rfl
  | some l => have := hs.dom b l e; omega

theorem heap_push (w : World) (o : Obj) (j : Nat) : (w.alloc o).heap[j]? = if w.heap.size = j then some o else w.heap[j]? := by
  show (w.heap.push o)[j]? = _
  rw [Array.getElem?_push]
  split
  · rename_i e; rw [if_pos e.symm]
  · rename_i e; rw [if_neg (fun x => e x.symm)]

/-- A new object, at a number that is not in use, over a block that is new. -/
theorem Sim.make {ρ : Ren} {σ σ' : Sto} {w : World} (hs : Sim ρ σ w) {b : Nat} {o : AObj} {l : Loc} {obj : Obj} (hb : ρ b = none) (_hbl : σ.objs.get b = none)
    (hnb : σ.next ≤ b) (hn : σ.next ≤ σ'.next) (hbn : b < σ'.next) (hobjs : ∀ j, σ'.objs.get j = if b = j then some o else σ.objs.get j) (hblk : l.blk = w.heap.size)
    (hor : OR (extend ρ b l) l o obj) :
    Sim (extend ρ b l) σ' (w.alloc obj) ∧ Ev ρ σ w (extend ρ b l) σ' (w.alloc obj) := by
  have hsub := Sub.extend l hb
  have hin : ∀ k x, w.heap[k]? = some x → k < w.heap.size := fun k x h => (Array.getElem?_eq_some_iff.1 h).1
  refine ⟨⟨?_, ?_, ?_⟩, ⟨hsub, rfl, rfl, rfl, by simp, ?_, ?_, hn, fun j lj h => by
    unfold extend at h
    split at h
    · right; omega
    · exact .inl h, ?_⟩⟩
  · intro b' x hx
    rw [hobjs] at hx
    by_cases e : b = b'
    · subst e; rw [if_pos rfl] at hx; cases hx
      exact ⟨l, obj, extend_self _ _ _, by rw [heap_push, if_pos hblk.symm], hor⟩
    · rw [if_neg e] at hx
      obtain ⟨l', obj', h1, h2, h3⟩ := hs.live b' x hx
      refine ⟨l', obj', hsub _ _ h1, ?_, h3.mono hsub⟩
      rw [heap_push, if_neg, h2]
      have := hin _ _ h2; omega
  · intro b1 b2 o1 o2 l1 l2 h1 h2 h3 h4 h5 h6
    rw [hobjs] at h1 h2
    by_cases e1 : b = b1
    · by_cases e2 : b = b2
      · omega
      · subst e1
        rw [if_neg e2] at h2
        obtain ⟨l', obj', h7, h8, _⟩ := hs.live b2 o2 h2
        rw [extend_self] at h3; cases h3
        obtain rfl : l2 = l' := Option.some.inj (h4.symm.trans (hsub _ _ h7))
        have := hin _ _ h8; omega
    · rw [if_neg e1] at h1
      obtain ⟨l', obj', h7, h8, _⟩ := hs.live b1 o1 h1
      obtain rfl : l1 = l' := Option.some.inj (h3.symm.trans (hsub _ _ h7))
      by_cases e2 : b = b2
      · subst e2
        rw [extend_self] at h4; cases h4
        have := hin _ _ h8; omega
      · rw [if_neg e2] at h2
        obtain ⟨l'', obj'', h9, h10, _⟩ := hs.live b2 o2 h2
        obtain rfl : l2 = l'' := Option.some.inj (h4.symm.trans (hsub _ _ h9))
        exact hs.inj b1 b2 o1 o2 l1 l2 h1 h2 h7 h9 h5 h6
  · intro b' l' h
    unfold extend at h
    split at h
    · omega
    · have := hs.dom _ _ h; omega
  · intro k hk _
    rw [heap_push, if_neg (by omega)]
  · rintro k ⟨b', o', l', h1, h2, h3, h4⟩
    rw [hobjs] at h1
    by_cases e : b = b'
    · subst e; rw [extend_self] at h2; cases h2; right; omega
    · rw [if_neg e] at h1
      obtain ⟨l'', obj'', h9, _, _⟩ := hs.live b' o' h1
      obtain rfl : l' = l'' := Option.some.inj (h2.symm.trans (hsub _ _ h9))
      exact .inl ⟨b', o', l', h1, h9, h3, h4⟩
  · rintro k ⟨b', o', l', h1, h2, h3⟩
    rw [hobjs] at h1
    by_cases e : b = b'
    · subst e; rw [extend_self] at h2; cases h2; right; omega
    · rw [if_neg e] at h1
      obtain ⟨l'', obj'', h9, _, _⟩ := hs.live b' o' h1
      obtain rfl : l' = l'' := Option.some.inj (h2.symm.trans (hsub _ _ h9))
      exact .inl ⟨b', o', l', h1, h9, h3⟩

theorem Sim.gone {ρ : Ren} {σ : Sto} {w : World} (hs : Sim ρ σ w) {b : Nat} (h : σ.next ≤ b) : σ.objs.get b = none := by
  cases e : σ.objs.get b with
  | none => rfl
  | some o => obtain ⟨l, _, h1, _⟩ := hs.live b o e; have := hs.dom b l h1; omega

theorem Sim.new {ρ : Ren} {σ : Sto} {w : World} (hs : Sim ρ σ w) {o : AObj} {obj : Obj} {l : Loc} (hblk : l.blk = w.heap.size) (hor : OR (extend ρ σ.next l) l o obj) :
    Sim (extend ρ σ.next l) { next := σ.next + 1, objs := σ.objs.set σ.next o } (w.alloc obj) ∧ Ev ρ σ w (extend ρ σ.next l) { next := σ.next + 1, objs := σ.objs.set σ.next o } (w.alloc obj) :=
  hs.make (hs.fresh (Nat.le_refl _)) (hs.gone (Nat.le_refl _)) (Nat.le_refl _) (by simp) (by simp) (fun j => by simp only [Tr.get_set]) hblk hor

/- locals -/
def LR (ρ : Ren) (t : Tr Value) (tmps : Array Value) : Prop := ∀ d v, t.get d = some v → VR ρ v (tmps.getD d undef)
theorem LR.mono {ρ ρ' : Ren} (hs : Sub ρ ρ') {t : Tr Value} {tmps : Array Value} (h : LR ρ t tmps) : LR ρ' t tmps := fun d v hd => (h d v hd).mono hs
theorem LR.put {ρ : Ren} {t : Tr Value} {a : Act} (h : LR ρ t a.tmps) {d : Option Nat} {v c : Value} (hv : VR ρ v c) (hd : ∀ s, d = some s → s < a.tmps.size) : LR ρ (put t d v) (a.put d c).tmps := by
  cases d with
  | none => exact h
  | some s =>
    intro d' u hu
    simp only [AM.put, Tr.get_set] at hu
    simp only [Act.put]
    have hs := hd s rfl
    by_cases e : s = d'
    · subst e; rw [if_pos rfl] at hu; cases hu
      simpa [Array.getD_eq_getD_getElem?, Array.getElem?_setIfInBounds, hs] using hv
    · rw [if_neg e] at hu
      rw [Array.getD_eq_getD_getElem?, Array.getElem?_setIfInBounds, if_neg e, ← Array.getD_eq_getD_getElem?]
      exact h d' u hu
theorem put_size (a : Act) (d : Option Nat) (c : Value) : (a.put d c).tmps.size = a.tmps.size := by cases d <;> simp [Act.put]
theorem put_defers (a : Act) (d : Option Nat) (c : Value) : (a.put d c).defers = a.defers := by cases d <;> rfl

end Go.AM
