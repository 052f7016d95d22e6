/- A faster evaluation: what reads memory, new blocks, effects. -/
import Derived.Test.YtjilfolpkkhfmaaDoorAM22
namespace Go.AM

def runHeapE (E : Env) (σ : Sto) : AOp → Option Value
  | .load x n => (E x).bind (loadV σ n)
  | .lookup ks m k z ok => (E m).bind fun m => (E k).bind fun k => lookupV σ ks z ok m k
  | .lenMap m => (E m).bind fun m => (mapEs σ m).bind fun es => some (goInt es.length)
  | .entry x => (E x).bind (entryV σ)
  | .b2s x => (E x).bind (b2sV σ)
  | _ => none

theorem runHeapE_eq (t : Tr Value) (σ : Sto) (o : AOp) : runHeapE (ev t) σ o = runHeap t σ o := by
  cases o with
  | load x n => simp only [runHeapE, runHeap]; cases ev t x <;> rfl
  | lookup ks m k z ok => simp only [runHeapE, runHeap]; cases ev t m with
    | none => rfl
    | some v => cases ev t k <;> rfl
  | lenMap m => simp only [runHeapE, runHeap]; cases ev t m with
    | none => rfl
    | some v => simp only [Option.bind_some]; cases mapEs σ v <;> rfl
  | entry x => simp only [runHeapE, runHeap]; cases ev t x <;> rfl
  | b2s x => simp only [runHeapE, runHeap]; cases ev t x <;> rfl
  | _ => rfl

theorem runHeapE_mono {E E' : Env} (h : Le E E') {σ : Sto} (o : AOp) {v : Value} (hr : runHeapE E σ o = some v) : runHeapE E' σ o = some v := by
  cases o with
  | load x n => exact bind_mono (h x) (fun u hu => hu) hr
  | lookup ks m k z ok => exact bind_mono (h m) (fun u hu => bind_mono (h k) (fun w hw => hw) hu) hr
  | lenMap m => exact bind_mono (h m) (fun u hu => hu) hr
  | entry x => exact bind_mono (h x) (fun u hu => hu) hr
  | b2s x => exact bind_mono (h x) (fun u hu => hu) hr
  | _ => cases hr

def boxV (v : Value) : AObj × (Nat → Value) := (.cells v.cells.toList.length [] (Tr.ofList v.cells.toList 0 .leaf) .fixed, fun b => .pointer (some ⟨b, 0, none⟩))
def mkLitV (n size : Nat) (z : List Value) (ps : List (Nat × Nat × Value)) : Option (AObj × (Nat → Value)) :=
  (fillA (zeroRow z n) ps).bind fun cs => if cs.length = n * size then some (.cells cs.length [] (Tr.ofList cs 0 .leaf) .fixed, fun b => .slice (some ⟨b, 0, none⟩) n n) else none
def makeSliceV (z : List Value) (bytes : Nat) (l c : Value) : Option (AObj × (Nat → Value)) :=
  (asNat l).bind fun l => (asNat c).bind fun c => if l ≤ c ∧ c * bytes ≤ 2 ^ 48 ∧ c < 2 ^ 63 then some (.cells (c * z.length) z .leaf .fixed, fun b => .slice (some ⟨b, 0, none⟩) l c) else none

def runAllocE (E : Env) : AOp → Option (AObj × (Nat → Value))
  | .alloc z => some (.cells z.length z .leaf .fixed, fun b => .pointer (some ⟨b, 0, none⟩))
  | .box x => (E x).bind fun v => some (boxV v)
  | .mkLit n size z ps => (evPartsE E (ps.map fun (o, x) => (o, size, x))).bind (mkLitV n size z)
  | .makeSlice l c z bytes => (E l).bind fun l => (E c).bind fun c => makeSliceV z bytes l c
  | .makeMap => some (.map [] 0, fun b => .map (some b))
  | _ => none

theorem runAllocE_eq (t : Tr Value) (o : AOp) : runAllocE (ev t) o = runAlloc t o := by
  cases o with
  | mkLit n size z ps => simp only [runAllocE, runAlloc, evPartsE_eq]; rfl
  | _ => rfl

theorem runAllocE_mono {E E' : Env} (h : Le E E') (o : AOp) {v : AObj × (Nat → Value)} (hr : runAllocE E o = some v) : runAllocE E' o = some v := by
  cases o with
  | alloc z => exact hr
  | makeMap => exact hr
  | box x => exact bind_mono (h x) (fun u hu => hu) hr
  | mkLit n size z ps => exact bind_mono (evPartsE_mono h _) (fun u hu => hu) hr
  | makeSlice l c z bytes => exact bind_mono (h l) (fun u hu => bind_mono (h c) (fun w hw => hw) hu) hr
  | _ => cases hr

def runEffE (call : CallF) (E : Env) (σ : Sto) : AOp → Option (Value × Sto)
  | .store a v n => (E a).bind fun a => (E v).bind fun v => storeV σ n a v
  | .mapUpdate ks m k v => (E m).bind fun m => (E k).bind fun k => (E v).bind fun v => mapUpdateV σ ks m k v
  | .mapEntry ks m k z => (E m).bind fun m => (E k).bind fun k => mapEntryV σ ks z m k
  | .entryStore m s v => (E m).bind fun m => (E s).bind fun s => (E v).bind fun v => entryStoreV σ m s v
  | .delete ks m k => (E m).bind fun m => (E k).bind fun k => deleteV σ ks m k
  | .append s x size bytes => (E s).bind fun s => (E x).bind fun x => runAppend σ size bytes s x
  | .copy d s size => (E d).bind fun d => (E s).bind fun s => copyV σ size d s
  | .clear x z => (E x).bind (clearV σ z)
  | .call f args => (evsE E args).bind fun vs => call f vs σ
  | .callV f args => (E f).bind fun f => (evsE E args).bind fun vs => callVV call σ vs f
  | .invoke r tbl args => (E r).bind fun r => (evsE E args).bind fun vs => invokeV call σ tbl vs r
  | .range str x => (E x).bind (rangeV σ str)
  | .nextM x => (E x).bind (nextMV σ)
  | .next x => (E x).bind (nextV σ)
  | .s2b x => (E x).bind (s2bV σ)
  | _ => none

theorem runEffE_eq (call : CallF) (t : Tr Value) (σ : Sto) (o : AOp) : runEffE call (ev t) σ o = runEff call t σ o := by
  cases o with
  | store a v n => simp only [runEffE, runEff]; cases ev t a with
    | none => rfl
    | some u => cases ev t v <;> rfl
  | mapUpdate ks m k v => simp only [runEffE, runEff]; cases ev t m with
    | none => rfl
    | some u => cases ev t k with
      | none => rfl
      | some u => cases ev t v <;> rfl
  | mapEntry ks m k z => simp only [runEffE, runEff]; cases ev t m with
    | none => rfl
    | some u => cases ev t k <;> rfl
  | entryStore m k v => simp only [runEffE, runEff]; cases ev t m with
    | none => rfl
    | some u => cases ev t k with
      | none => rfl
      | some u => cases ev t v <;> rfl
  | delete ks m k => simp only [runEffE, runEff]; cases ev t m with
    | none => rfl
    | some u => cases ev t k <;> rfl
  | append s x a b => simp only [runEffE, runEff]; cases ev t s with
    | none => rfl
    | some u => cases ev t x <;> rfl
  | copy s x a => simp only [runEffE, runEff]; cases ev t s with
    | none => rfl
    | some u => cases ev t x <;> rfl
  | call f args => simp only [runEffE, runEff, evsE_eq]; cases evs t args <;> rfl
  | callV f args => simp only [runEffE, runEff, evsE_eq]; cases ev t f with
    | none => rfl
    | some u => cases evs t args <;> rfl
  | invoke r tbl args => simp only [runEffE, runEff, evsE_eq]; cases ev t r with
    | none => rfl
    | some u => cases evs t args <;> rfl
  | clear x z => simp only [runEffE, runEff]; cases ev t x <;> rfl
  | range s x => simp only [runEffE, runEff]; cases ev t x <;> rfl
  | nextM x => simp only [runEffE, runEff]; cases ev t x <;> rfl
  | next x => simp only [runEffE, runEff]; cases ev t x <;> rfl
  | s2b x => simp only [runEffE, runEff]; cases ev t x <;> rfl
  | _ => rfl

/-- One way of calling comes to no more than another. -/
def LeC (c c' : CallF) : Prop := ∀ f a σ r, c f a σ = some r → c' f a σ = some r

theorem runEffE_mono {call call' : CallF} (hc : LeC call call') {E E' : Env} (h : Le E E') {σ : Sto} (o : AOp) {v : Value × Sto} (hr : runEffE call E σ o = some v) : runEffE call' E' σ o = some v := by
  cases o with
  | store a v n => exact bind_mono (h a) (fun u hu => bind_mono (h v) (fun w hw => hw) hu) hr
  | mapUpdate ks m k v => exact bind_mono (h m) (fun u hu => bind_mono (h k) (fun w hw => bind_mono (h v) (fun w hw => hw) hw) hu) hr
  | mapEntry ks m k z => exact bind_mono (h m) (fun u hu => bind_mono (h k) (fun w hw => hw) hu) hr
  | entryStore m k v => exact bind_mono (h m) (fun u hu => bind_mono (h k) (fun w hw => bind_mono (h v) (fun w hw => hw) hw) hu) hr
  | delete ks m k => exact bind_mono (h m) (fun u hu => bind_mono (h k) (fun w hw => hw) hu) hr
  | append s x a b => exact bind_mono (h s) (fun u hu => bind_mono (h x) (fun w hw => hw) hu) hr
  | copy s x a => exact bind_mono (h s) (fun u hu => bind_mono (h x) (fun w hw => hw) hu) hr
  | clear x z => exact bind_mono (h x) (fun u hu => hu) hr
  | call f args => exact bind_mono (evsE_mono h args) (fun u hu => hc _ _ _ _ hu) hr
  | callV f args =>
    refine bind_mono (h f) (fun u hu => bind_mono (evsE_mono h args) (fun w hw => ?_) hu) hr
    unfold callVV at hw ⊢
    split at hw
    · exact hc _ _ _ _ hw
    · cases hw
  | invoke r tbl args =>
    refine bind_mono (h r) (fun u hu => bind_mono (evsE_mono h args) (fun w hw => ?_) hu) hr
    unfold invokeV at hw ⊢
    split at hw
    · split at hw
      · rename_i hf; exact hc _ _ _ _ hw
      · cases hw
    · cases hw
  | range s x => exact bind_mono (h x) (fun u hu => hu) hr
  | nextM x => exact bind_mono (h x) (fun u hu => hu) hr
  | next x => exact bind_mono (h x) (fun u hu => hu) hr
  | s2b x => exact bind_mono (h x) (fun u hu => hu) hr
  | _ => cases hr

/-- One operation. -/
def runOpE (call : CallF) (E : Env) (σ : Sto) (o : AOp) : Option (Value × Sto) :=
  match o.cls with
  | .pure => (runPureE E o).bind fun v => some (v, σ)
  | .heap => (runHeapE E σ o).bind fun v => some (v, σ)
  | .eff => runEffE call E σ o
  | .alloc => (runAllocE E o).bind fun p => some (p.2 σ.next, { next := σ.next + 1, objs := σ.objs.set σ.next p.1 })

theorem runOpE_eq (call : CallF) (t : Tr Value) (σ : Sto) (o : AOp) : runOpE call (ev t) σ o = runOp call o t σ := by
  unfold runOpE runOp
  cases o.cls with
  | pure => simp only [runPureE_eq]; cases runPure t o <;> rfl
  | heap => simp only [runHeapE_eq]; cases runHeap t σ o <;> rfl
  | eff => simp only [runEffE_eq]
  | alloc => simp only [runAllocE_eq]; cases runAlloc t o <;> rfl

theorem runOpE_mono {call call' : CallF} (hc : LeC call call') {E E' : Env} (h : Le E E') {σ : Sto} (o : AOp) {v : Value × Sto} (hr : runOpE call E σ o = some v) : runOpE call' E' σ o = some v := by
  unfold runOpE at hr ⊢
  cases hcl : o.cls with
  | pure => rw [hcl] at hr; exact bind_mono (fun a => runPureE_mono h o) (fun u hu => hu) hr
  | heap => rw [hcl] at hr; exact bind_mono (fun a => runHeapE_mono h o) (fun u hu => hu) hr
  | eff => rw [hcl] at hr; exact runEffE_mono hc h o hr
  | alloc => rw [hcl] at hr; exact bind_mono (fun a => runAllocE_mono h o) (fun u hu => hu) hr

end Go.AM
