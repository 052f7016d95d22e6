/- A faster evaluation, by an environment that is a function of operands: the operations. -/
import Derived.Test.YtjilfolpkkhfmaaDoorAM20
namespace Go.AM

abbrev Env := Operand → Option Value

def evsE (E : Env) : List Operand → Option (List Value)
  | [] => some []
  | x :: l => (E x).bind fun v => (evsE E l).bind fun vs => some (v :: vs)

def evOE (E : Env) : Option Operand → Option (Option Value)
  | none => some none
  | some x => (E x).bind fun v => some (some v)

def evPartsE (E : Env) : List (Nat × Nat × Operand) → Option (List (Nat × Nat × Value))
  | [] => some []
  | (o, s, x) :: l => (E x).bind fun v => (evPartsE E l).bind fun r => some ((o, s, v) :: r)

theorem evsE_eq (t : Tr Value) : ∀ l, evsE (ev t) l = evs t l := by
  intro l
  induction l with
  | nil => rfl
  | cons x l ih => simp only [evsE, evs, ih]; rfl
theorem evOE_eq (t : Tr Value) (o : Option Operand) : evOE (ev t) o = evO t o := by cases o <;> rfl
theorem evPartsE_eq (t : Tr Value) : ∀ l, evPartsE (ev t) l = evParts t l := by
  intro l
  induction l with
  | nil => rfl
  | cons x l ih => obtain ⟨o, s, x⟩ := x; simp only [evPartsE, evParts, ih]; rfl

/-- One environment tells no more than another. -/
def Le (E E' : Env) : Prop := ∀ x v, E x = some v → E' x = some v

theorem bind_mono {α β : Type} {o o' : Option α} {k k' : α → Option β} {v : β} (ho : ∀ a, o = some a → o' = some a) (hk : ∀ a, k a = some v → k' a = some v) (h : o.bind k = some v) : o'.bind k' = some v := by
  cases o with
  | none => cases h
  | some a => rw [ho a rfl]; exact hk a h

theorem evsE_mono {E E' : Env} (h : Le E E') : ∀ (l : List Operand) (vs : List Value), evsE E l = some vs → evsE E' l = some vs := by
  intro l
  induction l with
  | nil => intro vs hv; exact hv
  | cons x l ih => intro vs hv; exact bind_mono (h x) (fun a ha => bind_mono (fun b hb => ih b hb) (fun b hb => hb) ha) hv
theorem evOE_mono {E E' : Env} (h : Le E E') (o : Option Operand) (v : Option Value) (hv : evOE E o = some v) : evOE E' o = some v := by
  cases o with
  | none => exact hv
  | some x => exact bind_mono (h x) (fun a ha => ha) hv
theorem evPartsE_mono {E E' : Env} (h : Le E E') : ∀ (l : List (Nat × Nat × Operand)) (vs : List (Nat × Nat × Value)), evPartsE E l = some vs → evPartsE E' l = some vs := by
  intro l
  induction l with
  | nil => intro vs hv; exact hv
  | cons x l ih => obtain ⟨o, s, x⟩ := x; intro vs hv; exact bind_mono (h x) (fun a ha => bind_mono (fun b hb => ih b hb) (fun b hb => hb) ha) hv

def pickE (E : Env) (a b : Operand) : Value → Option Value
  | .bool true => E a
  | .bool false => E b
  | _ => none
def nilV : Value → Option Value
  | .pointer (some a) => some (.pointer (some a))
  | .func (.func f) a b => some (.func (.func f) a b)
  | .iface t v => some (.iface t v)
  | _ => none
def eqFlatV (neg : Bool) (ks : List LK) : Value → Value → Option Value
  | .agg xs, .agg ys => (eqLKs ks xs.toList ys.toList).bind fun r => some (.bool (if neg then !r else r))
  | _, _ => none
def convV (k : IntKind) : Value → Option Value
  | .int _ n => some (.int k (k.wrap n))
  | _ => none
def convStrV : Value → Option Value
  | .string s => some (.string s)
  | _ => none
def i2sV : Value → Option Value
  | .int _ n => some (.string (Utf8.encode n))
  | _ => none
def ixAV (len size : Nat) (v i : Value) : Option Value := (ixv i len).bind fun k => addOff (k * size) v
def ixSV (size : Nat) : Value → Value → Option Value
  | .slice (some a) len _, i => (ixv i len).bind fun k => addOff (k * size) (.pointer (some a))
  | _, _ => none
def ixVV (len size : Nat) (n : Option Nat) (v i : Value) : Option Value := (ixv i len).bind fun k => fieldV (k * size) n v
def ixStrV : Value → Value → Option Value
  | .string s, i => (ixv i s.size).bind fun k => (s.data[k]?).bind fun b => some (.int .u8 b.toNat)
  | _, _ => none
def slSV (size : Nat) (lo hi mx : Option Value) : Value → Option Value
  | .slice a len cap => if cap < CAPX then slK a len cap lo hi mx size else if cap = CAPX + size then slX a len lo hi mx size else none
  | _ => none
def slAV (len size : Nat) (lo hi mx : Option Value) : Value → Option Value
  | .pointer (some a) => if len < CAPX then slK (some a) len len lo hi mx size else none
  | _ => none
def slStrV (lo hi : Option Value) : Value → Option Value
  | .string s => match bnds s.size s.size lo hi none with
    | some (l, h, _) => some (.string (s.extract l h))
    | none => none
  | _ => none
def extractV (i : Nat) : Value → Option Value
  | .tuple vs => vs[i]?
  | _ => none
def lenVV (str : Bool) : Value → Option Value
  | .string s => if str then some (goInt s.size) else none
  | .slice _ n _ => if str then none else some (goInt n)
  | _ => none
def minmaxVV (isMax : Bool) : List Value → Option Value
  | .int k n :: l => minmaxV isMax (.int k n) l
  | _ => none

/-- What only computes. -/
def runPureE (E : Env) : AOp → Option Value
  | .mv x => E x
  | .pick c a b => (E c).bind (pickE E a b)
  | .nilCheck x => (E x).bind nilV
  | .build z ps => (evPartsE E ps).bind fun ps => (fillA z ps).bind fun cs => some (.agg cs.toArray)
  | .bin op x y => (E x).bind fun a => (E y).bind fun b => binV op a b
  | .eqFlat neg ks x y => (E x).bind fun a => (E y).bind fun b => eqFlatV neg ks a b
  | .eqv k neg x y => (E x).bind fun a => (E y).bind fun b => eqvO k neg (isConst x || isConst y) a b
  | .un op x => (E x).bind (unV op)
  | .conv k x => (E x).bind (convV k)
  | .convStr x => (E x).bind convStrV
  | .i2s x => (E x).bind i2sV
  | .mkIface ty x => (E x).bind fun v => some (.iface ty v)
  | .mkFunc fn a b => (evsE E a).bind fun a => (evsE E b).bind fun b => some (.func fn a.toArray b.toArray)
  | .addOff x off => (E x).bind (addOff off)
  | .field x off n => (E x).bind (fieldV off n)
  | .ixA x i len size => (E x).bind fun v => (E i).bind fun i => ixAV len size v i
  | .ixS x i size => (E x).bind fun v => (E i).bind fun i => ixSV size v i
  | .ixV x i len size n => (E x).bind fun v => (E i).bind fun i => ixVV len size n v i
  | .ixStr x i => (E x).bind fun v => (E i).bind fun i => ixStrV v i
  | .slS x lo hi mx size => (E x).bind fun v => (evOE E lo).bind fun lo => (evOE E hi).bind fun hi => (evOE E mx).bind fun mx => slSV size lo hi mx v
  | .slA x lo hi mx len size => (E x).bind fun v => (evOE E lo).bind fun lo => (evOE E hi).bind fun hi => (evOE E mx).bind fun mx => slAV len size lo hi mx v
  | .slStr x lo hi => (E x).bind fun v => (evOE E lo).bind fun lo => (evOE E hi).bind fun hi => slStrV lo hi v
  | .extract x i => (E x).bind (extractV i)
  | .len str x => (E x).bind (lenVV str)
  | .lenC n => some (goInt n)
  | .minmax isMax xs => (evsE E xs).bind (minmaxVV isMax)
  | _ => none

theorem runPureE_eq (t : Tr Value) (o : AOp) : runPureE (ev t) o = runPure t o := by
  cases o with
  | pick c a b => simp only [runPureE, runPure]; cases ev t c with
    | none => rfl
    | some v => cases v with
      | bool c => cases c <;> rfl
      | _ => rfl
  | nilCheck x => simp only [runPureE, runPure]; cases ev t x with
    | none => rfl
    | some v => cases v with
      | pointer a => cases a <;> rfl
      | func f a b => cases f <;> rfl
      | _ => rfl
  | build z ps => simp only [runPureE, runPure, evPartsE_eq]; rfl
  | eqFlat neg ks x y => simp only [runPureE, runPure]; cases ev t x with
    | none => rfl
    | some v => cases ev t y with
      | none => cases v <;> rfl
      | some u => cases v <;> cases u <;> rfl
  | mkFunc fn a b => simp only [runPureE, runPure, evsE_eq]; rfl
  | conv k x => simp only [runPureE, runPure]; cases ev t x with
    | none => rfl
    | some v => cases v <;> rfl
  | convStr x => simp only [runPureE, runPure]; cases ev t x with
    | none => rfl
    | some v => cases v <;> rfl
  | i2s x => simp only [runPureE, runPure]; cases ev t x with
    | none => rfl
    | some v => cases v <;> rfl
  | ixS x i size => simp only [runPureE, runPure]; cases ev t x with
    | none => rfl
    | some v => cases ev t i with
      | none => cases v <;> rfl
      | some u => cases v with
        | slice a n c => cases a <;> rfl
        | _ => rfl
  | ixStr x i => simp only [runPureE, runPure]; cases ev t x with
    | none => rfl
    | some v => cases ev t i with
      | none => cases v <;> rfl
      | some u => cases v <;> rfl
  | slS x lo hi mx size => simp only [runPureE, runPure, evOE_eq]; cases ev t x with
    | none => rfl
    | some v => cases evO t lo with
      | none => rfl
      | some a => cases evO t hi with
        | none => rfl
        | some b => cases evO t mx with
          | none => rfl
          | some c => cases v <;> rfl
  | slA x lo hi mx len size => simp only [runPureE, runPure, evOE_eq]; cases ev t x with
    | none => rfl
    | some v => cases evO t lo with
      | none => rfl
      | some a => cases evO t hi with
        | none => rfl
        | some b => cases evO t mx with
          | none => rfl
          | some c => cases v with
            | pointer p => cases p <;> rfl
            | _ => rfl
  | slStr x lo hi => simp only [runPureE, runPure, evOE_eq]; cases ev t x with
    | none => rfl
    | some v => cases evO t lo with
      | none => rfl
      | some a => cases evO t hi with
        | none => rfl
        | some b => cases v <;> rfl
  | extract x i => simp only [runPureE, runPure]; cases ev t x with
    | none => rfl
    | some v => cases v <;> rfl
  | len s x => simp only [runPureE, runPure]; cases ev t x with
    | none => rfl
    | some v => cases v <;> rfl
  | minmax m xs => simp only [runPureE, runPure, evsE_eq]; cases evs t xs with
    | none => rfl
    | some vs => cases vs with
      | nil => rfl
      | cons v l => cases v <;> rfl
  | _ => rfl

theorem runPureE_mono {E E' : Env} (h : Le E E') (o : AOp) {v : Value} (hr : runPureE E o = some v) : runPureE E' o = some v := by
  cases o with
  | mv x => exact h x v hr
  | pick c a b =>
    refine bind_mono (h c) (fun u hu => ?_) hr
    unfold pickE at hu ⊢
    split at hu
    · exact h _ _ hu
    · exact h _ _ hu
    · cases hu
  | build z ps => exact bind_mono (evPartsE_mono h ps) (fun u hu => hu) hr
  | mkFunc fn a b => exact bind_mono (evsE_mono h a) (fun u hu => bind_mono (evsE_mono h b) (fun w hw => hw) hu) hr
  | slS x lo hi mx size => exact bind_mono (h x) (fun u hu => bind_mono (evOE_mono h lo) (fun w hw => bind_mono (evOE_mono h hi) (fun w hw => bind_mono (evOE_mono h mx) (fun w hw => hw) hw) hw) hu) hr
  | slA x lo hi mx len size => exact bind_mono (h x) (fun u hu => bind_mono (evOE_mono h lo) (fun w hw => bind_mono (evOE_mono h hi) (fun w hw => bind_mono (evOE_mono h mx) (fun w hw => hw) hw) hw) hu) hr
  | slStr x lo hi => exact bind_mono (h x) (fun u hu => bind_mono (evOE_mono h lo) (fun w hw => bind_mono (evOE_mono h hi) (fun w hw => hw) hw) hu) hr
  | lenC n => exact hr
  | minmax m xs => exact bind_mono (evsE_mono h xs) (fun u hu => hu) hr
  | bin op x y => exact bind_mono (h x) (fun u hu => bind_mono (h y) (fun w hw => hw) hu) hr
  | eqFlat neg ks x y => exact bind_mono (h x) (fun u hu => bind_mono (h y) (fun w hw => hw) hu) hr
  | eqv k neg x y => exact bind_mono (h x) (fun u hu => bind_mono (h y) (fun w hw => hw) hu) hr
  | ixA x i len size => exact bind_mono (h x) (fun u hu => bind_mono (h i) (fun w hw => hw) hu) hr
  | ixS x i size => exact bind_mono (h x) (fun u hu => bind_mono (h i) (fun w hw => hw) hu) hr
  | ixV x i len size n => exact bind_mono (h x) (fun u hu => bind_mono (h i) (fun w hw => hw) hu) hr
  | ixStr x i => exact bind_mono (h x) (fun u hu => bind_mono (h i) (fun w hw => hw) hu) hr
  | nilCheck x => exact bind_mono (h x) (fun u hu => hu) hr
  | un op x => exact bind_mono (h x) (fun u hu => hu) hr
  | conv k x => exact bind_mono (h x) (fun u hu => hu) hr
  | convStr x => exact bind_mono (h x) (fun u hu => hu) hr
  | i2s x => exact bind_mono (h x) (fun u hu => hu) hr
  | mkIface ty x => exact bind_mono (h x) (fun u hu => hu) hr
  | addOff x off => exact bind_mono (h x) (fun u hu => hu) hr
  | field x off n => exact bind_mono (h x) (fun u hu => hu) hr
  | extract x i => exact bind_mono (h x) (fun u hu => hu) hr
  | len s x => exact bind_mono (h x) (fun u hu => hu) hr
  | _ => cases hr

end Go.AM
