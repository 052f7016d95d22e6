/- From the interpreter to a row: laws of whole numbers and bools, over at most one laid table. -/
import Derived.Test.YtjilfolpkkhfmaaDoorAM20
import Derived.ProofKit
import Derived.OpenShut
import Derived.Lib.LaidTab
namespace Go.AM
open Go.ChangeShapes Go.WideShapes Go.ChangeAt Go.RowKit

theorem kept_of_old {W W' : World} (hos : W'.os = W.os) (hout : W'.output = W.output) (hold : ∀ k, k < W.heap.size → W'.heap[k]? = W.heap[k]?) (may : MemPlace → Prop) : W.keptBut W' may := by
  refine ⟨hos, hout, fun i hi => ?_⟩
  rw [hold i hi]
  cases W.heap[i]? with
  | none => rfl
  | some o => cases o <;> simp

theorem post_of_old {H : Type} {enc : TypeId × Value → H} {P : Program} {f : Func} {s : ChangeSpec} {apart fresh handsOn again : Bool} {W W' : World} {args : Array Value} {v : Value} {ds gs : List (DataW H)} {before pa pv : List MemPlace}
    (hW : DataW.Whole enc P f.params.toList s.vars apart W args.toList ds gs before)
    (hres : ∀ (b : Nat) (sp : Nat → Bool) (hd : Bool), DataW.TrodAll enc P W' b sp hd f.resultTypes.toList (v.resultList f.resultTypes.size) (s.fn H (ds ++ gs)).results [])
    (hargs : ∀ sp : Nat → Bool, (∀ p ∈ before, sp p.block = true) → DataW.TrodAll enc P W' 0 sp true f.params.toList args.toList (s.fn H (ds ++ gs)).args pa)
    (hvars : ∀ sp : Nat → Bool, (∀ p ∈ before, sp p.block = true) → DataW.TrodVars enc P W' sp s.vars (s.fn H (ds ++ gs)).vars pv)
    (hps : before = pa ++ pv) (hos : W'.os = W.os) (hout : W'.output = W.output) (hold : ∀ k, k < W.heap.size → W'.heap[k]? = W.heap[k]?)
    (hok : ∀ (j : Nat) (t : TypeId) (r : Value), f.resultTypes[j]? = some t → (v.resultList f.resultTypes.size)[j]? = some r → Value.okWide P W' .any 0 t r) :
    s.post enc P f apart fresh handsOn again W args v W' := by
  have hlt : ∀ p ∈ before, p.block < W.heap.size := fun p hp => hW.lt p hp
  have hold' : ∀ p ∈ before, (fun b => decide (b < W.heap.size)) p.block = true := fun p hp => by simpa using hW.lt p hp
  refine ⟨ds, gs, before, [], pa, pv, hW, hres _ _ _, hargs _ hold', hvars _ hold', World.keptBut_mono (fun p hp => ⟨hp, ?_⟩) (kept_of_old hos hout hold (· ∈ before)), fun _ => ?_⟩
  · rw [hps, List.mem_append] at hp
    exact Or.inr hp
  · obtain ⟨_, _, _, _, _, hz, hn⟩ := hW
    refine ⟨hok, _, _, ([] ++ pa) ++ pv, ⟨[] ++ pa, pv, trodAll_append (hargs _ (fun _ _ => rfl)) (hres _ _ _), hvars _ (fun _ _ => rfl), rfl, ?_, ?_⟩, ?_⟩
    · intro b off hp
      have hp' : MemPlace.cell b off ∈ before := by rw [hps]; simpa using hp
      have hb : b < W.heap.size := hlt _ hp'
      have := hz b off hp'
      rw [show W'.frozen? ⟨b, off, none⟩ = W.frozen? ⟨b, off, none⟩ by simp only [World.frozen?, hold b hb]]
      exact this
    · intro ha
      have := hn ha
      rw [hps] at this
      simpa using this
    · intro p hp _
      rw [hps]
      simpa using hp

/-- A program's one package-level table, which is only read. -/
def rho1 (n : Nat) : Ren := fun b => if b = 0 then some ⟨0, 0, n⟩ else none
def sto1 (zs : List Value) : Sto := { next := 1, objs := Tr.leaf.set 0 (.cells zs.length [] (Tr.ofList zs 0 .leaf) .ro) }

theorem gr1 {P : Program} {n : Nat} (h : P.globals.size = 1) : GR P (rho1 n) := by
  intro g hg
  obtain rfl : g = 0 := by omega
  exact ⟨⟨0, 0, n⟩, rfl, rfl, rfl⟩

theorem sto1_get {zs : List Value} {b : Nat} {o : AObj} (h : (sto1 zs).objs.get b = some o) : b = 0 ∧ o = .cells zs.length [] (Tr.ofList zs 0 .leaf) .ro := by
  simp only [sto1, Tr.get_set] at h
  split at h
  · rename_i e; cases h; exact ⟨e.symm, rfl⟩
  · cases h

theorem sim1 {W : World} {cs : Array Value} {el : TypeId} {fz : Nat × Nat} {zs : List Value} (h : W.heap[0]? = some (.cells cs el fz)) (hcs : cs.toList = zs) (hp : ∀ v ∈ zs, ∃ k n, v = .int k n) : Sim (rho1 zs.length) (sto1 zs) W := by
  have hsz : cs.size = zs.length := by rw [← hcs]; simp
  refine ⟨?_, ?_, ?_⟩
  · intro b o hb
    obtain ⟨rfl, rfl⟩ := sto1_get hb
    refine ⟨⟨0, 0, zs.length⟩, _, rfl, h, hsz, by simp, ?_, fun e => (e rfl).elim, fun e => by cases e⟩
    intro i v hi hv
    unfold cellOf at hv
    rw [Tr.get_ofList] at hv
    simp only [Nat.zero_le, true_and, Nat.zero_add, hi, if_true, Nat.sub_zero] at hv
    have hz : zs[i]? = some zs[i] := by simp [hi]
    rw [hz] at hv
    cases hv
    have hlt : i < cs.size := by omega
    have : cs.getD (0 + i) undef = zs[i] := by
      subst hcs
      simp [Array.getD_eq_getD_getElem?, hlt]
    rw [this]
    obtain ⟨k, n, e⟩ := hp zs[i] (by simp)
    rw [e]; exact .int k n
  · intro b b' o o' l l' h1 h2 _ _ _ _
    rw [(sto1_get h1).1, (sto1_get h2).1]
  · intro b l hb
    unfold rho1 at hb
    split at hb
    · simp only [sto1]; omega
    · cases hb

theorem foot1 {n : Nat} {zs : List Value} (k : Nat) : ¬ Foot (rho1 n) (sto1 zs) k := by
  rintro ⟨b, o, l, h1, h2, h3, h4⟩
  rw [(sto1_get h1).2] at h4
  cases h4

theorem heap_of_tab {P : Program} {W : World} {name : String} {k : IntKind} {zs : List Int} (h : Lib.TabIs P W name k zs) (hg : P.globalNamed name = some 0) :
    ∃ cs el fz, W.heap[0]? = some (.cells cs el fz) ∧ cs.toList = zs.map (Value.int k) := by
  unfold Lib.TabIs World.var? at h
  rw [hg] at h
  simp only [Option.bind_some] at h
  split at h
  · rename_i cs el fz hh
    cases h
    exact ⟨_, el, fz, hh, by simp⟩
  · cases h

/-- A call, where the interpreter comes to an end, over the program's one table. -/
theorem calls1 {P : Program} {call : CallF} (hcall : CallsOK P call) {W : World} {name : String} {k : IntKind} {zs : List Int} (h : Lib.TabIs P W name k zs) (hg : P.globalNamed name = some 0) (hn : P.globals.size = 1)
    {f : FuncId} {args : List Value} (hargs : ∀ ρ, VRl ρ args args) {v : Value} {σ' : Sto} (hr : call f args (sto1 (zs.map (Value.int k))) = some (v, σ')) :
    Calls P f args.toArray W fun e W' => ∃ cv ρ, e = .returned cv ∧ VR ρ v cv ∧ W'.os = W.os ∧ W'.output = W.output ∧ ∀ k, k < W.heap.size → W'.heap[k]? = W.heap[k]? := by
  obtain ⟨cs, el, fz, h1, h2⟩ := heap_of_tab h hg
  have hs := sim1 (zs := zs.map (Value.int k)) h1 h2 (fun v hv => by
    obtain ⟨z, _, rfl⟩ := List.mem_map.1 hv
    exact ⟨k, z, rfl⟩)
  obtain ⟨_, hc⟩ := hcall f args _ v σ' hr _ W args.toArray hs (gr1 hn) (by simpa using hargs _)
  refine hc.mono ?_
  rintro e W' ⟨cv, ρ', rfl, hv, _, he⟩
  exact ⟨cv, ρ', rfl, hv, he.os, he.output, fun k hk => he.pres k hk (foot1 k)⟩

end Go.AM
