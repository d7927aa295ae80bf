/- A seat's functions as a table; a run of a law says what the row asks. -/
import Derived.Test.YthhkfcnmbpnmkaaImY
namespace Im
open Go (IntKind BinOp UnOp Program World Value Addr TypeId FuncId)
open Go.RowKit (Below)

/-- The table's functions are the program's. -/
def TabOk (E : Env) : List (Nat × IFun) → Prop
  | [] => True
  | (k, F) :: r => (∃ fn, E.P.funcs[k]? = some fn ∧ (fn.name == "runtime.NumGoroutine") = false ∧ trFun E fn = some F) ∧ TabOk E r

def look {α : Type} (tab : List (Nat × α)) (f : Nat) : Option α :=
  match tab with
  | [] => none
  | (k, F) :: r => if k = f then some F else look r f

theorem look_mem {α : Type} : ∀ {tab : List (Nat × α)} {f : Nat} {F : α}, look tab f = some F → (f, F) ∈ tab
  | [], f, F, h => by simp [look] at h
  | (k, G) :: r, f, F, h => by
    unfold look at h
    split at h
    · rename_i hk; cases h; rw [hk]; exact List.mem_cons_self
    · exact List.mem_cons_of_mem _ (look_mem h)

theorem TabOk.mem {E : Env} : ∀ {tab : List (Nat × IFun)}, TabOk E tab → ∀ {k : Nat} {F : IFun}, (k, F) ∈ tab → ∃ fn, E.P.funcs[k]? = some fn ∧ (fn.name == "runtime.NumGoroutine") = false ∧ trFun E fn = some F
  | [], _, _, _, h => by simp at h
  | (k0, F0) :: r, ht, k, F, h => by
    rcases List.mem_cons.1 h with h | h
    · cases h; exact ht.1
    · exact ht.2.mem h

/-- Functions by their own numbers. -/
def fmOf (tab : List (Nat × IFun)) (f : FuncId) : Option Nat := if (look tab f).isSome then some f else none

theorem fmOf_some {tab : List (Nat × IFun)} {f : FuncId} {g : Nat} (h : fmOf tab f = some g) : g = f ∧ ∃ F, look tab f = some F := by
  unfold fmOf at h
  split at h
  · rename_i hs; cases h; exact ⟨rfl, Option.isSome_iff_exists.1 hs⟩
  · cases h

def cfgOf (tab : List (Nat × IFun)) : Cfg := { fns := look tab, st := fun _ _ => none, gl := fun _ _ => none, prim := fun _ => none }

theorem envOk_of {E : Env} {tab : List (Nat × IFun)} (hfm : E.fm = fmOf tab) (h : TabOk E tab) : EnvOk E :=
  ⟨fun f g hf => by
    rw [hfm] at hf
    obtain ⟨rfl, F, hF⟩ := fmOf_some hf
    obtain ⟨fn, h1, h2, h3⟩ := h.mem (look_mem hF)
    refine ⟨fn, h1, by simpa using h2, ?_⟩
    unfold trFun at h3
    split at h3 <;> try (cases h3; done)
    rename_i hb _; simp [hb]⟩

theorem fnsOk_of {E : Env} {tab : List (Nat × IFun)} (hfm : E.fm = fmOf tab) (h : TabOk E tab) : FnsOk E (cfgOf tab) :=
  ⟨fun f F hF f' hf => by
    rw [hfm] at hf
    obtain ⟨rfl, _⟩ := fmOf_some hf
    obtain ⟨fn, h1, h2, h3⟩ := h.mem (look_mem hF)
    exact ⟨fn, h1, h3⟩, fun f p h => by simp [cfgOf] at h, fun f p args H v H' h => by simp [cfgOf] at h⟩

theorem cfgOk_of {E : Env} {tab : List (Nat × IFun)} (hgm : ∀ g, E.gm g = none) : CfgOk E (cfgOf tab) :=
  ⟨fun b i v h => (by simp [cfgOf] at h), fun m g i v h => (by rw [hgm] at h; cases h), fun g m h => (by rw [hgm] at h; cases h)⟩

/-- A closed law: what the machine answers. -/
theorem closed_run {E : Env} {tab : List (Nat × IFun)} (hfm : E.fm = fmOf tab) (hgm : ∀ g, E.gm g = none) (h : TabOk E tab) {n f : Nat} (hf : (look tab f).isSome = true)
    (hrun : (icall (cfgOf tab) n (.fn f) [] Heap.empty).map (·.1) = some (.bool true)) :
    Go.Calls E.P f #[] E.w0 fun e w' => e = .returned (.bool true) ∧ Below E.w0.heap.size E.w0 w' := by
  cases hr : icall (cfgOf tab) n (.fn f) [] Heap.empty with
  | none => rw [hr] at hrun; cases hrun
  | some p =>
    obtain ⟨v, H'⟩ := p
    rw [hr] at hrun
    simp only [Option.map_some, Option.some.injEq] at hrun
    subst hrun
    have hf' : E.fm f = some f := by rw [hfm]; simp [fmOf, hf]
    have := runs (envOk_of hfm h) (cfgOk_of (tab := tab) hgm) (fnsOk_of hfm h) hf' (args' := []) .nil hr
    intro cs
    obtain ⟨e, w', fr, ⟨ρ, c, h1, h2, h3⟩, rest⟩ := this cs
    cases h2
    exact ⟨e, w', fr, ⟨h1, h3⟩, rest⟩

end Im
