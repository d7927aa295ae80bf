/- All operations together ('iop_ok'), calls ('oper_sound'), a region in a given order ('run_sound'). -/
import Derived.Test.YthhkfcnmbpnmkaaImN
import Derived.RangeFuncCalls
namespace Im
open Go (IntKind BinOp UnOp Program World Value Addr TypeId FuncId Code Oper Operand Op TypeDesc Sem Act run_underlying Fence Exit Ending)
open Go.RowKit (Below)

section
variable {E : Env} {C : Cfg} {ρ : Ren} {H : Heap} {w : World} {t : List V} {a : Act}

def IOp.isCall : IOp → Bool
  | .call .. | .callv .. => true
  | _ => false

theorem ok_builtin (hC : CfgOk E C) (ht : VRels E ρ t a.tmps.toList) (hr : Rel E ρ H.get H.next w) {o : Oper} {nid : Nat} (hn : ρ nid = none) {b : Go.Builtin} {args : Array Operand} {ts : Array TypeId} {io : IOp}
    (ho : o.op = .call { callee := .builtin b, args := args, argTypes := ts }) (hx : trBuiltin E b ts.toList args.toList = some io) {v : V} {H' : Heap} {cf : CallF} (h : iop cf C nid io t H = some (v, H')) : Ok E ρ H w a o nid v H' := by
  obtain ⟨args⟩ := args
  obtain ⟨ts⟩ := ts
  simp only at hx
  have hx0 := hx
  unfold trBuiltin at hx
  split at hx <;> try (cases hx; done)
  · rename_i T tx x y
    split at hx <;> try (cases hx; done)
    · rename_i e e' x' y' hT hT' hx' hy'
      split at hx <;> try (cases hx; done)
      rename_i i hi
      split at hx <;> try (cases hx; done)
      rename_i hcond
      obtain ⟨h1, h2, h3⟩ := hcond
      cases hx
      exact ok_app hC ht hr hn hT hi h3 rfl h1 h2 ho hx' hy' (s := false) (by simp [srcTy, hT']) h
    · rename_i e x' y' hT hT' hx' hy'
      split at hx <;> try (cases hx; done)
      rename_i i hi
      split at hx <;> try (cases hx; done)
      rename_i hcond
      obtain ⟨h1, h2, h3⟩ := hcond
      cases hx
      exact ok_app hC ht hr hn hT hi (by rw [h3]) h1 (by omega) h2 ho hx' hy' (s := true) (by simp [srcTy, hT']) h
  · exact ok_len hC ht hr ho hx0 h
  · exact ok_cpy hC ht hr ho hx0 h
  · exact ok_clr hC ht hr ho hx0 h
  · simp only [Option.map_eq_some_iff] at hx
    obtain ⟨ys, hys, rfl⟩ := hx
    exact ok_mm hC ht hr (.inl rfl) ho hys (by simpa using h)
  · simp only [Option.map_eq_some_iff] at hx
    obtain ⟨ys, hys, rfl⟩ := hx
    exact ok_mm hC ht hr (.inr rfl) ho hys (by simpa using h)

/-- Each operation but calls. -/
theorem iop_ok (hC : CfgOk E C) (ht : VRels E ρ t a.tmps.toList) (hr : Rel E ρ H.get H.next w) {o : Oper} {nid : Nat} (hn : ρ nid = none) {io : IOp} (hx : trOp? E o.op = some io) (hnc : ∀ c f, o.op = .call c → c.callee ≠ .value f)
    {v : V} {H' : Heap} {cf : CallF} (h : iop cf C nid io t H = some (v, H')) : Ok E ρ H w a o nid v H' := by
  generalize ho : o.op = op at hx
  have hx0 := hx
  cases op
  case move x | assign x =>
    simp only [trOp?, Option.map_eq_some_iff] at hx
    obtain ⟨y, hy, rfl⟩ := hx
    simp [iop] at h; obtain ⟨rfl, rfl⟩ := h
    first | exact ok_mv hC ht hr (.inl ho) hy | exact ok_mv hC ht hr (.inr ho) hy
  case pick x y z =>
    simp only [trOp?] at hx
    split at hx <;> try (cases hx; done)
    rename_i h1 h2 h3
    cases hx
    exact ok_pick hC ht hr ho h1 h2 h3 h
  case nilCheck x =>
    simp only [trOp?, Option.map_eq_some_iff] at hx
    obtain ⟨y, hy, rfl⟩ := hx
    exact ok_nilck hC ht hr ho hy h
  case box T x =>
    simp only [trOp?, Option.map_eq_some_iff] at hx
    obtain ⟨y, hy, rfl⟩ := hx
    exact ok_box hC ht hr hn ho hy h
  case alloc T =>
    simp only [trOp?, Option.map_eq_some_iff] at hx
    obtain ⟨z, hz, rfl⟩ := hx
    exact ok_alc hr hn ho hz h
  case build => exact ok_build hC ht hr ho hx0 h
  case buildSlice => exact ok_bslice hC ht hr hn ho hx0 h
  case load => exact ok_ld hC ht hr ho hx0 h
  case store => exact ok_st hC ht hr ho hx0 h
  case fieldAddr => exact ok_fa hC ht hr ho hx0 h
  case indexAddr => exact ok_ia hC ht hr ho hx0 h
  case field => exact ok_field hC ht hr ho hx0 h
  case index => exact ok_index hC ht hr ho hx0 h
  case extract x i =>
    simp only [trOp?, Option.map_eq_some_iff] at hx
    obtain ⟨y, hy, rfl⟩ := hx
    exact ok_ext hC ht hr ho hy h
  case binOp => exact ok_eq hC ht hr ho (by simpa [trOp?] using hx) h
  case unOp op T x =>
    simp only [trOp?, Option.map_eq_some_iff] at hx
    obtain ⟨y, hy, rfl⟩ := hx
    exact ok_un hC ht hr ho hy h
  case convert => exact ok_conv hC ht hr hn ho (by simpa [trOp?] using hx) h
  case makeFunc => exact ok_mkf hC ht hr ho hx0 h
  case makeMap T r =>
    cases r with
    | some r => simp [trOp?] at hx
    | none =>
      simp only [trOp?] at hx
      split at hx <;> try (cases hx; done)
      cases hx
      exact ok_mkm hr hn ho h
  case makeSlice => exact ok_mks hC ht hr hn ho hx0 h
  case slice => exact ok_slice hC ht hr ho (by simpa [trOp?] using hx) h
  case lookup => exact ok_lkup hC ht hr ho hx0 h
  case mapUpdate => exact ok_mupd hC ht hr ho hx0 h
  case makeInterface => exact ok_mif hC ht hr ho hx0 h
  case call c =>
    obtain ⟨callee, args, ts⟩ := c
    simp only [trOp?, trCall] at hx
    cases callee with
    | builtin b => exact ok_builtin hC ht hr hn ho hx h
    | value f => exact absurd rfl (hnc _ f ho)
    | invoke r m => cases hx
  all_goals (simp [trOp?] at hx)

/-! ## Calls -/

/-- What belongs to a program: its ideal functions are functions of its own, with a body. -/
structure EnvOk (E : Env) : Prop where
  fm : ∀ f g, E.fm f = some g → ∃ fn, E.P.funcs[f]? = some fn ∧ fn.name ≠ "runtime.NumGoroutine" ∧ fn.body.isSome = true

/-- What a call leaves: the value's likeness, the heap's. -/
def CallPost (E : Env) (ρ : Ren) (H : Heap) (w : World) (v : V) (H' : Heap) : Ending → World → Prop := fun e w' =>
  ∃ ρ' c, e = .returned c ∧ VRel E ρ' v c ∧ Post E (fun _ => False) ρ H.get H.next w ρ' H'.get H'.next w'

/-- The fence that shuts nothing out, in a round or in none. -/
def Wd (ro : Option Nat) : Fence := { Fence.wide with round := ro }

/-- A machine for calls that speaks true. -/
structure CfOk (E : Env) (cf : CallF) : Prop where
  fn : ∀ (f : Nat) (f' : FuncId) (args : List V) (H : Heap) (v : V) (H' : Heap), cf (.fn f) args H = some (v, H') → E.fm f' = some f →
    ∀ (ρ : Ren) (w : World) (args' : List Value), VRels E ρ args args' → Rel E ρ H.get H.next w → Go.Calls E.P f' args'.toArray w (CallPost E ρ H w v H')
  rnd : ∀ (l : Nat) (args : List V) (H : Heap) (v : V) (H' : Heap), cf (.rnd l) args H = some (v, H') →
    ∀ (ρ : Ren) (w : World) (args' : List Value) (b x tot : Nat), VRels E ρ args args' → Rel E ρ H.get H.next w → ρ l = some (b, x, tot) →
      ∃ fn tmps assign body, (Go.Instr.yield b args'.toArray).run E.P w = .ok (.round b fn tmps assign body) w ∧ Go.RoundIn Fence.wide 0 E.P b fn tmps assign body w (CallPost E ρ H w v H')

theorem trOp?_defer {c : Go.Call} : trOp? E (.defer c) = none := rfl

/-- One operation, whatever it is, in the walk's words. -/
theorem oper_sound (hE : EnvOk E) (hC : CfgOk E C) {cf : CallF} (hcf : CfOk E cf) (ro : Option Nat) {n : Nat} (ht : VRels E ρ t a.tmps.toList) (hr : Rel E ρ H.get H.next w) {o : Oper} {nid : Nat} (hn : ρ nid = none)
    {v : V} {H' : Heap} (h : iop cf C nid (trOp E o.op) t H = some (v, H')) {K : Act → World → Prop} {Q : Exit → Act → World → Prop}
    (hK : ∀ ρ' c w', VRel E ρ' v c → Post E (· = nid) ρ H.get H.next w ρ' H'.get H'.next w' → K (a.put o.dst c) w') : o.wpIn (Wd ro) n E.P a w K Q := by
  refine ⟨fun _ _ => trivial, ?_⟩
  unfold trOp at h
  cases hx : trOp? E o.op with
  | none => rw [hx] at h; simp [iop] at h
  | some io =>
    rw [hx] at h
    simp only [Option.getD_some] at h
    have hsem : o.semAt (Wd ro).round a.eval = Go.execOp a.eval o := Oper.semAt_eq _ _ _ (fun c hc => by rw [hc] at hx; cases hx)
    rw [hsem]
    by_cases hcall : ∃ c f, o.op = .call c ∧ c.callee = .value f
    · -- a call
      obtain ⟨c, f, hop, hcal⟩ := hcall
      obtain ⟨callee, args, ts⟩ := c
      simp only at hcal
      subst hcal
      rw [hop] at hx
      simp only [trOp?, trCall] at hx
      -- a call of a function of the program
      have enter : ∀ (g : Nat) (f' : FuncId) (vs : List V) (us : List Value), cf (.fn g) vs H = some (v, H') → E.fm f' = some g → VRels E ρ vs us →
          (Go.execOp a.eval o).run E.P w = (Go.callFunc f' us.toArray).run E.P w → o.uponIn (Wd ro) n E.P a K Q ((Go.execOp a.eval o).run E.P w) := by
        intro g f' vs us hc hf hvs hrun
        obtain ⟨fn, h1, h2, h3⟩ := hE.fm f' g hf
        have hcf' : (Go.callFunc f' us.toArray).run E.P w = .ok (.enter f' us.toArray) w := by
          obtain ⟨b, hb⟩ := Option.isSome_iff_exists.1 h3
          simp [Go.callFunc, h1, h2, hb]
        rw [hrun, hcf']
        have hcalls := hcf.fn g f' vs H v H' hc hf ρ w us hvs hr
        refine ⟨fun h => by simp [Wd, Fence.wide] at h, ?_⟩
        have hin : Go.CallsIn (Wd ro) (n - 1) E.P f' us.toArray w (CallPost E ρ H w v H') := by
          have := (Go.callsIn_wide (n := n - 1)).2 hcalls
          cases ro with
          | none => exact this
          | some l => exact Go.CallsIn.inRound l this
        refine hin.mono fun e w' he => ?_
        obtain ⟨ρ', c, rfl, hv, hp⟩ := he
        exact hK ρ' c w' hv (hp.mono fun _ _ h => h.elim)
      -- a call of a value
      have value : ∀ (x : Opd) (l : List Opd), trOpd E f = some x → trOpds E args.toList = some l → icallv cf (eval t x) (l.map (eval t)) H = some (v, H') →
          o.uponIn (Wd ro) n E.P a K Q ((Go.execOp a.eval o).run E.P w) := by
        intro x l hx hl hcv
        have h1 := eval_sound hC ht hx
        have h2 := evals_sound hC ht hl
        have hargs : (args.map a.eval) = (args.toList.map a.eval).toArray := by apply Array.ext'; simp
        unfold icallv at hcv
        split at hcv
        · rename_i g p q e0
          rw [e0] at h1
          cases hv' : a.eval f <;> rw [hv'] at h1 <;> cases h1
          rename_i f' p' q' hg hp hq
          refine enter g f' _ _ hcv hg ((hp.append h2).append hq) ?_
          simp [Go.execOp, hop, Go.resolve, hv', Go.Deferred.ofValue, Go.invoke, hargs]
        · rename_i lid e0
          rw [e0] at h1
          cases hv' : a.eval f <;> rw [hv'] at h1 <;> cases h1
          rename_i b x tot hρ
          obtain ⟨fn, tmps, assign, body, h3, h4⟩ := hcf.rnd lid _ H v H' hcv ρ w _ b x tot h2 hr hρ
          have hrun : (Go.execOp a.eval o).run E.P w = .ok (.round b fn tmps assign body) w := by
            rw [← h3]
            simp [Go.execOp, hop, Go.resolve, hv', Go.Deferred.ofValue, Go.invoke, hargs]
          rw [hrun]
          refine ⟨fun h => by simp [Wd, Fence.wide] at h, ?_⟩
          refine Go.RoundIn.mono (R := CallPost E ρ H w v H') (show Go.RoundIn (Wd ro) (n - 1) E.P b fn tmps assign body w _ from ?_) fun e w' he => ?_
          · refine ⟨trivial, fun c cs _ => ?_⟩
            obtain ⟨e, w', r, s⟩ := h4.2 c cs (Go.room_wide _)
            exact ⟨e, w', r, s⟩
          · obtain ⟨ρ', c, rfl, hv, hp⟩ := he
            exact hK ρ' c w' hv (hp.mono fun _ _ h => h.elim)
        · cases hcv
      cases f <;> simp only at hx
      case func f' =>
        split at hx <;> try (cases hx; done)
        rename_i g l hg hl
        cases hx
        simp only [iop] at h
        refine enter g f' _ _ h hg (evals_sound hC ht hl) ?_
        have hargs : (args.map a.eval) = (args.toList.map a.eval).toArray := by apply Array.ext'; simp
        simp [Go.execOp, hop, Go.resolve, Act.eval, Go.Deferred.ofValue, Go.invoke, hargs]
      all_goals
        split at hx <;> try (cases hx; done)
        rename_i x l hx' hl
        cases hx
        simp only [iop] at h
        exact value _ _ hx' hl h
    · obtain ⟨c, w', ρ', hrun, hv, hp⟩ := iop_ok hC ht hr hn hx (fun c f h1 h2 => hcall ⟨c, f, h1, h2⟩) h
      rcases hrun with hrun | ⟨hrun, rfl⟩
      · rw [hrun]; exact hK ρ' c w' hv hp
      · rw [hrun]; exact hK ρ' _ w' hv hp

end
end Im
