/- Each operation but calls, part 9: maps; all together: 'iop_ok'. -/
import Derived.Test.YthhkfcnmbpnmkaaImM
namespace Im
open Go (IntKind BinOp UnOp Program World Value Addr TypeId FuncId Code Oper Operand Op TypeDesc Sem Act run_underlying)
open Go.RowKit (Below)

section
variable {E : Env} {C : Cfg} {ρ : Ren} {H : Heap} {w : World} {t : List V} {a : Act}

theorem ok_mkm (hr : Rel E ρ H.get H.next w) {o : Oper} {nid : Nat} (hn : ρ nid = none) {T : TypeId} (ho : o.op = .makeMap T none) {v : V} {H' : Heap} {cf : CallF} (h : iop cf C nid .mkm t H = some (v, H')) : Ok E ρ H w a o nid v H' := by
  simp [iop] at h; obtain ⟨rfl, rfl⟩ := h
  refine ⟨.map (some w.heap.size), { w with heap := w.heap.push (.map #[] 0) }, ρ.upd nid (w.heap.size, 0, 0), .inl (by simp [Go.execOp, ho, Go.Instr.makeMap]), .map _ _ _ _ (Ren.upd_self _ _ _), ?_⟩
  rw [Heap.put_get]
  exact Post.new hr nid 0 (.map []) (.map #[] 0) hn (Heap.id_lt_put _ _ _) (Heap.next_le_put _ _ _) ⟨_, _, rfl, .nil⟩ w.drawn

/-- The kind of a map's keys. -/
theorem keyTag_inv {T : TypeId} {n : Nat} (h : keyTag E.P T = some n) : ∃ d, E.P.underlying T = some d ∧ ((n = 0 ∧ ∃ k, d = .int k) ∨ (n = 1 ∧ d = .string) ∨ (n = 2 ∧ d = .bool)) := by
  unfold keyTag at h
  split at h <;> try (cases h; done)
  · cases h; exact ⟨_, by assumption, .inl ⟨rfl, _, rfl⟩⟩
  · cases h; exact ⟨_, by assumption, .inr (.inl ⟨rfl, rfl⟩)⟩
  · cases h; exact ⟨_, by assumption, .inr (.inr ⟨rfl, rfl⟩)⟩

theorem sameKey_sound {n : Nat} {d : TypeDesc} (hd : (n = 0 ∧ ∃ k, d = .int k) ∨ (n = 1 ∧ d = .string) ∨ (n = 2 ∧ d = .bool)) {u v : V} {c c' : Value} {b : Bool} (ht : tagOf u = n) (h : sameKey u v = some b)
    (hu : VRel E ρ u c) (hv : VRel E ρ v c') : Go.Instr.sameNow d c c' = some b := by
  unfold sameKey at h
  split at h
  · split at h <;> try (cases h; done)
    rename_i hk; subst hk
    cases h; cases hu; cases hv
    rcases hd with ⟨_, k, rfl⟩ | ⟨e, _⟩ | ⟨e, _⟩
    · simp [Go.Instr.sameNow]
      rw [Bool.eq_iff_iff]; simp
    · rw [← ht] at e; simp [tagOf] at e
    · rw [← ht] at e; simp [tagOf] at e
  · cases h; cases hu; cases hv
    rcases hd with ⟨e, _⟩ | ⟨_, rfl⟩ | ⟨e, _⟩
    · rw [← ht] at e; simp [tagOf] at e
    · simp only [Go.Instr.sameNow, Option.some.injEq]
      rw [Go.beq_toListBytes, Go.ByteArray.toList_mk, Go.ByteArray.toList_mk, beqBytes_eq]
      rw [Bool.eq_iff_iff]; simp
    · rw [← ht] at e; simp [tagOf] at e
  · cases h; cases hu; cases hv
    rcases hd with ⟨e, _⟩ | ⟨e, _⟩ | ⟨_, rfl⟩
    · rw [← ht] at e; simp [tagOf] at e
    · rw [← ht] at e; simp [tagOf] at e
    · simp [Go.Instr.sameNow]
  · cases h

theorem findKey_sound {n : Nat} {d : TypeDesc} (hd : (n = 0 ∧ ∃ k, d = .int k) ∨ (n = 1 ∧ d = .string) ∨ (n = 2 ∧ d = .bool)) {k : V} {c : Value} (ht : tagOf k = n) (hk : VRel E ρ k c) :
    ∀ {l : List (V × V)} {es : List Go.MapEntry} {r : Option V} (i : Nat), findKey k l = some r → MapRel E ρ l es →
      ∃ r', Go.Instr.findNow d c es i = some r' ∧ ((r = none ∧ r' = none) ∨ ∃ v j u, r = some v ∧ r' = some (j, u) ∧ VRel E ρ v u) := by
  intro l
  induction l with
  | nil => intro es r i h hm; cases hm; simp [findKey] at h; subst h; exact ⟨none, rfl, .inl ⟨rfl, rfl⟩⟩
  | cons x l ih =>
    intro es r i h hm
    cases hm
    rename_i k' v' e es hk' hv' hm
    unfold findKey at h
    split at h <;> try (cases h; done)
    · rename_i hs
      cases h
      have := sameKey_sound hd ht hs hk hk'
      exact ⟨some (i, e.val), by simp [Go.Instr.findNow, this], .inr ⟨_, _, _, rfl, rfl, hv'⟩⟩
    · rename_i hs
      have := sameKey_sound hd ht hs hk hk'
      obtain ⟨r', h1, h2⟩ := ih (i + 1) h hm
      exact ⟨r', by simp [Go.Instr.findNow, this, h1], h2⟩

theorem checkKey_run {T : TypeId} {n : Nat} (h : keyTag E.P T = some n) (e : Bool) (c : Value) : (Go.Instr.checkKey e 10000 T c).run E.P w = .ok () w := by
  obtain ⟨d, hd, hk'⟩ := keyTag_inv h
  have key : ∀ m : Nat, (Go.Instr.checkKey e (m + 1) T c).run E.P w = .ok () w := by
    intro m
    simp only [Go.Instr.checkKey, Sem.run_bind, run_underlying hd, Go.Result.andThen_ok]
    rcases hk' with ⟨_, k, rfl⟩ | ⟨_, rfl⟩ | ⟨_, rfl⟩ <;> rfl
  exact key 9999

theorem ok_lkup (hC : CfgOk E C) (ht : VRels E ρ t a.tmps.toList) (hr : Rel E ρ H.get H.next w) {o : Oper} {nid : Nat} {T : TypeId} {x k : Operand} {ok : Bool} {io : IOp} (ho : o.op = .lookup T x k ok) (hx : trOp? E (.lookup T x k ok) = some io)
    {v : V} {H' : Heap} {cf : CallF} (h : iop cf C nid io t H = some (v, H')) : Ok E ρ H w a o nid v H' := by
  simp only [trOp?] at hx
  split at hx <;> try (cases hx; done)
  rename_i kt e x' k' hT hx' hk'
  split at hx <;> try (cases hx; done)
  rename_i tag z htag hz
  cases hx
  have hv := eval_sound hC ht hx'
  have hw := eval_sound hC ht hk'
  obtain ⟨d, hd, hkd⟩ := keyTag_inv htag
  obtain ⟨zc, hzc, hzv⟩ := zeroV_run hz
  simp only [iop] at h
  split at h <;> try (cases h; done)
  rename_i htg
  have htg : tagOf (eval t k') = tag := Decidable.not_not.1 htg
  split at h <;> try (cases h; done)
  rename_i es hes
  split at h <;> try (cases h; done)
  rename_i r hfind
  cases h
  have hchk : ∀ b, (Go.Instr.checkKey b 10000 kt (a.eval k)).run E.P w = .ok () w := fun b => checkKey_run htag b _
  have hfk : ∀ cs : List Go.MapEntry, MapRel E ρ es cs → ∃ r', (Go.Instr.findKey kt (a.eval k) cs).run E.P w = .ok r' w ∧ ((r = none ∧ r' = none) ∨ ∃ v j u, r = some v ∧ r' = some (j, u) ∧ VRel E ρ v u) := by
    intro cs hm
    obtain ⟨r', h1, h2⟩ := findKey_sound hkd htg hw 0 hfind hm
    exact ⟨r', by simp [Go.Instr.findKey, run_underlying hd, h1], h2⟩
  -- the answer
  have fin : ∀ (u : Value) (b : Bool), (Go.Instr.lookup T (a.eval x) (a.eval k) ok).run E.P w = .ok (if ok then .tuple #[u, .bool b] else u) w → VRel E ρ (r.getD z) u → r.isSome = b →
      Ok E ρ H w a o nid (if ok then .tup [r.getD z, .bool r.isSome] else r.getD z) H := by
    intro u b hl hu hb
    subst hb
    refine .pure hr (c := if ok then .tuple #[u, .bool r.isSome] else u) (by simp only [Go.execOp, ho, Sem.run_bind, hl, Go.Result.andThen_ok, Sem.run_pure]) ?_
    cases ok
    · simpa using hu
    · exact .tup _ [u, .bool r.isSome] (.cons _ _ _ _ hu (.cons _ _ _ _ (.bool _) .nil))
  cases e0 : eval t x' <;> rw [e0] at hes hv <;> simp at hes
  · subst hes
    cases hv' : a.eval x <;> rw [hv'] at hv <;> cases hv
    rw [hv'] at fin
    obtain ⟨r', h1, h2⟩ := hfk [] .nil
    rcases h2 with ⟨rfl, rfl⟩ | ⟨v, j, u, rfl, rfl, hvu⟩
    · exact fin zc false (by simp [Go.Instr.lookup, run_underlying hT, hchk, h1, hzc]) (hzv ρ) rfl
    · exact fin u true (by simp [Go.Instr.lookup, run_underlying hT, hchk, h1]) hvu rfl
  · rename_i id
    split at hes <;> try (cases hes; done)
    rename_i es' hg
    cases hes
    cases hv' : a.eval x <;> rw [hv'] at hv <;> cases hv
    rename_i b o' tot hρ
    obtain ⟨cs, clock, h3, h4, h5⟩ := map_get hr hg hρ
    rw [hv'] at fin
    obtain ⟨r', h1, h2⟩ := hfk cs.toList h4
    rcases h2 with ⟨rfl, rfl⟩ | ⟨v, j, u, rfl, rfl, hvu⟩
    · exact fin zc false (by simp [Go.Instr.lookup, run_underlying hT, h5, hchk, h1, hzc]) (hzv ρ) rfl
    · exact fin u true (by simp [Go.Instr.lookup, run_underlying hT, h5, hchk, h1]) hvu rfl

theorem MapRel.append_one : ∀ {l : List (V × V)} {es : List Go.MapEntry}, MapRel E ρ l es → ∀ {k v : V} {e : Go.MapEntry}, VRel E ρ k e.key → VRel E ρ v e.val → MapRel E ρ (l ++ [(k, v)]) (es ++ [e])
  | _, _, .nil, _, _, _, hk, hv => .cons _ _ _ _ _ hk hv .nil
  | _, _, .cons k v e l es h1 h2 h3, _, _, _, hk, hv => .cons _ _ _ _ _ h1 h2 (h3.append_one hk hv)

/-- What setting a key does: at the entry found, or one more. -/
theorem setKey_sound {n : Nat} {d : TypeDesc} (hd : (n = 0 ∧ ∃ k, d = .int k) ∨ (n = 1 ∧ d = .string) ∨ (n = 2 ∧ d = .bool)) {k v : V} {c u : Value} (ht : tagOf k = n) (hk : VRel E ρ k c) (hu : VRel E ρ v u) :
    ∀ {l l' : List (V × V)} {es : List Go.MapEntry} (i : Nat), setKey k v l = some l' → MapRel E ρ l es →
      (Go.Instr.findNow d c es i = some none ∧ l' = l ++ [(k, v)]) ∨
      (∃ j q, Go.Instr.findNow d c es i = some (some (i + j, q)) ∧ j < es.length ∧ (∀ e, es[j]? = some e → Go.Instr.sameNow d c e.key = some true) ∧ MapRel E ρ l' (es.modify j fun e => { e with key := c, val := u })) := by
  intro l
  induction l with
  | nil => intro l' es i h hm; cases hm; simp [setKey] at h; subst h; exact .inl ⟨rfl, rfl⟩
  | cons x l ih =>
    intro l' es i h hm
    cases hm
    rename_i k' v' e es hk' hv' hm
    unfold setKey at h
    split at h <;> try (cases h; done)
    · rename_i hs
      cases h
      have := sameKey_sound hd ht hs hk hk'
      exact .inr ⟨0, e.val, by simp [Go.Instr.findNow, this], by simp, by intro e' he; simp at he; subst he; exact this, by simpa using MapRel.cons _ _ _ _ _ (by exact hk) (by exact hu) hm⟩
    · rename_i hs
      split at h <;> try (cases h; done)
      rename_i r hr
      cases h
      have := sameKey_sound hd ht hs hk hk'
      rcases ih (i + 1) hr hm with ⟨h1, rfl⟩ | ⟨j, q, h1, h2, h3, h4⟩
      · exact .inl ⟨by simp [Go.Instr.findNow, this, h1], rfl⟩
      · refine .inr ⟨j + 1, q, ?_, by simp; omega, by intro e' he; simp at he; exact h3 e' he, ?_⟩
        · simp [Go.Instr.findNow, this, h1]; omega
        · simpa using MapRel.cons _ _ _ _ _ hk' hv' h4

theorem sameNow_bits {n : Nat} {d : TypeDesc} {c c' : Value} (hd : (n = 0 ∧ ∃ k, d = .int k) ∨ (n = 1 ∧ d = .string) ∨ (n = 2 ∧ d = .bool)) (h : Go.Instr.sameNow d c c' = some true) : c' = c := by
  rcases hd with ⟨_, k, rfl⟩ | ⟨_, rfl⟩ | ⟨_, rfl⟩
  · cases c <;> cases c' <;> simp [Go.Instr.sameNow] at h
    obtain ⟨rfl, rfl⟩ := h; rfl
  · cases c <;> cases c' <;> simp [Go.Instr.sameNow] at h
    rename_i s s'
    rw [Go.beq_toListBytes, Go.ByteArray.toList_eq, Go.ByteArray.toList_eq] at h
    have h1 : s.data.toList = s'.data.toList := by simpa using h
    rw [ByteArray.ext (Array.ext' h1)]
  · cases c <;> cases c' <;> simp [Go.Instr.sameNow] at h
    rw [h]

theorem keyStays {n : Nat} {d : TypeDesc} {c c' : Value} (hd : (n = 0 ∧ ∃ k, d = .int k) ∨ (n = 1 ∧ d = .string) ∨ (n = 2 ∧ d = .bool)) (h : Go.Instr.sameNow d c c' = some true) (hc : ∀ cs, c ≠ .agg cs) :
    (Go.Instr.keyThatStays c' c).run E.P w = .ok c w := by
  have e := sameNow_bits hd h
  subst e
  have : Go.Instr.sameBits 10000 c' c' = true := by
    rcases hd with ⟨_, k, rfl⟩ | ⟨_, rfl⟩ | ⟨_, rfl⟩ <;> cases c' <;> simp [Go.Instr.sameNow] at h
    · rw [Go.Instr.sameBits.eq_def]; simp
    · rw [Go.Instr.sameBits.eq_def]; simp [Go.beq_toListBytes]
    · rw [Go.Instr.sameBits.eq_def]; simp
  simp [Go.Instr.keyThatStays, this]

theorem ok_mupd (hC : CfgOk E C) (ht : VRels E ρ t a.tmps.toList) (hr : Rel E ρ H.get H.next w) {o : Oper} {nid : Nat} {T : TypeId} {x k y : Operand} {io : IOp} (ho : o.op = .mapUpdate T x k y) (hx : trOp? E (.mapUpdate T x k y) = some io)
    {v : V} {H' : Heap} {cf : CallF} (h : iop cf C nid io t H = some (v, H')) : Ok E ρ H w a o nid v H' := by
  simp only [trOp?] at hx
  split at hx <;> try (cases hx; done)
  rename_i kt e x' k' y' hT hx' hk' hy'
  simp only [Option.map_eq_some_iff] at hx
  obtain ⟨tag, htag, rfl⟩ := hx
  have hv := eval_sound hC ht hx'
  have hw := eval_sound hC ht hk'
  have hy := eval_sound hC ht hy'
  obtain ⟨d, hd, hkd⟩ := keyTag_inv htag
  simp only [iop] at h
  split at h <;> try (cases h; done)
  rename_i htg
  have htg : tagOf (eval t k') = tag := Decidable.not_not.1 htg
  cases e0 : eval t x' <;> rw [e0] at h hv <;> simp at h
  rename_i id
  split at h <;> try (cases h; done)
  rename_i es hg
  split at h <;> try (cases h; done)
  rename_i es' hset
  simp at h; obtain ⟨rfl, rfl⟩ := h
  cases hv' : a.eval x <;> rw [hv'] at hv <;> cases hv
  rename_i b o' tot hρ
  obtain ⟨cs, clock, h3, h4, h5⟩ := map_get hr hg hρ
  have hchk := checkKey_run (w := w) htag false (a.eval k)
  have hid := hr.id_lt hg
  have hset' : ∀ (es2 : Array Go.MapEntry) (cl : Nat), (Go.setObj b (.map es2 cl)).run E.P w = .ok () { w with heap := w.heap.setIfInBounds b (.map es2 cl) } := by
    intro es2 cl; simp [Go.setObj, Sem.run, h3]
  have hbs : b < w.heap.size := hr.lt hg hρ
  have post : ∀ (es2 : Array Go.MapEntry) (cl : Nat), MapRel E ρ es' es2.toList →
      Post E (· = nid) ρ H.get H.next w ρ (H.put id (.map es')).get (H.put id (.map es')).next { w with heap := w.heap.setIfInBounds b (.map es2 cl) } := by
    intro es2 cl hm
    rw [Heap.put_get, show (H.put id (.map es')).next = H.next from by rw [Heap.next_put, if_pos hid]]
    refine Post.write (o' := .map es') hr hg hρ (.map es2 cl) ⟨es2, cl, rfl, hm⟩ _ ⟨rfl, rfl, rfl⟩ (by simp) ?_ ?_ hid
    · simp [hbs]
    · intro k hk; simp only [Array.getElem?_setIfInBounds]; rw [if_neg (fun h => hk h.symm)]
  rcases setKey_sound hkd htg hw hy 0 hset h4 with ⟨h1, rfl⟩ | ⟨j, q, h1, h2, h6, h7⟩
  · refine ⟨Go.undef, _, ρ, .inr ⟨?_, rfl⟩, .undef, post (cs.push { key := a.eval k, val := a.eval y, born := clock }) (clock + 1) (by simpa using h4.append_one (e := { key := a.eval k, val := a.eval y, born := clock }) hw hy)⟩
    simp [Go.execOp, ho, hv', Go.Instr.mapUpdate, run_underlying hT, h5, hchk, Go.Instr.findKey, run_underlying hd, h1, hset']
  · refine ⟨Go.undef, _, ρ, .inr ⟨?_, rfl⟩, .undef, post (cs.modify j fun e => { e with key := a.eval k, val := a.eval y }) clock (by simpa using h7)⟩
    have hnagg : ∀ c, a.eval k ≠ .agg c := by
      intro c hc
      rw [hc] at hw
      cases e9 : eval t k' <;> rw [e9] at hw htg <;> cases hw
      simp [tagOf] at htg
      rcases hkd with ⟨e, _⟩ | ⟨e, _⟩ | ⟨e, _⟩ <;> omega
    have hj : cs[j]? = some (cs[j]'(by simpa using h2)) := Array.getElem?_eq_getElem _
    have hkey := keyStays (E := E) (w := w) hkd (h6 (cs[j]'(by simpa using h2)) (by rw [Array.getElem?_toList]; exact hj)) hnagg
    simp at h1
    simp [Go.execOp, ho, hv', Go.Instr.mapUpdate, run_underlying hT, h5, hchk, Go.Instr.findKey, run_underlying hd, h1, hj, hkey, hset']

end
end Im
