/- The machine lays no object under a number that has been given out ('icall_mono'). -/
import Derived.Test.YthhkfcnmbpnmkaaImW
namespace Im
open Go (IntKind BinOp UnOp)

theorem Mono.cat {a b c : Heap} (h : Mono a.next a b) (k : Mono b.next b c) : Mono a.next a c := h.trans k.any

theorem puts_lt (base : Nat) (A : Heap) {id : Nat} (h : id < base) : ∀ P : List (Nat × Obj), (puts base A P).get id = A.get id
  | [] => rfl
  | (i, o) :: r => by simp only [puts]; rw [Heap.get_put_ne _ _ (by omega), puts_lt base A h r]

section
variable {cf : CallF} (hcf : CfMono cf) {C : Cfg}
include hcf

theorem istep_mono {nid : Nat} {o : IOper} {t t' : List V} {H H' : Heap} (h : istep cf C nid o t H = some (t', H')) : Mono nid H H' := by
  unfold istep at h
  split at h
  · split at h <;> try (cases h; done)
    rename_i h1
    cases h
    exact iop_mono hcf h1
  · cases h; exact .refl _

theorem iops_mono : ∀ (l : List IOper) (t : List V) (H : Heap) (t' : List V) (H' : Heap), iops cf C l t H = some (t', H') → Mono H.next H H'
  | [], t, H, t', H', h => by simp only [iops] at h; cases h; exact .refl _
  | o :: l, t, H, t', H', h => by
    simp only [iops] at h
    split at h <;> try (cases h; done)
    rename_i h1
    exact (istep_mono hcf h1).cat (iops_mono l _ _ _ _ h)

theorem drun_mono {base : Nat} {mats : List (Nat × List Nat)} : ∀ (os : List IOper) (i : Nat) (t : List V) (A : Heap) (pend : List (Nat × Obj)) (rs : List Rec) (t' : List V) (H' : Heap), drun cf C base mats os i t A pend = some (rs, t', H') →
    base ≤ A.next → A.next ≤ H'.next ∧ ∀ id, id < base → A.get id = none → H'.get id = none
  | [], i, t, A, pend, rs, t', H', h, hb => by
    simp only [drun] at h; cases h
    exact ⟨puts_next _ _ _, fun id h1 h2 => by rw [puts_lt _ _ h1]; exact h2⟩
  | o :: os, i, t, A, pend, rs, t', H', h, hb => by
    simp only [drun] at h
    split at h <;> try (cases h; done)
    rename_i r t1 A1 pend1 h1
    split at h <;> try (cases h; done)
    rename_i rs2 t2 H2 h2
    cases h
    have step : A.next ≤ A1.next ∧ ∀ id, id < base → A.get id = none → A1.get id = none := by
      obtain ⟨-, -, -, -, -, h3⟩ := dstep_cases h1
      rcases h3 with ⟨_, _, h4, _⟩ | ⟨_, _, _, h4, _⟩ | ⟨_, _, _, h4⟩ | ⟨_, _, h4, _⟩
      · rw [h4]; exact ⟨Nat.le_refl _, fun _ _ h => h⟩
      · rw [h4]; exact ⟨Nat.le_refl _, fun _ _ h => h⟩
      · rw [h4]; exact ⟨Nat.le_refl _, fun _ _ h => h⟩
      · have h5 := iop_mono hcf h4
        have h6 := puts_next base A (pend.filter fun p => (matOf mats i).contains p.1)
        exact ⟨Nat.le_trans h6 h5.next, fun id k1 k2 => h5.none id (by omega) (by omega) (by rw [puts_lt _ _ k1]; exact k2)⟩
    obtain ⟨k1, k2⟩ := drun_mono os (i + 1) t1 A1 pend1 rs2 _ _ h2 (by omega)
    exact ⟨by omega, fun id q1 q2 => k2 id q1 (step.2 id q1 q2)⟩

theorem iregD_mono {os : List IOper} {mats : List (Nat × List Nat)} {prs : List (Nat × Nat)} {t t' : List V} {H H' : Heap} (h : iregD cf C os mats prs t H = some (t', H')) : Mono H.next H H' := by
  unfold iregD at h
  split at h <;> try (cases h; done)
  rename_i rs t1 H1 h1
  split at h <;> try (cases h; done)
  cases h
  obtain ⟨k1, k2⟩ := drun_mono hcf os 0 t (H.bump os.length) [] rs _ _ h1 (by simp [Heap.bump])
  exact ⟨by simp [Heap.bump] at k1; omega, fun id h1 _ h3 => k2 id h1 h3⟩

omit hcf in
theorem Mono.mark {H H1 : Heap} {ro : Option Nat} {r0 : Nat} {m : List Nat} (h : markOf ro H = some (H1, r0, m)) : Mono H.next H H1 := by
  unfold markOf at h
  split at h
  · cases h; exact .put _ _
  · split at h <;> try (cases h; done)
    cases h; exact .refl _

theorem irng_mono {ro : Option Nat} {f : V} {ps : List Nat} {a b : ICode} {t : List V} {H : Heap} {d : List Nat} {e : IExit} {t' : List V} {H' : Heap} {d' : List Nat} (h : irng cf ro f ps a b t H d = some (e, t', H', d')) : Mono H.next H H' := by
  unfold irng at h
  split at h <;> try (cases h; done)
  rename_i H1 r0 m h1
  simp only at h
  split at h <;> try (cases h; done)
  split at h <;> try (cases h; done)
  rename_i v H3 h2
  split at h <;> try (cases h; done)
  rename_i r h3
  split at h <;> try (cases h; done)
  have k : Mono H.next H H3 := ((Mono.mark h1).cat (Mono.put _ _)).cat (hcf _ _ _ _ _ h2)
  have k2 : ∀ o, Mono H.next H (H3.put H1.next o) := fun o => k.cat (Mono.put_live h3)
  split at h <;> cases h <;> exact k2 _

theorem exec_mono {N : Nat} {ro : Option Nat} : ∀ (c : ICode) (t : List V) (H : Heap) (d : List Nat) (e : IExit) (t' : List V) (H' : Heap) (d' : List Nat), exec cf C N ro c t H d = some (e, t', H', d') → Mono H.next H H' := by
  intro c
  induction c with
  | skip | exit _ | ret => intro t H d e t' H' d' h; simp only [exec] at h; cases h; exact .refl _
  | bad => intro t H d e t' H' d' h; simp only [exec] at h; cases h
  | reg os =>
    intro t H d e t' H' d' h
    simp only [exec] at h
    split at h <;> try (cases h; done)
    rename_i h1
    cases h; exact iops_mono hcf _ _ _ _ _ h1
  | regD os mats prs =>
    intro t H d e t' H' d' h
    simp only [exec] at h
    split at h <;> try (cases h; done)
    rename_i h1
    cases h; exact iregD_mono hcf h1
  | seq a b iha ihb =>
    intro t H d e t' H' d' h
    simp only [exec] at h
    split at h
    · rename_i h1
      exact (iha _ _ _ _ _ _ _ h1).cat (ihb _ _ _ _ _ _ _ h)
    · exact iha _ _ _ _ _ _ _ h
  | cond c a b iha ihb =>
    intro t H d e t' H' d' h
    simp only [exec] at h
    split at h <;> first | (cases h; done) | exact iha _ _ _ _ _ _ _ h | exact ihb _ _ _ _ _ _ _ h
  | block id b ih =>
    intro t H d e t' H' d' h
    simp only [exec] at h
    split at h
    · rename_i h1
      split at h <;> cases h <;> exact ih _ _ _ _ _ _ _ h1
    · exact ih _ _ _ _ _ _ _ h
  | scope b ih =>
    intro t H d e t' H' d' h
    simp only [exec] at h
    exact ih _ _ _ _ _ _ _ h
  | loop b ih =>
    intro t H d e t' H' d' h
    simp only [exec] at h
    have key : ∀ (m : Nat) (t : List V) (H : Heap) (d : List Nat), iter (exec cf C N ro b) m t H d = some (e, t', H', d') → Mono H.next H H' := by
      intro m
      induction m with
      | zero => intro t H d h; simp only [iter] at h; cases h
      | succ m ihm =>
        intro t H d h
        simp only [iter] at h
        split at h
        · rename_i h1
          exact (ih _ _ _ _ _ _ _ h1).cat (ihm _ _ _ h)
        · exact ih _ _ _ _ _ _ _ h
    exact key N t H d h
  | rng f ps a b _ _ =>
    intro t H d e t' H' d' h
    simp only [exec] at h
    exact irng_mono hcf h

omit hcf in
theorem takeMarks_mono : ∀ (l : List Nat) (H H' : Heap), takeMarks l H = some H' → Mono H.next H H'
  | [], H, H', h => by simp only [takeMarks] at h; cases h; exact .refl _
  | r :: l, H, H', h => by
    simp only [takeMarks] at h
    split at h <;> try (cases h; done)
    exact (Mono.del _ _).cat (takeMarks_mono l _ _ h)

theorem ifun_mono {N : Nat} {F : IFun} {args : List V} {H : Heap} {v : V} {H' : Heap} (h : ifun cf C N F args H = some (v, H')) : Mono H.next H H' := by
  unfold ifun at h
  have go : ∀ (x : IExit) t (H1 : Heap) d, exec cf C N none F.body (args ++ List.replicate (F.nt - args.length) .undef) H [] = some (x, t, H1, d) →
      (match takeMarks d H1 with
      | some H'' => match results C F.res t H'' with
        | some v => some (v, H'')
        | none => none
      | none => none) = some (v, H') → Mono H.next H H' := by
    intro x t H1 d h1 h
    split at h <;> try (cases h; done)
    rename_i h2
    split at h <;> try (cases h; done)
    cases h
    exact (exec_mono hcf _ _ _ _ _ _ _ _ h1).cat (takeMarks_mono _ _ _ h2)
  split at h <;> try (cases h; done)
  · rename_i h1; exact go _ _ _ _ h1 h
  · rename_i h1; exact go _ _ _ _ h1 h

theorem irnd_mono {N l : Nat} {args : List V} {H : Heap} {v : V} {H' : Heap} (h : irnd cf C N l args H = some (v, H')) : Mono H.next H H' := by
  unfold irnd at h
  split at h <;> try (cases h; done)
  split at h <;> try (cases h; done)
  split at h <;> try (cases h; done)
  rename_i h1
  split at h <;> try (cases h; done)
  rename_i h2
  split at h <;> try (cases h; done)
  split at h <;> try (cases h; done)
  rename_i h3
  have k := ((exec_mono hcf _ _ _ _ _ _ _ _ h1).cat (Mono.put_live h2)).cat (exec_mono hcf _ _ _ _ _ _ _ _ h3)
  unfold endRnd at h
  split at h <;> try (cases h; done)
  rename_i h4
  split at h <;> cases h <;> exact k.cat (Mono.put_live h4)

end

theorem icall_mono {C : Cfg} (hp : ∀ f p args H v H', C.prim f = some p → p args H = some (v, H') → Mono H.next H H') : ∀ n, CfMono (icall C n)
  | 0 => fun c args H v H' h => by simp only [icall] at h; cases h
  | n + 1 => fun c args H v H' h => by
    simp only [icall] at h
    cases c with
    | fn f =>
      simp only at h
      split at h
      · rename_i p hpf
        exact hp f p args H v H' hpf h
      · split at h <;> try (cases h; done)
        exact ifun_mono (icall_mono hp n) h
    | rnd l => exact irnd_mono (icall_mono hp n) h

end Im
