/- How ideal values and the ideal heap stand to the model's: 'VRel', 'Rel'; that a longer renaming keeps both. -/
import Derived.Test.YthhkfcnmbpnmkaaImB
import Derived.RangeFuncLeaves
import Derived.Below
namespace Im
open Go (IntKind BinOp UnOp Program World Value Addr TypeId FuncId Code Oper Operand)
open Go.RowKit (Below)

/-- A renaming: an object's number to its block, the cell at which it begins, and how many cells it may have. -/
abbrev Ren := Nat → Option (Nat × Nat × Nat)

/-- What belongs to one program: its functions', types' and variables' numbers to those of the ideal code; the world in which the run began. -/
structure Env where
  P : Program
  fm : FuncId → Option Nat
  tm : TypeId → Nat
  gm : Nat → Option Nat
  w0 : World

def ARel (E : Env) (ρ : Ren) (a : PA) (c : Addr) : Prop :=
  match a.r with
  | .own => ∃ b o tot, ρ a.b = some (b, o, tot) ∧ c = ⟨b, o + a.off, none⟩
  | .st => a.b < E.w0.heap.size ∧ c = ⟨a.b, a.off, none⟩
  | .gl => ∃ g, E.gm g = some a.b ∧ g < E.w0.heap.size ∧ c = ⟨g, a.off, none⟩

def CRel (ρ : Ren) (a : PA) (len : Nat) (cap : Cap) (n : Nat) : Prop :=
  match cap with
  | .ex m => n = m
  | .un e => a.r = .own ∧ ∃ b o tot, ρ a.b = some (b, o, tot) ∧ a.off + n * e = tot ∧ len ≤ n

mutual
inductive VRel (E : Env) (ρ : Ren) : V → Value → Prop where
  | int (k : IntKind) (n : Int) : VRel E ρ (.int k n) (.int k n)
  | bool (b : Bool) : VRel E ρ (.bool b) (.bool b)
  | str (s : List UInt8) : VRel E ρ (.str s) (.string ⟨s.toArray⟩)
  | nilp : VRel E ρ .nilp (.pointer none)
  | ptr (a : PA) (c : Addr) (h : ARel E ρ a c) : VRel E ρ (.ptr a) (.pointer (some c))
  | nils : VRel E ρ .nils (.slice none 0 0)
  | slice (a : PA) (c : Addr) (len : Nat) (cap : Cap) (n : Nat) (h : ARel E ρ a c) (hc : CRel ρ a len cap n) : VRel E ρ (.slice a len cap) (.slice (some c) len n)
  | nilm : VRel E ρ .nilm (.map none)
  | map (id b o tot : Nat) (h : ρ id = some (b, o, tot)) : VRel E ρ (.map id) (.map (some b))
  | nilf : VRel E ρ .nilf .nilFunc
  | fn (f : Nat) (f' : FuncId) (p q : List V) (p' q' : List Value) (h : E.fm f' = some f) (hp : VRels E ρ p p') (hq : VRels E ρ q q') :
      VRel E ρ (.fn f p q) (.func (.func f') p'.toArray q'.toArray)
  | yld (l b o tot : Nat) (h : ρ l = some (b, o, tot)) : VRel E ρ (.yld l) (.func (.yield b) #[] #[])
  | nili : VRel E ρ .nili .nilIface
  | iface (t : TypeId) (v : V) (c : Value) (h : VRel E ρ v c) : VRel E ρ (.iface (E.tm t) v) (.iface t c)
  | agg (l : List V) (l' : List Value) (h : VRels E ρ l l') : VRel E ρ (.agg l) (.agg l'.toArray)
  | tup (l : List V) (l' : List Value) (h : VRels E ρ l l') : VRel E ρ (.tup l) (.tuple l'.toArray)
inductive VRels (E : Env) (ρ : Ren) : List V → List Value → Prop where
  | nil : VRels E ρ [] []
  | cons (v : V) (c : Value) (l : List V) (l' : List Value) (h : VRel E ρ v c) (hl : VRels E ρ l l') : VRels E ρ (v :: l) (c :: l')
end

/-- A renaming that says all that ρ says. -/
def Ext (ρ ρ' : Ren) : Prop := ∀ id x, ρ id = some x → ρ' id = some x

theorem Ext.refl (ρ : Ren) : Ext ρ ρ := fun _ _ h => h
theorem Ext.trans {a b c : Ren} (h : Ext a b) (k : Ext b c) : Ext a c := fun id x hx => k id x (h id x hx)

theorem ARel.ext {E : Env} {ρ ρ' : Ren} (h : Ext ρ ρ') {a : PA} {c : Addr} (k : ARel E ρ a c) : ARel E ρ' a c := by
  unfold ARel at *
  cases hr : a.r <;> rw [hr] at k <;> simp only at k ⊢
  · obtain ⟨b, o, tot, h1, h2⟩ := k; exact ⟨b, o, tot, h _ _ h1, h2⟩
  · exact k
  · exact k

theorem CRel.ext {ρ ρ' : Ren} (h : Ext ρ ρ') {a : PA} {len : Nat} {cap : Cap} {n : Nat} (k : CRel ρ a len cap n) : CRel ρ' a len cap n := by
  unfold CRel at *
  cases cap
  · exact k
  · obtain ⟨h0, b, o, tot, h1, h2⟩ := k; exact ⟨h0, b, o, tot, h _ _ h1, h2⟩

mutual
theorem VRel.ext {E : Env} {ρ ρ' : Ren} (h : Ext ρ ρ') : ∀ {v : V} {c : Value}, VRel E ρ v c → VRel E ρ' v c
  | _, _, .int k n => .int k n
  | _, _, .bool b => .bool b
  | _, _, .str s => .str s
  | _, _, .nilp => .nilp
  | _, _, .ptr a c k => .ptr a c (k.ext h)
  | _, _, .nils => .nils
  | _, _, .slice a c len cap n k kc => .slice a c len cap n (k.ext h) (kc.ext h)
  | _, _, .nilm => .nilm
  | _, _, .map id b o tot k => .map id b o tot (h _ _ k)
  | _, _, .nilf => .nilf
  | _, _, .fn f f' p q p' q' k hp hq => .fn f f' p q p' q' k (VRels.ext h hp) (VRels.ext h hq)
  | _, _, .yld l b o tot k => .yld l b o tot (h _ _ k)
  | _, _, .nili => .nili
  | _, _, .iface t v c k => .iface t v c (VRel.ext h k)
  | _, _, .agg l l' k => .agg l l' (VRels.ext h k)
  | _, _, .tup l l' k => .tup l l' (VRels.ext h k)
theorem VRels.ext {E : Env} {ρ ρ' : Ren} (h : Ext ρ ρ') : ∀ {l : List V} {l' : List Value}, VRels E ρ l l' → VRels E ρ' l l'
  | _, _, .nil => .nil
  | _, _, .cons v c l l' k kl => .cons v c l l' (VRel.ext h k) (VRels.ext h kl)
end

section
variable {E : Env} {ρ : Ren}

theorem VRels.length : ∀ {l : List V} {l' : List Value}, VRels E ρ l l' → l.length = l'.length
  | _, _, .nil => rfl
  | _, _, .cons _ _ _ _ _ kl => by simp [VRels.length kl]

theorem VRels.get : ∀ {l : List V} {l' : List Value}, VRels E ρ l l' → ∀ (i : Nat) (v : V), l[i]? = some v → ∃ c, l'[i]? = some c ∧ VRel E ρ v c
  | _, _, .nil, i, v, h => by simp at h
  | _, _, .cons v c l l' k kl, 0, u, h => by simp at h; exact ⟨c, by simp, h ▸ k⟩
  | _, _, .cons v c l l' k kl, i + 1, u, h => by simp at h; obtain ⟨x, h1, h2⟩ := VRels.get kl i u h; exact ⟨x, by simpa using h1, h2⟩

theorem VRels.get' : ∀ {l : List V} {l' : List Value}, VRels E ρ l l' → ∀ (i : Nat) (c : Value), l'[i]? = some c → ∃ v, l[i]? = some v ∧ VRel E ρ v c
  | _, _, .nil, i, v, h => by simp at h
  | _, _, .cons v c l l' k kl, 0, u, h => by simp at h; exact ⟨v, by simp, h ▸ k⟩
  | _, _, .cons v c l l' k kl, i + 1, u, h => by simp at h; obtain ⟨x, h1, h2⟩ := VRels.get' kl i u h; exact ⟨x, by simpa using h1, h2⟩

theorem VRels.append : ∀ {l : List V} {l' : List Value} {m : List V} {m' : List Value}, VRels E ρ l l' → VRels E ρ m m' → VRels E ρ (l ++ m) (l' ++ m')
  | _, _, _, _, .nil, h => h
  | _, _, _, _, .cons v c l l' k kl, h => .cons v c _ _ k (VRels.append kl h)

theorem VRels.set : ∀ {l : List V} {l' : List Value}, VRels E ρ l l' → ∀ (i : Nat) {v : V} {c : Value}, VRel E ρ v c → VRels E ρ (l.set i v) (l'.set i c)
  | _, _, .nil, i, _, _, _ => .nil
  | _, _, .cons v c l l' k kl, 0, _, _, h => .cons _ _ _ _ h kl
  | _, _, .cons v c l l' k kl, i + 1, _, _, h => .cons v c _ _ k (VRels.set kl i h)

theorem VRels.drop : ∀ {l : List V} {l' : List Value}, VRels E ρ l l' → ∀ (i : Nat), VRels E ρ (l.drop i) (l'.drop i)
  | _, _, .nil, i => by simp; exact .nil
  | _, _, .cons v c l l' k kl, 0 => .cons v c l l' k kl
  | _, _, .cons v c l l' k kl, i + 1 => VRels.drop kl i

theorem VRels.take : ∀ {l : List V} {l' : List Value}, VRels E ρ l l' → ∀ (i : Nat), VRels E ρ (l.take i) (l'.take i)
  | _, _, .nil, i => by simp; exact .nil
  | _, _, .cons v c l l' k kl, 0 => .nil
  | _, _, .cons v c l l' k kl, i + 1 => .cons v c _ _ k (VRels.take kl i)

theorem VRels.replicate {v : V} {c : Value} (h : VRel E ρ v c) : ∀ (n : Nat), VRels E ρ (List.replicate n v) (List.replicate n c)
  | 0 => .nil
  | n + 1 => .cons v c _ _ h (VRels.replicate h n)

theorem VRels.of_get : ∀ {l : List V} {l' : List Value}, l.length = l'.length → (∀ (i : Nat) (v : V), l[i]? = some v → ∃ c, l'[i]? = some c ∧ VRel E ρ v c) → VRels E ρ l l'
  | [], [], _, _ => .nil
  | [], _ :: _, h, _ => by simp at h
  | _ :: _, [], h, _ => by simp at h
  | v :: l, c :: l', h, hg => by
    obtain ⟨c', h1, h2⟩ := hg 0 v (by simp)
    simp at h1
    refine .cons v c l l' (h1 ▸ h2) (VRels.of_get (by simpa using h) fun i u hu => ?_)
    obtain ⟨x, h3, h4⟩ := hg (i + 1) u (by simpa using hu)
    exact ⟨x, by simpa using h3, h4⟩

theorem VRel.undef : VRel E ρ .undef Go.undef := .tup [] [] .nil

/-- The cells of what is related. -/
theorem VRel.cells {v : V} {c : Value} (h : VRel E ρ v c) : VRels E ρ v.cells c.cells.toList := by
  cases h <;> simp only [V.cells, Value.cells] <;> first | assumption | exact .cons _ _ _ _ (by first | exact .int _ _ | exact .bool _ | exact .str _ | exact .nilp | exact .ptr _ _ (by assumption) | exact .nils | exact .slice _ _ _ _ _ (by assumption) (by assumption) | exact .nilm | exact .map _ _ _ _ (by assumption) | exact .nilf | exact .fn _ _ _ _ _ _ (by assumption) (by assumption) (by assumption) | exact .yld _ _ _ _ (by assumption) | exact .nili | exact .iface _ _ _ (by assumption) | exact .tup _ _ (by assumption)) .nil

theorem VRel.one {v : V} {c : Value} (h : VRel E ρ v c) (h1 : v.one = true) : (∀ cs, c ≠ .agg cs) ∧ (∀ cs, c ≠ .tuple cs) := by
  cases h <;> simp [V.one] at h1 ⊢
end

/-! ## Code -/

/-- A scalar constant. -/
def trV1 : Value → Option V
  | .int k n => some (.int k n)
  | .bool b => some (.bool b)
  | .string s => some (.str s.data.toList)
  | .pointer none => some .nilp
  | .slice none 0 0 => some .nils
  | .map none => some .nilm
  | .nilFunc => some .nilf
  | .nilIface => some .nili
  | _ => none

def trVs : List Value → Option (List V)
  | [] => some []
  | c :: cs => match trV1 c, trVs cs with
    | some v, some l => some (v :: l)
    | _, _ => none

def trV : Value → Option V
  | .agg cs => (trVs cs.toList).map .agg
  | .tuple cs => (trVs cs.toList).map .tup
  | c => trV1 c

theorem trV1_rel {E : Env} {ρ : Ren} : ∀ {c : Value} {v : V}, trV1 c = some v → VRel E ρ v c := by
  intro c v h
  unfold trV1 at h
  split at h <;> simp at h <;> subst h
  · exact .int _ _
  · exact .bool _
  · rename_i s; have : s = ⟨s.data.toList.toArray⟩ := by simp
    rw [this]; exact .str _
  · exact .nilp
  · exact .nils
  · exact .nilm
  · exact .nilf
  · exact .nili

theorem trVs_rel {E : Env} {ρ : Ren} : ∀ {cs : List Value} {l : List V}, trVs cs = some l → VRels E ρ l cs := by
  intro cs
  induction cs with
  | nil => intro l h; simp [trVs] at h; subst h; exact .nil
  | cons c cs ih =>
    intro l h
    unfold trVs at h
    split at h <;> simp at h
    subst h
    exact .cons _ _ _ _ (trV1_rel (by assumption)) (ih (by assumption))

theorem trV_rel {E : Env} {ρ : Ren} {c : Value} {v : V} (h : trV c = some v) : VRel E ρ v c := by
  unfold trV at h
  split at h
  · rename_i cs
    cases hc : trVs cs.toList with
    | none => simp [hc] at h
    | some l =>
      simp [hc] at h; subst h
      have : cs = cs.toList.toArray := by simp
      rw [this]; exact .agg _ _ (trVs_rel hc)
  · rename_i cs
    cases hc : trVs cs.toList with
    | none => simp [hc] at h
    | some l =>
      simp [hc] at h; subst h
      have : cs = cs.toList.toArray := by simp
      rw [this]; exact .tup _ _ (trVs_rel hc)
  · exact trV1_rel h

end Im
