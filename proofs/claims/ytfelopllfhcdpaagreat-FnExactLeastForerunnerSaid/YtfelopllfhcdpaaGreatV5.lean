/- The walk as a function; that it is sound. -/
import Derived.Test.YtfelopllfhcdpaaGreatVM
set_option linter.all false
namespace Go.Proofs.YtfelopllfhcdpaaGreat.V

def callee : SV → Option (Nat × (List SV → List SV))
  | .fn f m G n F => some (f, fun xs => lst m G ++ xs ++ lst n F)
  | _ => none

/-- A conversion between kinds of integers, or another one. -/
def cvK (s d : TK) (A B : Prop) : Prop :=
  match s, d with
  | .int _, .int _ => A
  | _, _ => B
/-- The types of a composite's parts are known. -/
def knL (ti : Nat → TI) : List (Nat × Nat) → Prop
  | [] => True
  | (_, t) :: r => (match (ti t).k with | .oth => False | _ => True) ∧ knL ti r
@[go_sem] theorem knL_nil (ti : Nat → TI) : knL ti [] = True := rfl
@[go_sem] theorem knL_cons (ti : Nat → TI) (o t : Nat) (r : List (Nat × Nat)) : knL ti ((o, t) :: r) = ((match (ti t).k with | .oth => False | _ => True) ∧ knL ti r) := rfl
def knK (ti : Nat → TI) : TK → Prop
  | .st fs => knL ti fs
  | .arr _ e => match (ti e).k with | .oth => False | _ => True
  | _ => False
@[go_sem] theorem knK_st (ti : Nat → TI) (fs : List (Nat × Nat)) : knK ti (.st fs) = knL ti fs := rfl
@[go_sem] theorem knK_arr (ti : Nat → TI) (m e : Nat) : knK ti (.arr m e) = (match (ti e).k with | .oth => False | _ => True) := rfl
def isPv : Op → Bool
  | .move _ | .assign _ | .pick .. | .load .. | .nilCheck _ | .unOp .. | .makeFunc .. | .fieldAddr .. | .field .. | .indexAddr .. | .index .. | .extract .. | .binOp .. => true
  | .slice _ _ _ _ none => true
  | .call ⟨.builtin .len, _, _⟩ | .call ⟨.builtin .min, _, _⟩ | .call ⟨.builtin .max, _, _⟩ => true
  | _ => false

section
variable (P : Program) (ti : Nat → TI) (cx : Cx) (Q : List (Nat × SV) → List (Nat × Seg) → Nat → Prop)

/-- Function f can be entered. -/
def Runs (f : Nat) : Prop := ∀ args w, (callFunc f args).run P w = .ok (.enter f args) w

/-- A call: what its callee leaves, the rest is shown of. -/
def CallE (f : Nat) (args : List SV) (h : List (Nat × Seg)) (n : Nat) (K : HK) : Prop :=
  Runs P f ∧ oks args ∧ ∀ ρ w, SatH cx ρ h n w → (∀ v ∈ args, v.lt n) → Calls P f (args.map (den ρ)).toArray w fun e w' =>
    ∃ ρ' r h' n', (∀ i, i < n → ρ i = ρ' i) ∧ n ≤ n' ∧ e = .returned (den ρ' r) ∧ r.lt n' ∧ SatH cx ρ' h' n' w' ∧ K r h' n'
/-- A quiet call: one value, old memory as it was. -/
def CallQ (f : Nat) (args : List SV) (h : List (Nat × Seg)) (n : Nat) (r : SV) : Prop :=
  Runs P f ∧ oks args ∧ r.lt n ∧ ∀ ρ w, SatH cx ρ h n w → (∀ v ∈ args, v.lt n) → Calls P f (args.map (den ρ)).toArray w fun e w' => e = .returned (den ρ r) ∧ SatH cx ρ h n w'

/-- One state is one of the other's. -/
def Imp (l : List (Nat × SV)) (h : List (Nat × Seg)) (n : Nat) (l' : List (Nat × SV)) (h' : List (Nat × Seg)) (n' : Nat) : Prop :=
  ∀ ρ a w, SatT cx ρ l n a → SatH cx ρ h n w → cx.n0 ≤ n → ∃ ρ', (∀ i, i < cx.n0 → ρ i = ρ' i) ∧ SatT cx ρ' l' n' a ∧ SatH cx ρ' h' n' w ∧ cx.n0 ≤ n'

/-- A region that draws its order, by the kit's own rule. -/
def RegSem (id : Nat) (ops : Array Oper) (l : List (Nat × SV)) (h : List (Nat × Seg)) (n : Nat) (K : List (Nat × SV) → List (Nat × Seg) → Nat → Prop) : Prop :=
  ∀ ρ a w, SatT cx ρ l n a → SatH cx ρ h n w → cx.n0 ≤ n → (Code.region id ops true).wp P (fun e a' w' => match e with | .normal => Some3 cx ρ K a' w' | _ => False) a w

/-- A call of a Go function. -/
def callK (q : Bool) (f : SV) (xs : List SV) (h : List (Nat × Seg)) (n : Nat) (K : HK) : Prop :=
  match callee f with
  | some (f, g) => if q then ∃ r, CallQ P cx f (g xs) h n r ∧ K r h n else CallE P cx f (g xs) h n K
  | none => False

def T (todo : List It) (l : List (Nat × SV)) (h : List (Nat × Seg)) (n : Nat) : Prop :=
  match todo with
  | [] => Q l h n
  | .code .ret :: _ => Q l h n
  | .code .skip :: k => T k l h n
  | .code (.seq x y) :: k => T (.code x :: .code y :: k) l h n
  | .code (.cond c x y) :: k => condK (ev l c) (T (.code x :: k) l h n) (T (.code y :: k) l h n)
  | .code (.block id x) :: k => T (.code x :: .inBlock id :: k) l h n
  | .code (.exit id) :: k => hasBl id k ∧ T (popTo id k) l h n
  | .code (.loop x) :: k => ∃ (ι : Type) (I : ι → List (Nat × SV) × List (Nat × Seg) × Nat) (μ : ι → Nat) (x0 : ι), Imp cx l h n (I x0).1 (I x0).2.1 (I x0).2.2 ∧
      ∀ i, T (.code x :: .inv (fun l' h' n' => ∃ j, μ j < μ i ∧ Imp cx l' h' n' (I j).1 (I j).2.1 (I j).2.2) :: k) (I i).1 (I i).2.1 (I i).2.2
  | .code (.region _ ops false) :: k => T (.ops false ops.toList ops.toList :: k) l h n
  | .code (.region id ops true) :: k => RegSem P cx id ops l h n fun l' h' n' => T k l' h' n'
  | .inBlock _ :: k => T k l h n
  | .inv R :: _ => R l h n
  | .ops _ _ [] :: k => T k l h n
  | .ops q all (o :: rest) :: k =>
    let exec (l : List (Nat × SV)) : Prop :=
      dok cx.nt o.dst ∧ match o.op with
      | .alloc t => q = false ∧ newK (match (ti t).k with | .oth => False | _ => True) n ⟨(ti t).sz, (ti t).z, true, ownA t (ti t)⟩ h fun v h' n' => T (.ops q all rest :: k) (put l o.dst v) h' n'
      | .box _ x => q = false ∧ newK (ev l x).okc n ⟨(ev l x).size, cellsV (ev l x), true, none⟩ h fun v h' n' => T (.ops q all rest :: k) (put l o.dst v) h' n'
      | .store t x v => q = false ∧ (match (ti t).k with | .oth => False | _ => True) ∧ (∀ j, j < (ev l v).size → (cellsV (ev l v) j).one) ∧ storeK (ev l x) (ev l v) (ti t).sz h fun h' => o.dst = none ∧ T (.ops q all rest :: k) l h' n
      | .build t parts => bindK ⟨knK ti (ti t).k ∧ fillP (plOf ti (ti t).k) (ti t).sz (evp l parts.toList), mkAgg (ti t).sz (fillC (plOf ti (ti t).k) (evp l parts.toList) (ti t).z)⟩ fun v => T (.ops q all rest :: k) (put l o.dst v) h n
      | .call ⟨.value f, xs, _⟩ => callK P cx q (ev l f) (evs l xs.toList) h n fun r h' n' => T (.ops q all rest :: k) (put l o.dst r) h' n'
      | .convert s t x => cvK (ti s).k (ti t).k (bindK (pv ti l h (.convert s t x)) fun v => T (.ops q all rest :: k) (put l o.dst v) h n) (q = false ∧ OpSem P cx o l h n fun l' h' n' => T (.ops q all rest :: k) l' h' n')
      | op => if isPv op then bindK (pv ti l h op) fun v => T (.ops q all rest :: k) (put l o.dst v) h n else (q = false ∧ memK P ti cx o l h n fun l' h' n' => T (.ops q all rest :: k) l' h' n')
    match o.guard with
    | none => exec l
    | some (j, want) => match gslot all j with
      | some t => guardK (ev l (.tmp t)) want (exec ((t, .bool want) :: l)) (dok cx.nt o.dst ∧ T (.ops q all rest :: k) (put ((t, .bool (!want)) :: l) o.dst (.raw undef)) h n) (dok cx.nt o.dst ∧ T (.ops q all rest :: k) (put l o.dst (.raw undef)) h n)
      | none => False
  | _ => False
termination_by tsize todo
decreasing_by
  all_goals (try simp only [tsize, isize, csize, List.length_cons])
  all_goals try omega
  all_goals try (have := csize_pos ‹Code›; omega)
  · have := popTo_size id k; omega
  · rw [Array.length_toList]; omega

end
end Go.Proofs.YtfelopllfhcdpaaGreat.V
