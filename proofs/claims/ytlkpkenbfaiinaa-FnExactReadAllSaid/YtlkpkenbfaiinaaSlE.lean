/- More rules of the small logic: loops whose relation has several variables, slices, literals, append, copy, make, draws. -/
import Derived.Test.YtlkpkenbfaiinaaSlD
namespace Go.Sl

section
variable {c : Ctx} {E : Env} {H : Hp} {Q : Exit → Act → World → Prop} {P : Program}

theorem K_loop2 {α β : Type} (pre : α → β → Prop) (Ei : α → β → Env) (Hi : α → β → Hp) (μ : α → β → Nat) (i0 : α) (j0 : β) {x : Code} {Hr : Hp} (hp : pre i0 j0) (hc : Cov E (Ei i0 j0)) (hr : Rems (Hi i0 j0) H Hr)
    (round : ∀ i j, pre i j → K c (x.wp P (Exit.then (fun a w => ∃ p : α × β, pre p.1 p.2 ∧ μ p.1 p.2 < μ i j ∧ Sat c (Ei p.1 p.2) (Hi p.1 p.2) a w) Q)) (Ei i j) (Hi i j)) :
    K c ((Code.loop x).wp P Q) E H :=
  K_loop (ι := α × β) (fun p => pre p.1 p.2) (fun p => Ei p.1 p.2) (fun p => Hi p.1 p.2) (fun p => μ p.1 p.2) (i0, j0) hp hc hr fun i hp => round i.1 i.2 hp
theorem K_again2 {α β : Type} {pre : α → β → Prop} {Ei : α → β → Env} {Hi : α → β → Hp} {μ : α → β → Nat} {m : Nat} (i : α) (j : β) {Hr : Hp} (hp : pre i j) (hm : μ i j < m) (hc : Cov E (Ei i j)) (hr : Rems (Hi i j) H Hr) :
    K c (fun a w => ∃ p : α × β, pre p.1 p.2 ∧ μ p.1 p.2 < m ∧ Sat c (Ei p.1 p.2) (Hi p.1 p.2) a w) E H :=
  fun _ _ hs => ⟨(i, j), hp, hm, ((hs.cov hc).perm hr.perm).sub⟩
theorem K_loop3 {α β γ : Type} (pre : α → β → γ → Prop) (Ei : α → β → γ → Env) (Hi : α → β → γ → Hp) (μ : α → β → γ → Nat) (i0 : α) (j0 : β) (k0 : γ) {x : Code} {Hr : Hp} (hp : pre i0 j0 k0) (hc : Cov E (Ei i0 j0 k0)) (hr : Rems (Hi i0 j0 k0) H Hr)
    (round : ∀ i j k, pre i j k → K c (x.wp P (Exit.then (fun a w => ∃ p : α × β × γ, pre p.1 p.2.1 p.2.2 ∧ μ p.1 p.2.1 p.2.2 < μ i j k ∧ Sat c (Ei p.1 p.2.1 p.2.2) (Hi p.1 p.2.1 p.2.2) a w) Q)) (Ei i j k) (Hi i j k)) :
    K c ((Code.loop x).wp P Q) E H :=
  K_loop (ι := α × β × γ) (fun p => pre p.1 p.2.1 p.2.2) (fun p => Ei p.1 p.2.1 p.2.2) (fun p => Hi p.1 p.2.1 p.2.2) (fun p => μ p.1 p.2.1 p.2.2) (i0, j0, k0) hp hc hr fun i hp => round i.1 i.2.1 i.2.2 hp
theorem K_again3 {α β γ : Type} {pre : α → β → γ → Prop} {Ei : α → β → γ → Env} {Hi : α → β → γ → Hp} {μ : α → β → γ → Nat} {m : Nat} (i : α) (j : β) (k : γ) {Hr : Hp} (hp : pre i j k) (hm : μ i j k < m) (hc : Cov E (Ei i j k)) (hr : Rems (Hi i j k) H Hr) :
    K c (fun a w => ∃ p : α × β × γ, pre p.1 p.2.1 p.2.2 ∧ μ p.1 p.2.1 p.2.2 < m ∧ Sat c (Ei p.1 p.2.1 p.2.2) (Hi p.1 p.2.1 p.2.2) a w) E H :=
  fun _ _ hs => ⟨(i, j, k), hp, hm, ((hs.cov hc).perm hr.perm).sub⟩
theorem K_loop4 {α β γ δ : Type} (pre : α → β → γ → δ → Prop) (Ei : α → β → γ → δ → Env) (Hi : α → β → γ → δ → Hp) (μ : α → β → γ → δ → Nat) (i0 : α) (j0 : β) (k0 : γ) (l0 : δ) {x : Code} {Hr : Hp} (hp : pre i0 j0 k0 l0) (hc : Cov E (Ei i0 j0 k0 l0)) (hr : Rems (Hi i0 j0 k0 l0) H Hr)
    (round : ∀ i j k l, pre i j k l → K c (x.wp P (Exit.then (fun a w => ∃ p : α × β × γ × δ, pre p.1 p.2.1 p.2.2.1 p.2.2.2 ∧ μ p.1 p.2.1 p.2.2.1 p.2.2.2 < μ i j k l ∧ Sat c (Ei p.1 p.2.1 p.2.2.1 p.2.2.2) (Hi p.1 p.2.1 p.2.2.1 p.2.2.2) a w) Q)) (Ei i j k l) (Hi i j k l)) :
    K c ((Code.loop x).wp P Q) E H :=
  K_loop (ι := α × β × γ × δ) (fun p => pre p.1 p.2.1 p.2.2.1 p.2.2.2) (fun p => Ei p.1 p.2.1 p.2.2.1 p.2.2.2) (fun p => Hi p.1 p.2.1 p.2.2.1 p.2.2.2) (fun p => μ p.1 p.2.1 p.2.2.1 p.2.2.2) (i0, j0, k0, l0) hp hc hr fun i hp => round i.1 i.2.1 i.2.2.1 i.2.2.2 hp
theorem K_again4 {α β γ δ : Type} {pre : α → β → γ → δ → Prop} {Ei : α → β → γ → δ → Env} {Hi : α → β → γ → δ → Hp} {μ : α → β → γ → δ → Nat} {m : Nat} (i : α) (j : β) (k : γ) (l : δ) {Hr : Hp} (hp : pre i j k l) (hm : μ i j k l < m) (hc : Cov E (Ei i j k l)) (hr : Rems (Hi i j k l) H Hr) :
    K c (fun a w => ∃ p : α × β × γ × δ, pre p.1 p.2.1 p.2.2.1 p.2.2.2 ∧ μ p.1 p.2.1 p.2.2.1 p.2.2.2 < m ∧ Sat c (Ei p.1 p.2.1 p.2.2.1 p.2.2.2) (Hi p.1 p.2.1 p.2.2.1 p.2.2.2) a w) E H :=
  fun _ _ hs => ⟨(i, j, k, l), hp, hm, ((hs.cov hc).perm hr.perm).sub⟩
theorem K_cut2 {α β : Type} (pre : α → β → Prop) (Ei : α → β → Env) (Hi : α → β → Hp) {x y : Code}
    (h : K c (x.wp P (Exit.then (fun a w => ∃ p : α × β, pre p.1 p.2 ∧ Sat c (Ei p.1 p.2) (Hi p.1 p.2) a w) Q)) E H) (h2 : ∀ i j, pre i j → K c (y.wp P Q) (Ei i j) (Hi i j)) :
    K c ((Code.seq x y).wp P Q) E H :=
  K_cut (ι := α × β) (fun p => pre p.1 p.2) (fun p => Ei p.1 p.2) (fun p => Hi p.1 p.2) h fun i hp => h2 i.1 i.2 hp
theorem K_meet2 {α β : Type} {pre : α → β → Prop} {Ei : α → β → Env} {Hi : α → β → Hp} (i : α) (j : β) {Hr : Hp} (hp : pre i j) (hc : Cov E (Ei i j)) (hr : Rems (Hi i j) H Hr) :
    K c (fun a w => ∃ p : α × β, pre p.1 p.2 ∧ Sat c (Ei p.1 p.2) (Hi p.1 p.2) a w) E H :=
  fun _ _ hs => ⟨(i, j), hp, ((hs.cov hc).perm hr.perm).sub⟩
theorem K_cut3 {α β γ : Type} (pre : α → β → γ → Prop) (Ei : α → β → γ → Env) (Hi : α → β → γ → Hp) {x y : Code}
    (h : K c (x.wp P (Exit.then (fun a w => ∃ p : α × β × γ, pre p.1 p.2.1 p.2.2 ∧ Sat c (Ei p.1 p.2.1 p.2.2) (Hi p.1 p.2.1 p.2.2) a w) Q)) E H) (h2 : ∀ i j k, pre i j k → K c (y.wp P Q) (Ei i j k) (Hi i j k)) :
    K c ((Code.seq x y).wp P Q) E H :=
  K_cut (ι := α × β × γ) (fun p => pre p.1 p.2.1 p.2.2) (fun p => Ei p.1 p.2.1 p.2.2) (fun p => Hi p.1 p.2.1 p.2.2) h fun i hp => h2 i.1 i.2.1 i.2.2 hp
theorem K_meet3 {α β γ : Type} {pre : α → β → γ → Prop} {Ei : α → β → γ → Env} {Hi : α → β → γ → Hp} (i : α) (j : β) (k : γ) {Hr : Hp} (hp : pre i j k) (hc : Cov E (Ei i j k)) (hr : Rems (Hi i j k) H Hr) :
    K c (fun a w => ∃ p : α × β × γ, pre p.1 p.2.1 p.2.2 ∧ Sat c (Ei p.1 p.2.1 p.2.2) (Hi p.1 p.2.1 p.2.2) a w) E H :=
  fun _ _ hs => ⟨(i, j, k), hp, ((hs.cov hc).perm hr.perm).sub⟩
end
end Go.Sl
