/- VM: regions. -/
import Derived.Test.YtbdlooaoeegbgaaGreatDoorGd
import Derived.Test.YtbdlooaoeegbgaaGreatDoorGc
import GoSem.ClaimJoined
import Derived.OpenShut
import Derived.LaidMore
import Derived.SizedLaws
import Derived.Stop.Joined
import Derived.Handed

namespace Go.Am
open Go.RowKit Go.MapKept
section
variable {P : Program} {B : Nat → Prop} {σb : St} {c c' d : Cx} {h h' : Hp} {σ σ' : St} {C C' : Nat → Prop}
def KSR (P : Program) (B : Nat → Prop) (σb : St) (c : Cx) (h : Hp) (σ : St) (kv : KSV) (k : AAct → St → Bool) : Prop :=
 ∀ c' h' σ' A A', c.le c' → Fr' (Liv B c h) σ σ' (Liv B c' h') → VS P B σb c' h' σ' → AR c' σ' (Liv B c' h') A A' → kv A h' → k A' σ' = true
theorem KSR.mono {kv : KSV} {k : AAct → St → Bool} (q : KSR P B σb c h σ kv k) (l : c.le c') (f : Fr' (Liv B c h) σ σ' (Liv B c' h')) : KSR P B σb c' h' σ' kv k :=
 fun c2 h2 σ2 A A' l2 f2 => q c2 h2 σ2 A A' (l.trans l2) (f.trans f2)
theorem sameF_ok (s : VS P B σb c h σ) {v : V} {w : Value} (r : VR' c σ C v w) (ho : sameOk0 v = true) (n : Nat) : sameF n w w = true := by
 have hsl : ∀ b o n m, sameA (.slice (some ⟨b, o, none⟩) n m) (.slice (some ⟨b, o, none⟩) n m) = true := fun b o n m => by
  show ((Nat.beq b b && Nat.beq o o) && (Nat.beq n n && Nat.beq m m)) = true; simp
 have hs0 : ∀ b o n m, sameA (.slice (some ⟨b, o, some 0⟩) n m) (.slice (some ⟨b, o, some 0⟩) n m) = true := fun b o n m => by
  show ((Nat.beq b b && Nat.beq o o) && (Nat.beq n n && Nat.beq m m)) = true; simp
 have hse : ∀ b o s, sameA (.slice (some ⟨b, o, some (s + 2)⟩) 0 0) (.slice (some ⟨b, o, some (s + 2)⟩) 0 0) = true := fun b o s => by
  show ((Nat.beq b b && Nat.beq o o) && Nat.beq s s) = true; simp
 have hpt : ∀ b o, sameA (.pointer (some ⟨b, o, none⟩)) (.pointer (some ⟨b, o, none⟩)) = true := fun b o => by
  show (Nat.beq b b && Nat.beq o o) = true; simp
 have hmp : ∀ b, sameA (.map (some b)) (.map (some b)) = true := fun b => by
  show Nat.beq b b = true; simp
 cases r with
 | @int k z => cases n <;> exact sameV_int k z
 | @bool b => cases n <;> cases b <;> rfl
 | str => cases n <;> (show eqL8 _ _ = true; rw [eqL8_eq]; simp)
 | list ht hd =>
  cases hd with
  | nil => cases n <;> rfl
  | emp => cases n <;> exact hse _ _ _
  | @row b o n' cc sp _ _ _ _ hsp _ _ _ _ _ _ =>
   match sp, hsp with
   | none, _ => cases n <;> exact hsl _ _ _ _
   | some 0, _ => cases n <;> exact hs0 _ _ _ _
 | lptr => cases n <;> exact hpt _ _
 | gptr => cases n <;> exact hpt _ _
 | nil => cases n <;> rfl
 | acc e => obtain ⟨b, rfl⟩ := s.ηs _ _ _ e; cases n <;> exact hs0 _ _ _ _
 | own => cases n <;> exact hsl _ _ _ _
 | asl => cases n <;> exact hs0 _ _ _ _
 | ptr => cases n <;> exact hpt _ _
 | nilp => cases n <;> rfl
 | nilI => cases n <;> rfl
 | nilF => cases n <;> rfl
 | nilM => cases n <;> rfl
 | mapv => cases n <;> exact hmp _
 | _ => cases ho
theorem all_rel {p : V → Bool} {q : Value → Prop} {a : List V} {a' : List Value} (r : VRL c σ C a a') (hp : a.all p = true) (hq : ∀ v w, VR' c σ C v w → p v = true → q w) : ∀ w ∈ a', q w := by
 intro w hw
 obtain ⟨k, hk⟩ := List.getElem?_of_mem hw
 have hlt := (List.getElem?_eq_some_iff.1 hk).1
 have hl := r.len
 exact hq a[k] w (r.rd k a[k] w (List.getElem?_eq_getElem (by omega)) hk) (List.all_eq_true.1 hp _ (List.getElem_mem (by omega)))
theorem sameAll_ok {f : Value → Value → Bool} : ∀ {l : List Value}, (∀ w ∈ l, f w w = true) → sameAll f l l = true := by
 intro l
 induction l with
 | nil => intro _; rfl
 | cons x l ih =>
  intro h
  show (f x x && sameAll f l l) = true
  rw [h x (.head _), ih fun y hy => h y (.tail _ hy)]
  rfl
theorem same0_ok (s : VS P B σb c h σ) {v : V} {w : Value} (r : VR' c σ C v w) (ho : sameOk1 v = true) : same0 w w = true := by
 unfold sameOk1 at ho
 split at ho
 · rename_i f a d
   rw [Bool.and_eq_true] at ho
   cases r with
   | @func _ _ _ a' d' la ld ha hd =>
    show (Nat.beq f f && (sameAll (sameF 2) a' a' && sameAll (sameF 2) d' d')) = true
    rw [sameAll_ok (all_rel (⟨la, ha⟩ : VRL c σ C a a') ho.1 fun v w r o => sameF_ok s r o 2), sameAll_ok (all_rel (⟨ld, hd⟩ : VRL c σ C d d') ho.2 fun v w r o => sameF_ok s r o 2)]
    simp
 · exact sameF_ok s r ho 3
theorem same1_ok (s : VS P B σb c h σ) {v : V} {w : Value} (r : VR' c σ C v w) (ho : sameOk2 v = true) : same1 w w = true := by
 unfold sameOk2 at ho
 split at ho
 · rename_i cs
   cases r with
   | @agg _ a' la ha =>
    show sameL a' a' = true
    have hall := all_rel (⟨la, ha⟩ : VRL c σ C cs a') ho fun v w r o => same0_ok s r o
    clear la ha
    induction a' with
    | nil => rfl
    | cons x l ih =>
     show (same0 x x && sameL l l) = true
     rw [hall x (.head _), ih fun y hy => hall y (.tail _ hy)]
     rfl
 · rename_i hne
   have h0 := same0_ok s r ho
   cases w <;> first | exact h0 | (cases r <;> first | exact absurd rfl (hne _) | (rename_i e; obtain ⟨b, e⟩ := s.ηs _ _ _ e; cases e) | (rename_i ht hd; cases hd))
theorem sameV_ok (s : VS P B σb c h σ) {v : V} {w : Value} (r : VR' c σ C v w) (ho : sameOk v = true) : sameV w w = true := by
 unfold sameOk at ho
 split at ho
 · rename_i cs
   cases r with
   | @tuple _ a' la ha =>
    show sameLL a' a' = true
    have hall := all_rel (⟨la, ha⟩ : VRL c σ C cs a') ho fun v w r o => same1_ok s r o
    clear la ha
    induction a' with
    | nil => rfl
    | cons x l ih =>
     show (same1 x x && sameLL l l) = true
     rw [hall x (.head _), ih fun y hy => hall y (.tail _ hy)]
     rfl
 · rename_i hne
   have h0 := same1_ok s r ho
   cases w <;> first | exact h0 | (cases r <;> first | exact absurd rfl (hne _) | (rename_i e; obtain ⟨b, e⟩ := s.ηs _ _ _ e; cases e) | (rename_i ht hd; cases hd))
theorem wantK_none {ops : Array Oper} {o : Oper} {A : AAct} {k : Bool → Bool} (hg : o.guard = none) : wantK ops o A k = k true := by
 unfold wantK; rw [hg]
theorem wantK_r {ops : Array Oper} {o o' : Oper} {A : AAct} {k : Bool → Bool} {j : Nat} {w : Bool} {g : Tmp} (hg : o.guard = some (j, w)) (hj : ops[j]? = some o') (hd : o'.dst = some g) : wantK ops o A k = tmK A.tmps g fun v => rWant w v k := by
 unfold wantK; rw [hg]; simp only [hj, hd]; rfl
theorem vWant_sim {w : Bool} {v : V} {u : Value} (r : VR' c σ C v u) {k : Bool → Prop} (hv : vWant w v k) : ∃ b, k b ∧ ∀ K : Bool → Bool, rWant w u K = K b := by
 cases r with
 | @bool b => cases b <;> cases w <;> exact ⟨_, hv, fun K => rfl⟩
 | @tuple a a' la ha =>
  cases a with
  | nil => exact ⟨false, hv, fun K => rfl⟩
  | cons x l => cases hv
 | _ => cases hv
theorem putD_sim {A : VA} {A' : AAct} (a : AR c σ (Liv B c h) A A') (s : VS P B σb c h σ) {o : Oper} {kv : KSV} {k : AAct → St → Bool} (hk : KSR P B σb c h σ kv k) {v : V} {w : Value} (r : VR' c σ (Liv B c h) v w)
 (hv : match o.dst with | some d => putAP A d v (fun A => kv A h) | none => kv A h) : putAK A' o.dst w (fun A => k A σ) = true := by
 cases hd : o.dst with
 | none => rw [hd] at hv; exact hk c h σ A A' (.refl c) (.refl _ σ) s a hv
 | some d => rw [hd] at hv; exact putAP_sim a r hv fun X X' x hx => hk c h σ X X' (.refl c) (.refl _ σ) s x hx
theorem und_ok : VR' c σ C undV undef := .tuple (a' := []) rfl fun k v w e => by simp at e
theorem doV_sim {Ev : VE} {E : Env} (r : ER P B σb Ev E) {A : VA} {A' : AAct} (s : VS P B σb c h σ) (a : AR c σ (Liv B c h) A A') {ops : Array Oper} {o : Oper} {kv : KSV} {k : AAct → St → Bool} (hk : KSR P B σb c h σ kv k) (hv : (doV P ops o).f Ev A h kv) : doK E ops o A' σ k = true := by
 -- behind the operation
 have beh : ∀ {c' h' σ' v w}, c.le c' → Fr' (Liv B c h) σ σ' (Liv B c' h') → VS P B σb c' h' σ' → VR' c' σ' (Liv B c' h') v w → (match o.dst with | some d => putAP A d v (fun A => kv A h') | none => kv A h') → putAK A' o.dst w (fun A => k A σ') = true :=
  fun l f s' rv hv => putD_sim (a.mono l f) s' (hk.mono l f) rv hv
 unfold doV at hv
 unfold doK
 cases hg : o.guard with
 | none =>
  rw [hg] at hv
  rw [wantK_none hg]
  simp only at hv
  show opK E o A' σ (fun v σ => putAK A' o.dst v fun A => k A σ) = true
  unfold doneV at hv
  cases hd : o.dst with
  | none =>
   rw [hd] at hv
   exact opV_sim r s a (fun c' h' σ' v w l f s' rv hv => by have := beh l f s' rv (by rw [hd]; exact hv); rwa [hd] at this) hv
  | some d =>
   rw [hd] at hv
   exact opV_sim r s a (fun c' h' σ' v w l f s' rv hv => by have := beh l f s' rv (by rw [hd]; exact hv); rwa [hd] at this) hv
 | some jw =>
  obtain ⟨j, w⟩ := jw
  rw [hg] at hv
  simp only at hv
  cases hj : ops[j]? with
  | none => simp only [hj] at hv
  | some o' =>
   simp only [hj] at hv
   cases hg' : o'.dst with
   | none => simp only [hg'] at hv
   | some g =>
    simp only [hg'] at hv
    rw [wantK_r hg hj hg']
    have key : ∀ (v : V) (u : Value) (q : KV), (∀ {c' h' σ' v w}, c.le c' → Fr' (Liv B c h) σ σ' (Liv B c' h') → VS P B σb c' h' σ' → VR' c' σ' (Liv B c' h') v w → q v h' → putAK A' o.dst w (fun A => k A σ') = true) → VR' c σ (Liv B c h) v u → vGuard w v (fun k => (opV P o).f Ev A h k) h q →
     rWant w u (fun b => bcase b (opK E o A' σ fun v σ => putAK A' o.dst v fun A => k A σ) (putAK A' o.dst undef fun A => k A σ)) = true := by
     intro v u q hq rv hv
     obtain ⟨b, hb, e⟩ := vWant_sim rv hv
     rw [e]
     cases b with
     | true => exact opV_sim r s a (fun c' h' σ' v w l f s' rv hv => hq l f s' rv hv) hb
     | false => exact hq (.refl c) (.refl _ σ) s und_ok hb
    cases hd : o.dst with
    | none =>
     rw [hd] at hv
     refine tmP_sim a hv fun v u rv hv => ?_
     rw [shutP_eq] at hv
     have := key v u _ (fun l f s' rv hv => beh l f s' rv (by rw [hd]; exact hv)) rv hv
     rwa [hd] at this
    | some dd =>
     rw [hd] at hv
     refine tmP_sim a hv fun v u rv hv => ?_
     rw [shutP_eq] at hv
     have := key v u _ (fun l f s' rv hv => beh l f s' rv (by rw [hd]; exact hv)) rv hv
     rwa [hd] at this
theorem opsV_sim {Ev : VE} {E : Env} (r : ER P B σb Ev E) {ops : Array Oper} : ∀ {l : List Oper} {c : Cx} {h : Hp} {σ : St} {A : VA} {A' : AAct} {kv : KSV} {k : AAct → St → Bool}, VS P B σb c h σ → AR c σ (Liv B c h) A A' → KSR P B σb c h σ kv k → (opsV P ops l).f Ev A h kv → opsK E ops l A' σ k = true := by
 intro l
 induction l with
 | nil => intro c h σ A A' kv k s a hk hv; exact hk c h σ A A' (.refl c) (.refl _ σ) s a hv
 | cons o l ih =>
  intro c h σ A A' kv k s a hk hv
  have hv : (doV P ops o).f Ev A h (fun A σ => (opsV P ops l).f Ev A σ kv) := hv
  show doK E ops o A' σ (opsK E ops l · · k) = true
  exact doV_sim r s a (fun c' h' σ' X X' le f s' x hv => ih s' x (hk.mono le f) hv) hv
theorem chkV_sim {Ev : VE} {E : Env} (r : ER P B σb Ev E) {ops : Array Oper} {A : VA} {A' : AAct} (s : VS P B σb c h σ) (a : AR c σ (Liv B c h) A A') {p : Prop} {b : Bool} (hb : p → b = true) : ∀ {l : List Nat}, (chkV P ops l).f Ev A h p → chkK E ops A' σ l b = true := by
 intro l
 induction l with
 | nil => intro hv; exact hb hv
 | cons i l ih =>
  intro hv
  rw [chkK_cons]
  have e1 : chkV P ops (i :: l) = match ops[i]? with
   | some o => match o.dst with
    | some d => match o.guard with
     | none => ⟨fun E A σ k => tmP A.tmps d fun u => (opV P o).f E A σ fun v _ => vSame v u ((chkV P ops l).f E A σ k)⟩
     | some (j, w) => match ops[j]? with
      | some o' => match o'.dst with
       | some g => ⟨fun E A σ k => tmP A.tmps d fun u => tmP A.tmps g fun b => shutP E.most (vGuardC w b u (fun k => (opV P o).f E A σ fun v _ => vSame v u k) ((chkV P ops l).f E A σ k))⟩
       | none => ⟨fun _ _ _ _ => False⟩
      | none => ⟨fun _ _ _ _ => False⟩
    | none => ⟨fun _ _ _ _ => False⟩
   | none => ⟨fun _ _ _ _ => False⟩ := rfl
  rw [e1] at hv
  cases hi : ops[i]? with
  | none => rw [hi] at hv; cases hv
  | some o =>
   rw [hi] at hv
   simp only at hv ⊢
   cases hd : o.dst with
   | none => rw [hd] at hv; cases hv
   | some dd =>
    rw [hd] at hv
    simp only at hv ⊢
    have run : ∀ {u : V} {uw : Value}, VR' c σ (Liv B c h) u uw → ((opV P o).f Ev A h fun v _ => vSame v u ((chkV P ops l).f Ev A h p)) → opK E o A' σ (fun v _ => match sameV v uw with | true => chkK E ops A' σ l b | false => false) = true := by
     intro u uw ru hv
     refine opV_sim r s a (fun c' h' σ' v w le f s' rv hv => ?_) hv
     obtain ⟨rfl, ho, hv⟩ := hv
     have := rv.fn (ru.mono le f)
     subst this
     rw [sameV_ok s' rv ho]
     exact ih hv
    cases hg : o.guard with
    | none =>
     simp only [hg] at hv
     refine tmP_sim a hv fun u uw ru hv => ?_
     rw [wantK_none hg]
     exact run ru hv
    | some jw =>
     obtain ⟨j, w⟩ := jw
     simp only [hg] at hv
     cases hj : ops[j]? with
     | none => simp only [hj] at hv
     | some o' =>
      simp only [hj] at hv
      cases hg' : o'.dst with
      | none => simp only [hg'] at hv
      | some g =>
       simp only [hg'] at hv
       refine tmP_sim a hv fun u uw ru hv => ?_
       rw [wantK_r hg hj hg']
       refine tmP_sim a hv fun q qw rq hv => ?_
       rw [shutP_eq] at hv
       obtain ⟨bb, hbb, e⟩ := vWant_sim rq hv
       rw [e]
       cases bb with
       | true => exact run ru hbb
       | false =>
        have hbb : vUnd u ((chkV P ops l).f Ev A h p) := hbb
        cases ru with
        | @tuple a a' la ha =>
         cases a with
         | nil =>
          have : a' = [] := List.eq_nil_of_length_eq_zero (by simpa using la.symm)
          subst this
          exact ih hbb
         | cons x l => cases hbb
        | _ => cases hbb
theorem lopV_sim {Ev : VE} {E : Env} (r : ER P B σb Ev E) {ops : Array Oper} {i : Nat} {o : Oper} {A : VA} {A' : AAct} (s : VS P B σb c h σ) (a : AR c σ (Liv B c h) A A') {Kv : KV} {K : VK} (k : KR P B σb c h σ Kv K) (hv : (lopV P ops i o).f Ev A h Kv) : lopK E ops i o A' σ K = true := by
 unfold lopV at hv
 unfold lopK
 rw [r.eP]
 cases hc : convSrc P ops i with
 | none => rw [hc] at hv; exact opV_sim r s a k hv
 | some j => rw [hc] at hv; cases hv
theorem lateV_sim {Ev : VE} {E : Env} (r : ER P B σb Ev E) {ops : Array Oper} : ∀ {l : List Nat} {c : Cx} {h : Hp} {σ : St} {A : VA} {A' : AAct} {kv : KSV} {k : AAct → St → Bool}, VS P B σb c h σ → AR c σ (Liv B c h) A A' → KSR P B σb c h σ kv k → (lateV P ops l).f Ev A h kv → lateK E ops l A' σ k = true := by
 intro l
 induction l with
 | nil => intro c h σ A A' kv k s a hk hv; exact hk c h σ A A' (.refl c) (.refl _ σ) s a hv
 | cons i l ih =>
  intro c h σ A A' kv k s a hk hv
  have e1 : lateV P ops (i :: l) = match ops[i]? with
   | some o => match o.dst with
    | some d => ⟨fun E A σ k => (lopV P ops i o).f E A σ fun v σ => putAP A d v fun A => (lateV P ops l).f E A σ k⟩
    | none => ⟨fun E A σ k => (lopV P ops i o).f E A σ fun _ σ => (lateV P ops l).f E A σ k⟩
   | none => ⟨fun _ _ _ _ => False⟩ := rfl
  have e2 : lateK E ops (i :: l) A' σ k = match ops[i]? with
   | some o => lopK E ops i o A' σ fun v σ => putAK A' o.dst v fun A => lateK E ops l A σ k
   | none => false := rfl
  rw [e1] at hv
  rw [e2]
  cases hi : ops[i]? with
  | none => rw [hi] at hv; cases hv
  | some o =>
   rw [hi] at hv
   simp only at hv ⊢
   cases hd : o.dst with
   | none =>
    rw [hd] at hv
    exact lopV_sim r s a (fun c' h' σ' v w le f s' rv hv => ih s' (a.mono le f) (hk.mono le f) hv) hv
   | some d =>
    rw [hd] at hv
    exact lopV_sim r s a (fun c' h' σ' v w le f s' rv hv => putAP_sim (a.mono le f) rv hv fun X X' x hx => ih s' x (hk.mono le f) hx) hv
theorem preV_sim {Ev : VE} {E : Env} (r : ER P B σb Ev E) {ops : Array Oper} {A : VA} {A' : AAct} (s : VS P B σb c h σ) (a : AR c σ (Liv B c h) A A') {p : Prop} {b : Bool} (hb : p → b = true) : ∀ {l : List (Nat × List Nat)}, (preV P ops l).f Ev A h p → preK E ops A' σ l b = true := by
 intro l
 induction l with
 | nil => intro hv; exact hb hv
 | cons q l ih =>
  intro hv
  have e1 : preV P ops (q :: l) = match ops[q.1]? with
   | some o => ⟨fun E A σ k => absP A o (((lateV P ops q.2).f E A σ fun A σ => (lopV P ops q.1 o).f E A σ fun _ _ => True) ∧ (preV P ops l).f E A σ k)⟩
   | none => ⟨fun _ _ _ _ => False⟩ := rfl
  have e2 : preK E ops A' σ (q :: l) b = match ops[q.1]? with
   | some o => absK A' o (bcase (lateK E ops q.2 A' σ fun A σ => lopK E ops q.1 o A σ fun _ _ => true) (preK E ops A' σ l b) false)
   | none => false := rfl
  rw [e1] at hv
  rw [e2]
  cases hi : ops[q.1]? with
  | none => rw [hi] at hv; cases hv
  | some o =>
   rw [hi] at hv
   simp only at hv ⊢
   unfold absP at hv
   unfold absK
   cases hd : o.dst with
   | none => rw [hd] at hv; cases hv
   | some dd =>
    rw [hd] at hv
    simp only at hv ⊢
    obtain ⟨hg, h1, h2⟩ := getN_iff _ _ hv
    · rw [getK_eq, a.abs dd hg]
      have hl : (lateK E ops q.2 A' σ fun A σ => lopK E ops q.1 o A σ fun _ _ => true) = true := lateV_sim r s a (fun c' h' σ' X X' le f s' x hv => lopV_sim r s' x (fun _ _ _ _ _ _ _ _ _ _ => rfl) hv) h1
      show bcase (lateK E ops q.2 A' σ fun A σ => lopK E ops q.1 o A σ fun _ _ => true) (preK E ops A' σ l b) false = true
      rw [hl]
      exact ih h2
theorem pstepsV_sim {Ev : VE} {E : Env} (r : ER P B σb Ev E) {ops : Array Oper} : ∀ {l : List PStep} {c : Cx} {h : Hp} {σ : St} {A : VA} {A' : AAct} {kv : KSV} {k : AAct → St → Bool}, VS P B σb c h σ → AR c σ (Liv B c h) A A' → KSR P B σb c h σ kv k → (pstepsV P ops l).f Ev A h kv → pstepsK E ops l A' σ k = true := by
 intro l
 induction l with
 | nil => intro c h σ A A' kv k s a hk hv; cases hv
 | cons st l ih =>
  intro c h σ A A' kv k s a hk hv
  cases st with
  | take i =>
   have e1 : pstepsV P ops (.take i :: l) = match ops[i]? with
    | some o => ⟨fun E A σ k => (doV P ops o).f E A σ fun A σ => (pstepsV P ops l).f E A σ k⟩
    | none => ⟨fun _ _ _ _ => False⟩ := rfl
   have e2 : pstepsK E ops (.take i :: l) A' σ k = match ops[i]? with
    | some o => doK E ops o A' σ fun A σ => pstepsK E ops l A σ k
    | none => false := rfl
   rw [e1] at hv
   rw [e2]
   cases hi : ops[i]? with
   | none => rw [hi] at hv; cases hv
   | some o =>
    rw [hi] at hv
    exact doV_sim r s a (fun c' h' σ' X X' le f s' x hv => ih s' x (hk.mono le f) hv) hv
  | req chk pend D q chk' =>
   have e1 : pstepsV P ops (.req chk pend D q chk' :: l) = match ops[q]? with
    | some o => ⟨fun E A σ k => (chkV P ops chk).f E A σ ((preV P ops pend).f E A σ ((lateV P ops D).f E A σ fun A σ => (doV P ops o).f E A σ fun A σ => (chkV P ops chk').f E A σ ((pstepsV P ops l).f E A σ k)))⟩
    | none => ⟨fun _ _ _ _ => False⟩ := rfl
   have e2 : pstepsK E ops (.req chk pend D q chk' :: l) A' σ k = match ops[q]? with
    | some o => chkK E ops A' σ chk (preK E ops A' σ pend (lateK E ops D A' σ fun A σ => doK E ops o A σ fun A σ => chkK E ops A σ chk' (pstepsK E ops l A σ k)))
    | none => false := rfl
   rw [e1] at hv
   rw [e2]
   cases hi : ops[q]? with
   | none => rw [hi] at hv; cases hv
   | some o =>
    rw [hi] at hv
    refine chkV_sim r s a (fun hv => ?_) hv
    refine preV_sim r s a (fun hv => ?_) hv
    refine lateV_sim r s a (fun c' h' σ' X X' le f s' x hv => ?_) hv
    refine doV_sim r s' x (fun c2 h2 σ2 Y Y' le2 f2 s2 y hv => ?_) hv
    refine chkV_sim r s2 y (fun hv => ?_) hv
    exact ih s2 y ((hk.mono le f).mono le2 f2) hv
  | fin chk pend D =>
   have hv : (chkV P ops chk).f Ev A h ((preV P ops pend).f Ev A h ((lateV P ops D).f Ev A h kv)) := hv
   show chkK E ops A' σ chk (preK E ops A' σ pend (lateK E ops D A' σ k)) = true
   refine chkV_sim r s a (fun hv => ?_) hv
   refine preV_sim r s a (fun hv => ?_) hv
   exact lateV_sim r s a hk hv
theorem pstepsEV_sim {Ev : VE} {E : Env} (r : ER P B σb Ev E) {ops : Array Oper} : ∀ {l : List PStep} {c : Cx} {h : Hp} {σ : St} {A : VA} {A' : AAct} {kv : KSV} {k : AAct → St → Bool}, VS P B σb c h σ → AR c σ (Liv B c h) A A' → KSR P B σb c h σ kv k → (pstepsEV P ops l).f Ev A h kv → pstepsE E ops l A' σ k = true := by
 intro l
 induction l with
 | nil => intro c h σ A A' kv k s a hk hv; exact hk c h σ A A' (.refl c) (.refl _ σ) s a hv
 | cons st l ih =>
  intro c h σ A A' kv k s a hk hv
  cases st with
  | take i =>
   have e1 : pstepsEV P ops (.take i :: l) = match ops[i]? with
    | some o => ⟨fun E A σ k => (doV P ops o).f E A σ fun A σ => (pstepsEV P ops l).f E A σ k⟩
    | none => ⟨fun _ _ _ _ => False⟩ := rfl
   have e2 : pstepsE E ops (.take i :: l) A' σ k = match ops[i]? with
    | some o => doK E ops o A' σ fun A σ => pstepsE E ops l A σ k
    | none => false := rfl
   rw [e1] at hv
   rw [e2]
   cases hi : ops[i]? with
   | none => rw [hi] at hv; cases hv
   | some o =>
    rw [hi] at hv
    exact doV_sim r s a (fun c' h' σ' X X' le f s' x hv => ih s' x (hk.mono le f) hv) hv
  | req chk pend D q chk' =>
   have e1 : pstepsEV P ops (.req chk pend D q chk' :: l) = match ops[q]? with
    | some o => ⟨fun E A σ k => (chkV P ops chk).f E A σ ((preV P ops pend).f E A σ ((lateV P ops D).f E A σ fun A σ => (doV P ops o).f E A σ fun A σ => (chkV P ops chk').f E A σ ((pstepsEV P ops l).f E A σ k)))⟩
    | none => ⟨fun _ _ _ _ => False⟩ := rfl
   have e2 : pstepsE E ops (.req chk pend D q chk' :: l) A' σ k = match ops[q]? with
    | some o => chkK E ops A' σ chk (preK E ops A' σ pend (lateK E ops D A' σ fun A σ => doK E ops o A σ fun A σ => chkK E ops A σ chk' (pstepsE E ops l A σ k)))
    | none => false := rfl
   rw [e1] at hv
   rw [e2]
   cases hi : ops[q]? with
   | none => rw [hi] at hv; cases hv
   | some o =>
    rw [hi] at hv
    refine chkV_sim r s a (fun hv => ?_) hv
    refine preV_sim r s a (fun hv => ?_) hv
    refine lateV_sim r s a (fun c' h' σ' X X' le f s' x hv => ?_) hv
    refine doV_sim r s' x (fun c2 h2 σ2 Y Y' le2 f2 s2 y hv => ?_) hv
    refine chkV_sim r s2 y (fun hv => ?_) hv
    exact ih s2 y ((hk.mono le f).mono le2 f2) hv
  | fin chk pend D => cases hv
end
end Go.Am

namespace Go.Am
open Go.RowKit Go.MapKept
section
variable {P : Program} {B : Nat → Prop} {σb : St} {c c' d : Cx} {h h' : Hp} {σ σ' : St} {C C' : Nat → Prop}
theorem AR.del {A : VA} {A' : AAct} (a : AR c σ C A A') (d : Nat) : AR c σ C ⟨⟨A.tmps.t.del d, A.tmps.n⟩, A.g⟩ { A' with tmps := ⟨A'.tmps.t.del d, A'.tmps.n⟩ } := by
 refine ⟨a.n, a.g, a.marks, fun i v e => ?_, fun i e => ?_⟩
 · have e : (A.tmps.t.del d).get i = some v := e
   rw [get_del] at e
   show ∃ w, (A'.tmps.t.del d).get i = some w ∧ _
   rw [get_del]
   by_cases hi : i = d
   · rw [if_pos hi] at e; cases e
   · rw [if_neg hi] at e ⊢; exact a.got i v e
 · have e : (A.tmps.t.del d).get i = none := e
   rw [get_del] at e
   show (A'.tmps.t.del d).get i = none
   rw [get_del]
   by_cases hi : i = d
   · rw [if_pos hi]
   · rw [if_neg hi] at e ⊢; exact a.abs i e
theorem delsP_sim {ops : Array Oper} {k : VA → Prop} {k' : AAct → Bool} (hk : ∀ X X', AR c σ C X X' → k X → k' X' = true) : ∀ {l : List Nat} {A : VA} {A' : AAct}, AR c σ C A A' → delsP ops l A k → delsK ops l A' k' = true := by
 intro l
 induction l with
 | nil => intro A A' a hv; exact hk A A' a hv
 | cons i l ih =>
  intro A A' a hv
  have e1 : delsP ops (i :: l) A k = match ops[i]? with
   | some o => match o.dst with
    | some d => match A with | ⟨⟨t, n⟩, g⟩ => delP t d fun t => delsP ops l ⟨⟨t, n⟩, g⟩ k
    | none => False
   | none => False := rfl
  have e2 : delsK ops (i :: l) A' k' = match ops[i]? with
   | some o => match o.dst with
    | some d => delK A'.tmps.t d fun t => delsK ops l { A' with tmps := ⟨t, A'.tmps.n⟩ } k'
    | none => false
   | none => false := rfl
  rw [e1] at hv
  rw [e2]
  cases hi : ops[i]? with
  | none => simp only [hi] at hv
  | some o =>
   simp only [hi] at hv ⊢
   cases hd : o.dst with
   | none => simp only [hd] at hv
   | some d =>
    simp only [hd] at hv ⊢
    rw [delP_eq] at hv
    rw [delK_eq]
    exact ih (a.del d) hv
theorem vGate_true {w : Bool} {v : V} {k : Prop} (h : vGate w v k) : v = .bool w ∧ k := by
 unfold vGate at h
 split at h
 · rename_i b
   cases w <;> cases b <;> first | exact ⟨rfl, h⟩ | exact h.elim
 · exact h.elim
theorem planSV_sim {Ev : VE} {E : Env} (r : ER P B σb Ev E) : ∀ {p : PlanS} {ops : Array Oper} {c : Cx} {h : Hp} {σ : St} {A : VA} {A' : AAct} {kv : KSV} {k : AAct → St → Bool}, VS P B σb c h σ → AR c σ (Liv B c h) A A' → KSR P B σb c h σ kv k → (planSV P p ops).f Ev A h kv → planSK E p ops A' σ k = true := by
 intro p
 induction p with
 | fin l => intro ops c h σ A A' kv k s a hk hv; exact pstepsV_sim r s a hk hv
 | cut l g t b p ih =>
  intro ops c h σ A A' kv k s a hk hv
  have hv : (pstepsEV P ops l).f Ev A h (fun A σ => tmP A.tmps t fun v => vGate b v ((planSV P p (resolveG ops g b)).f Ev A σ kv)) := hv
  show pstepsE E ops l A' σ (fun A σ => gateK A t b (planSK E p (resolveG ops g b) A σ k)) = true
  refine pstepsEV_sim r s a (fun c' h' σ' X X' le f s' x hv => ?_) hv
  unfold gateK
  refine tmP_sim x hv fun v w rv hv => ?_
  obtain ⟨e, hv2⟩ := vGate_true hv
  subst e
  cases rv
  have := ih (ops := resolveG ops g b) s' x (hk.mono le f) hv2
  cases b <;> exact this
theorem regV_sim {Ev : VE} {E : Env} (r : ER P B σb Ev E) {ops : Array Oper} {draw : Bool} {A : VA} {A' : AAct} (s : VS P B σb c h σ) (a : AR c σ (Liv B c h) A A') {kv : KSV} {k : AAct → St → Bool} (hk : KSR P B σb c h σ kv k) (hv : (regV P ops draw).f Ev A h kv) : (regX P ops draw).f E A' σ k = true := by
 have hP := r.eP
 subst hP
 rw [regX_eq]
 cases draw with
 | false => exact opsV_sim r s a hk hv
 | true =>
  show drG E ops A' σ k = true
  unfold regV at hv
  simp only at hv
  unfold drG
  cases hp : planQ E.P ops with
  | none =>
   simp only [hp] at hv ⊢
   cases hpl : plainOps ops with
   | false => simp only [hpl] at hv
   | true =>
    simp only [hpl] at hv ⊢
    cases hps : planS E.P (ops.size + 1) ops ⟨List.replicate ops.size false⟩ [] with
    | none => simp only [hps] at hv
    | some p =>
     simp only [hps] at hv ⊢
     exact delsP_sim (fun X X' x hx => planSV_sim r s x hk hx) a hv
  | some l =>
   simp only [hp] at hv ⊢
   cases hl : lates l with
   | nil =>
    simp only [hl] at hv
    exact pstepsV_sim r s a hk hv
   | cons x ls =>
    simp only [hl] at hv
    exact delsP_sim (fun X X' x hx => pstepsV_sim r s x hk hx) a hv
/-! code -/
def CKR (P : Program) (B : Nat → Prop) (σb : St) (c : Cx) (h : Hp) (σ : St) (Kv : CV) (K : CK') : Prop :=
 ∀ c' h' σ' A A' e, c.le c' → Fr' (Liv B c h) σ σ' (Liv B c' h') → VS P B σb c' h' σ' → AR c' σ' (Liv B c' h') A A' → Kv e A h' → K e A' σ' = true
def LKR (P : Program) (B : Nat → Prop) (σb : St) (c : Cx) (h : Hp) (σ : St) (Kv : AExit → List V → Nat → Hp → Prop) (K : AExit → List Value → Nat → List Nat → St → Bool) : Prop :=
 ∀ c' h' σ' vs ws n e, c.le c' → Fr' (Liv B c h) σ σ' (Liv B c' h') → VS P B σb c' h' σ' → VRL c' σ' (Liv B c' h') vs ws → Kv e vs n h' → ∀ marks, MkOk c' σ' (Liv B c' h') marks → K e ws n marks σ' = true
def RoV (c : Cx) (r r' : Option Nat) : Prop := (r = none ∧ r' = none) ∨ ∃ l b, r = some l ∧ r' = some b ∧ c.ι l = some b
theorem RoV.mono {r r' : Option Nat} (q : RoV c r r') (l : c.le c') : RoV c' r r' := by
 rcases q with q | ⟨i, b, h1, h2, h3⟩
 · exact .inl q
 · exact .inr ⟨i, b, h1, h2, l.ι _ _ h3⟩
def LpSim (P : Program) (B : Nat → Prop) (σb : St) (Ev : VE) (E : Env) (r r' : Option Nat) (lv : LpV) (lx : LpT) : Prop :=
 ∀ {c : Cx} {h : Hp} {σ : St} {vs : List V} {ws : List Value} {n : Nat} {marks : List Nat} {Kv : AExit → List V → Nat → Hp → Prop} {K : AExit → List Value → Nat → List Nat → St → Bool}, VS P B σb c h σ → RoV c r r' → MkOk c σ (Liv B c h) marks → VRL c σ (Liv B c h) vs ws → LKR P B σb c h σ Kv K → lv Ev vs n h Kv → lx E r' ws n marks σ K = true
theorem CKR.mono {Kv : CV} {K : CK'} (q : CKR P B σb c h σ Kv K) (l : c.le c') (f : Fr' (Liv B c h) σ σ' (Liv B c' h')) : CKR P B σb c' h' σ' Kv K :=
 fun c2 h2 σ2 A A' e l2 f2 => q c2 h2 σ2 A A' e (l.trans l2) (f.trans f2)
theorem LKR.mono {Kv : AExit → List V → Nat → Hp → Prop} {K : AExit → List Value → Nat → List Nat → St → Bool} (q : LKR P B σb c h σ Kv K) (l : c.le c') (f : Fr' (Liv B c h) σ σ' (Liv B c' h')) : LKR P B σb c' h' σ' Kv K :=
 fun c2 h2 σ2 vs ws n e l2 f2 => q c2 h2 σ2 vs ws n e (l.trans l2) (f.trans f2)
theorem valsP_sim {A : VA} {A' : AAct} (a : AR c σ C A A') : ∀ {l : List Nat} {k : List V → Prop} {k' : List Value → Bool}, valsP l A k → (∀ vs ws, VRL c σ C vs ws → k vs → k' ws = true) → valsK l A' k' = true := by
 intro l
 induction l with
 | nil => intro k k' hv hk; exact hk [] [] .nil hv
 | cons i l ih =>
  intro k k' hv hk
  have hv : tmP A.tmps i (fun v => valsP l A fun vs => k (v :: vs)) := hv
  show tmK A'.tmps i (fun v => valsK l A' fun vs => k' (v :: vs)) = true
  exact tmP_sim a hv fun v w rv hv => ih hv fun vs ws rs hv => hk _ _ (.cons rv rs) hv
theorem valsP_get {A : VA} : ∀ {l : List Nat} {k : List V → Prop}, valsP l A k → ∃ vs, k vs ∧ vs.length = l.length ∧ ∀ (j i : Nat) (v : V), l[j]? = some i → vs[j]? = some v → A.tmps.t.get i = some v := by
 intro l
 induction l with
 | nil => intro k hv; exact ⟨[], hv, rfl, fun j i v h => by simp at h⟩
 | cons i l ih =>
  intro k hv
  obtain ⟨v, e, hv⟩ := getP_iff _ _ _ (show tmP A.tmps i (fun v => valsP l A fun vs => k (v :: vs)) from hv)
  obtain ⟨vs, h1, h2, h3⟩ := ih hv
  refine ⟨v :: vs, h1, by simp [h2], fun j x u hx hu => ?_⟩
  cases j with
  | zero => simp at hx hu; subst hx hu; exact e
  | succ j => simp at hx hu; exact h3 j x u hx hu
theorem canonP_go {g : Nat} {marks : List Nat} {k : VA → Prop} {k' : AAct → Bool} (hk : ∀ X X', AR c σ C X X' → k X → k' X' = true) : ∀ {l : List Nat} {vs : List V} {ws : List Value} {T : VTm} {T' : Tm}, VRL c σ C vs ws → AR c σ C ⟨T, g⟩ ⟨T', marks, g⟩ →
 lrec (β := List V → VTm → Prop) (fun _ T => k ⟨T, g⟩) (fun i _ ih vs T => match vs with | v :: vs => setTP v T i fun T => ih vs T | [] => False) l vs T →
 lrec (β := List Value → Tm → Bool) (fun _ T => k' ⟨T, marks, g⟩) (fun i _ ih vs T => match vs with | v :: vs => setTK v T i fun T => ih vs T | [] => false) l ws T' = true := by
 intro l
 induction l with
 | nil => intro vs ws T T' _ a hv; exact hk _ _ a hv
 | cons i l ih =>
  intro vs ws T T' rs a hv
  rw [lrec_cons] at hv ⊢
  cases vs with
  | nil => cases hv
  | cons v vs =>
   obtain ⟨w, ws', rfl, rv, rs⟩ := rs.cons_inv
   obtain ⟨h1, h2⟩ := setTP_iff hv
   show setTK w T' i _ = true
   rw [setTK_eq (by rw [show T'.n = T.n from a.n.symm]; exact h1)]
   exact ih rs (a.put rv) h2
theorem AR.leaf {n g : Nat} {marks : List Nat} (m : MkOk c σ C marks) : AR c σ C ⟨⟨.leaf, n⟩, g⟩ ⟨⟨.leaf, n⟩, marks, g⟩ := ⟨rfl, rfl, m, fun i v e => (by cases e), fun i _ => rfl⟩
theorem canonP_sim {l : List Nat} {vs : List V} {ws : List Value} {n g : Nat} {k : VA → Prop} {k' : AAct → Bool} {marks : List Nat} (m : MkOk c σ C marks) (rs : VRL c σ C vs ws) (hv : canonP l vs n g k) (hk : ∀ X X', AR c σ C X X' → k X → k' X' = true) : canonK l ws n g marks k' = true := canonP_go hk rs (.leaf m) hv
variable {tb : LiveT}
theorem newRaw (s : VS P B σb c h σ) (o : AObj) : VS P B σb c h (σ.new o) ∧ Fr' (Liv B c h) σ (σ.new o) (Liv B c h) := by
 have fr : Fr' (Liv B c h) σ (σ.new o) (Liv B c h) := ⟨Nat.le_succ _, fun j hj _ => obj_new_old (Nat.ne_of_lt hj), fun b l => .inl l⟩
 refine ⟨⟨s.base.trans (.new σ _), s.bB, fun i o' e eg => ?_, fun i vs t n e => ?_, s.inj, s.ηs, s.room, s.rooms, fun i vs t n m b e e3 => ⟨(s.ηb i vs t n m b e e3).1, Nat.lt_succ_of_lt (s.ηb i vs t n m b e e3).2⟩, fun i vs t n b ws e' olds e e3 e4 => s.old i vs t n b ws e' olds e e3 (by rw [obj_new_old (by have := (s.ηb i vs t n n b e e3).2; omega)] at e4; exact e4)⟩, fr⟩
 · obtain ⟨b, a, a1, a2, a3, a4, a5⟩ := s.ob i o' e eg
   exact ⟨b, a, a1, a2, Nat.lt_succ_of_lt a3, by rw [obj_new_old (by omega)]; exact a4, a5.mono (.refl c) fr⟩
 · obtain ⟨b, ws, olds, sz, a1, a2, a3, a4, a5, a6⟩ := s.gro i vs t n e
   exact ⟨b, ws, olds, sz, a1, a2, Nat.lt_succ_of_lt a3, by rw [obj_new_old (by omega)]; exact a4, a5.mono (.refl c) fr, a6⟩
theorem getO {k : AObj → Bool} {b : Nat} {a : AObj} (e : σ.obj b = some a) : getK σ.h b k = k a := by
 rw [getK_eq]
 have e : σ.h.get b = some a := e
 rw [e]
theorem vInLoop_of {l : Nat} {p : Prop} (hv : vInLoop l h p) : ∃ ls vs n ps as bo st pe, h l = some (.loop ls vs n ps as bo st pe) ∧ p := by
 unfold vInLoop at hv
 split at hv
 · rename_i e; exact ⟨_, _, _, _, _, _, _, _, e, hv⟩
 · cases hv
theorem pend_ok {X X' : AAct} {Kv : CV} {K : CK'} {A : VA} {pe : Option Code} {kn : AAct} (e : X = X') (hn : kn = X') (h1 : Kv .normal A h → K .normal X' σ = true) (h2 : Kv .ret A h → K .ret X' σ = true) (h3 : ∀ i, Kv (.exit i) A h → K (.exit i) X' σ = true)
 (hv : vPend pe (Kv .normal A h) (Kv .ret A h) (fun id => Kv (.exit id) A h)) : (match (generalizing := false) pe with | none => K .normal X σ | some .ret => K .ret X σ | some (.exit id) => K (.exit id) X σ | _ => false) = true := by
 subst e
 unfold vPend at hv
 split at hv
 · exact h1 hv
 · exact h2 hv
 · exact h3 _ hv
 · cases hv
theorem rangeV_core {Ev : VE} {E : Env} (r : ER P B σb Ev E) {A : VA} {A' : AAct} (s : VS P B σb c h σ) (a : AR c σ (Liv B c h) A A') {ls : List Nat} {vs : List V} (hl : vs.length = ls.length) (hg : ∀ (j i : Nat) (v : V), ls[j]? = some i → vs[j]? = some v → A.tmps.t.get i = some v) {g : FuncId} {fa fc : List V} {fa' fc' : List Value}
 (ra : VRL c σ (Liv B c h) fa fa') (rc : VRL c σ (Liv B c h) fc fc') {ps : List Tmp} {as bo : Code} {Kv : CV} {K : CK'} (k : CKR P B σb c h σ Kv K)
 (hv : vRange Ev (.func g fa fc) ls vs A.tmps.n ps as bo h fun pe h' => vPend pe (Kv .normal A h') (Kv .ret A h') fun id => Kv (.exit id) A h') :
 (newK σ (.loop A'.tmps ps as bo .ready none) fun l σ => appK fa' [.func (.yield l) #[] #[]] fun as => appK as fc' fun as => E.call g as σ fun _ σ =>
  getK σ.h l fun o => match o with
   | .loop tm ps as bo st pe => match st with
    | .busy => false
    | _ => setK σ l (.loop tm ps as bo .exhausted pe) fun σ => match pe with
     | none => K .normal A' σ
     | some .ret => K .ret A' σ
     | some (.exit id) => K (.exit id) A' σ
     | _ => false
   | _ => false) = true := by
 obtain ⟨l, h0, h1, h2⟩ := s.fresh
 have hv := hv l h0
 rw [newK_eq]
 obtain ⟨s1, le, fr, hb⟩ := s.newOb h0 h1 h2 (o := .loop ls vs A.tmps.n ps as bo .ready none) (ao := .loop A'.tmps ps as bo .ready none) rfl (fun d σ' C' le f => ⟨_, rfl, a.n, hl, fun j i v e1 e2 => by
  obtain ⟨w, g1, g2⟩ := a.got i v (hg j i v e1 e2)
  exact ⟨w, g1, g2.mono le f⟩⟩)
 rw [appK_eq, appK_eq]
 have ry : VR' (c.putι l σ.n) (σ.new (.loop A'.tmps ps as bo .ready none)) (Liv B (c.putι l σ.n) (upd h l (.loop ls vs A.tmps.n ps as bo .ready none))) (.yield l) (.func (.yield σ.n) #[] #[]) := .yield hb
 refine r.call' g s1 (((ra.mono le fr).app (.cons ry .nil)).app (rc.mono le fr)) ?_ hv
 intro c' h' σ' v w l2 f2 s2 rv hv
 unfold vLeft at hv
 split at hv
 · rename_i ls' vs' n' ps' as' bo' st pe e
   obtain ⟨b, ao, b1, b2, b3, b4, b5⟩ := s2.ob l _ e rfl
   have hbb := l2.ι _ _ hb
   rw [hbb] at b1
   injection b1 with b1
   subst b1
   obtain ⟨T, rfl, b6, b7, b8⟩ := b5
   show (getK σ'.h σ.n _) = true
   rw [getO b4]
   simp only
   have fin : ∀ {p : Prop}, (vPend pe (Kv .normal A (upd h' l (.loop ls' vs' n' ps' as' bo' .exhausted pe))) (Kv .ret A (upd h' l (.loop ls' vs' n' ps' as' bo' .exhausted pe))) fun id => Kv (.exit id) A (upd h' l (.loop ls' vs' n' ps' as' bo' .exhausted pe))) →
    (setK σ' σ.n (.loop T ps' as' bo' .exhausted pe) fun σ => match (generalizing := false) pe with
     | none => K .normal A' σ
     | some .ret => K .ret A' σ
     | some (.exit id) => K (.exit id) A' σ
     | _ => false) = true := by
    intro _ hv
    rw [setK_eq]
    obtain ⟨s3, f3⟩ := s2.setOb e rfl hbb (o := .loop ls' vs' n' ps' as' bo' .exhausted pe) (ao := .loop T ps' as' bo' .exhausted pe) rfl (fun σ' C' f => ⟨T, rfl, b6, b7, fun j i v e1 e2 => by
     obtain ⟨w, g1, g2⟩ := b8 j i v e1 e2
     exact ⟨w, g1, g2.mono (.refl _) f⟩⟩)
    have leA := le.trans l2
    have frA := (fr.trans f2).trans f3
    have aA := a.mono leA frA
    refine pend_ok (X := A') (X' := A') (Kv := Kv) (K := K) (kn := A') rfl rfl (fun hv => k _ _ _ A A' .normal leA frA s3 aA hv) (fun hv => k _ _ _ A A' .ret leA frA s3 aA hv) (fun i hv => k _ _ _ A A' (.exit i) leA frA s3 aA hv) hv
   split at hv
   · cases hv
   · rename_i hb'
     split
     · exact absurd rfl hb'
     · exact fin (p := True) hv
 · cases hv
theorem rangeV_sim {Ev : VE} {E : Env} (r : ER P B σb Ev E) {ro ro' : Option Nat} {f : Operand} {ps : Array Tmp} {as bo : Code} {A : VA} {A' : AAct} {Kv : CV} {K : CK'} (s : VS P B σb c h σ) (hro : RoV c ro ro') (a : AR c σ (Liv B c h) A A') (k : CKR P B σb c h σ Kv K) (hv : (rangeV tb ro f ps as bo).f Ev A h Kv) : rangeK E ro' f ps as bo A' σ K = true := by
 unfold rangeV at hv
 unfold rangeK
 refine evV_sim a hv fun fv fw rf hv => ?_
 obtain ⟨vs, hv, hl, hg⟩ := valsP_get hv
 rcases hro with ⟨rfl, rfl⟩ | ⟨l, b, rfl, rfl, hb⟩
 · have hv : vRange Ev fv (rliveC tb bo) vs A.tmps.n ps.toList as bo h _ := hv
   cases rf with
   | @func g fa fc fa' fc' la lc ha hc =>
    simp only
    rw [newK_eq]
    obtain ⟨s1, f1⟩ := newRaw s .defers
    have m1 : MkOk c (σ.new .defers) (Liv B c h) (σ.n :: A'.marks) := by
     have m := a.marks.mono (.refl c) f1
     refine ⟨m.n0, List.nodup_cons.2 ⟨fun hx => ?_, m.nd⟩, fun d hd => ?_⟩
     · exact Nat.lt_irrefl _ (a.marks.ok _ hx).2.1
     · rcases List.mem_cons.1 hd with rfl | hd
       · exact ⟨a.marks.n0, Nat.lt_succ_self _, fun x => Nat.lt_irrefl _ (s.lt_of_liv x), obj_new_same⟩
       · exact m.ok d hd
    have a0 := a.mono (.refl c) f1
    have a1 : AR c (σ.new .defers) (Liv B c h) A ⟨A'.tmps, σ.n :: A'.marks, A'.g⟩ := ⟨a0.n, a0.g, m1, a0.got, a0.abs⟩
    exact rangeV_core r s1 a1 hl hg ((⟨la, ha⟩ : VRL _ _ _ fa fa').mono (.refl c) f1) ((⟨lc, hc⟩ : VRL _ _ _ fc fc').mono (.refl c) f1) (fun c' h' σ' X X' e l2 f2 => k c' h' σ' X X' e l2 (f1.trans f2)) hv
   | _ => cases hv
 · have hv : vInLoop l h (vRange Ev fv (rliveC tb bo) vs A.tmps.n ps.toList as bo h _) := hv
   obtain ⟨_, _, _, _, _, _, _, _, e, hv⟩ := vInLoop_of hv
   cases rf with
   | @func g fa fc fa' fc' la lc ha hc =>
    simp only
    obtain ⟨b', ao, b1, b2, b3, b4, b5⟩ := s.ob l _ e rfl
    rw [hb] at b1
    injection b1 with b1
    subst b1
    obtain ⟨T, rfl, _⟩ := b5
    rw [getO b4]
    exact rangeV_core r s a hl hg ⟨la, ha⟩ ⟨lc, hc⟩ k hv
   | _ => cases hv
theorem codeV_sim {Ev : VE} {E : Env} (r : ER P B σb Ev E) {ro ro' : Option Nat} {lv : Code → LpV} {lx : Code → LpT} (hl : ∀ a, LpSim P B σb Ev E ro ro' (lv a) (lx a)) : ∀ (q : Code) {c : Cx} {h : Hp} {σ : St} {A : VA} {A' : AAct} {Kv : CV} {K : CK'},
 VS P B σb c h σ → RoV c ro ro' → AR c σ (Liv B c h) A A' → CKR P B σb c h σ Kv K → (codeV P tb ro lv q).f Ev A h Kv → (codeX P tb lx q).f E ro' A' σ K = true := by
 intro q
 induction q with
 | skip => intro c h σ A A' Kv K s hro a k hv; exact k c h σ A A' .normal (.refl c) (.refl _ σ) s a hv
 | label l => intro c h σ A A' Kv K s hro a k hv; exact k c h σ A A' .normal (.refl c) (.refl _ σ) s a hv
 | ret => intro c h σ A A' Kv K s hro a k hv; exact k c h σ A A' .ret (.refl c) (.refl _ σ) s a hv
 | exit i => intro c h σ A A' Kv K s hro a k hv; exact k c h σ A A' (.exit i) (.refl c) (.refl _ σ) s a hv
 | goto l => intro c h σ A A' Kv K s hro a k hv; cases hv
 | refuse l => intro c h σ A A' Kv K s hro a k hv; cases hv
 | rangeFunc f ps as bo _ _ =>
  intro c h σ A A' Kv K s hro a k hv
  have hv : (rangeV tb ro f ps as bo).f Ev A h Kv := hv
  exact rangeV_sim r s hro a k hv
 | region i ops draw =>
  intro c h σ A A' Kv K s hro a k hv
  have hv : (regV P ops draw).f Ev A h (fun A σ => Kv .normal A σ) := hv
  show (regX P ops draw).f E A' σ (fun A σ => K .normal A σ) = true
  exact regV_sim r s a (fun c' h' σ' X X' l f s' x hv => k c' h' σ' X X' .normal l f s' x hv) hv
 | seq x y ihx ihy =>
  intro c h σ A A' Kv K s hro a k hv
  refine ihx s hro a ?_ (show (codeV P tb ro lv x).f Ev A h (thenV P (joinOf tb y) (codeV P tb ro lv y) Ev Kv) from hv)
  intro c' h' σ' X X' e l f s' x hv
  cases e with
  | normal =>
   unfold thenV at hv
   show thenX P (joinOf tb y) (codeX P tb lx y) E ro' K .normal X' σ' = true
   unfold thenX
   simp only at hv ⊢
   cases hj : joinOf tb y with
   | none => simp only [hj] at hv ⊢; exact ihy s' (hro.mono l) x (k.mono l f) hv
   | some ls =>
    simp only [hj] at hv ⊢
    refine valsP_sim x hv fun vs ws rs hv => ?_
    unfold joinV at hv
    unfold joinX
    rw [r.eM] at hv
    cases hm : E.most with
    | zero => rw [hm] at hv; cases hv
    | succ m =>
     rw [hm] at hv
     obtain ⟨h2, hle, hv⟩ := hv
     obtain ⟨s2, f2⟩ := s'.drop hle
     have hv : canonP ls vs X.tmps.n P.globals.size (fun A => (codeV P tb ro lv y).f Ev A h2 Kv) := hv
     rw [x.n] at hv
     show canonK ls ws X'.tmps.n P.globals.size X'.marks (fun A => (codeX P tb lx y).f E ro' A σ' K) = true
     exact canonP_sim (x.marks.mono (.refl _) f2) (rs.mono (.refl _) f2) hv fun Y Y' y hv => ihy s2 (hro.mono l) y ((k.mono l f).mono (.refl _) f2) hv
  | exit i => exact k c' h' σ' X X' (.exit i) l f s' x hv
  | ret => exact k c' h' σ' X X' .ret l f s' x hv
 | cond b x y ihx ihy =>
  intro c h σ A A' Kv K s hro a k hv
  have hv : (evV b).f A (fun v => vIf v ((codeV P tb ro lv x).f Ev A h Kv) ((codeV P tb ro lv y).f Ev A h Kv)) := hv
  show (evW b).f A' (fun v => match v with | .bool b => bcase b ((codeX P tb lx x).f E ro' A' σ K) ((codeX P tb lx y).f E ro' A' σ K) | _ => false) = true
  rw [evW_eq]
  refine evV_sim a hv fun v w rv hv => ?_
  cases rv with
  | @bool b =>
   cases b with
   | true => exact ihx s hro a k hv
   | false => exact ihy s hro a k hv
  | _ => cases hv
 | block i x ih =>
  intro c h σ A A' Kv K s hro a k hv
  refine ih s hro a ?_ (show (codeV P tb ro lv x).f Ev A h (blockV i Kv) from hv)
  intro c' h' σ' X X' e l f s' x hv
  cases e with
  | normal => exact k c' h' σ' X X' .normal l f s' x hv
  | ret => exact k c' h' σ' X X' .ret l f s' x hv
  | exit j =>
   show (match Nat.beq j i with | true => K .normal X' σ' | false => K (.exit j) X' σ') = true
   have hv : vExit j i (Kv .normal X h') (Kv (.exit j) X h') := hv
   unfold vExit at hv
   cases hj : Nat.beq j i with
   | true => rw [hj] at hv; exact k c' h' σ' X X' .normal l f s' x hv
   | false => rw [hj] at hv; exact k c' h' σ' X X' (.exit j) l f s' x hv
 | scope x ih =>
  intro c h σ A A' Kv K s hro a k hv
  exact ih s hro a k hv
 | loop x ih =>
  intro c h σ A A' Kv K s hro a k hv
  have hv : valsP (keepOf tb x) A (fun vs => lv x Ev vs A.tmps.n h (outV P tb x Kv)) := hv
  show valsK (keepOf tb x) A' (fun vs => lx x E ro' vs A'.tmps.n A'.marks σ (outX P tb x K)) = true
  refine valsP_sim a hv fun vs ws rs hv => ?_
  rw [← a.n]
  refine hl x s hro a.marks rs ?_ hv
  intro c' h' σ' vs ws n e l f s' rs hv marks m
  exact canonP_sim m rs hv fun X X' x hx => k c' h' σ' X X' e l f s' x hx
theorem lpV_sim {Ev : VE} {E : Env} (r : ER P B σb Ev E) {ro ro' : Option Nat} : ∀ (m : Nat) (a : Code), LpSim P B σb Ev E ro ro' (lpVX P tb ro m a) (lpX P tb m a) := by
 intro m
 induction m with
 | zero => intro a c h σ vs ws n marks Kv K s hro mk rs k hv; cases hv
 | succ m ih =>
  intro a
  have go : ∀ (j : Nat) {c : Cx} {h : Hp} {σ : St} {vs : List V} {ws : List Value} {n : Nat} {marks : List Nat} {Kv : AExit → List V → Nat → Hp → Prop} {K : AExit → List Value → Nat → List Nat → St → Bool}, VS P B σb c h σ → RoV c ro ro' → MkOk c σ (Liv B c h) marks → VRL c σ (Liv B c h) vs ws → LKR P B σb c h σ Kv K → roundsV P tb a (codeV P tb ro (lpVX P tb ro m) a) Ev Kv j vs n h → roundsN P tb a (codeX P tb (lpX P tb m) a) E ro' K j ws n marks σ = true := by
   intro j
   induction j with
   | zero => intro c h σ vs ws n marks Kv K s hro mk rs k hv; cases hv
   | succ j ihj =>
    intro c h σ vs ws n marks Kv K s hro mk rs k hv
    obtain ⟨h2, hle, hv⟩ := hv
    obtain ⟨s2, f2⟩ := s.drop hle
    show canonK (keepOf tb a) ws n P.globals.size marks (fun A => (codeX P tb (lpX P tb m) a).f E ro' A σ (behindX tb a (roundsN P tb a (codeX P tb (lpX P tb m) a) E ro' K j) K)) = true
    refine canonP_sim (mk.mono (.refl _) f2) (rs.mono (.refl _) f2) hv fun X X' x hv => ?_
    refine codeV_sim r ih a s2 hro x ?_ hv
    intro c' h' σ' Y Y' e l f s' y hv
    have kk := (k.mono (.refl _) f2).mono l f
    cases e with
    | normal =>
     have hv : valsP (keepOf tb a) Y (fun vs => roundsV P tb a (codeV P tb ro (lpVX P tb ro m) a) Ev Kv j vs Y.tmps.n h') := hv
     show valsK (keepOf tb a) Y' (fun vs => roundsN P tb a (codeX P tb (lpX P tb m) a) E ro' K j vs Y'.tmps.n Y'.marks σ') = true
     refine valsP_sim y hv fun vs ws rs hv => ?_
     rw [← y.n]
     exact ihj s' (hro.mono l) y.marks rs kk hv
    | exit i =>
     have hv : valsP (outOf tb a (.exit i)) Y (fun vs => Kv (.exit i) vs Y.tmps.n h') := hv
     show valsK (outOf tb a (.exit i)) Y' (fun vs => K (.exit i) vs Y'.tmps.n Y'.marks σ') = true
     refine valsP_sim y hv fun vs ws rs hv => ?_
     rw [← y.n]
     exact kk c' h' σ' vs ws _ _ (.refl _) (.refl _ σ') s' rs hv _ y.marks
    | ret =>
     have hv : valsP (outOf tb a .ret) Y (fun vs => Kv .ret vs Y.tmps.n h') := hv
     show valsK (outOf tb a .ret) Y' (fun vs => K .ret vs Y'.tmps.n Y'.marks σ') = true
     refine valsP_sim y hv fun vs ws rs hv => ?_
     rw [← y.n]
     exact kk c' h' σ' vs ws _ _ (.refl _) (.refl _ σ') s' rs hv _ y.marks
  intro c h σ vs ws n marks Kv K s hro mk rs k hv
  have hv : roundsV P tb a (codeV P tb ro (lpVX P tb ro m) a) Ev Kv Ev.most vs n h := hv
  rw [r.eM] at hv
  exact go _ s hro mk rs k hv
/-! functions -/
theorem layTP_go {k : VTm → Prop} {k' : Tm → Bool} {g : Nat} {marks : List Nat} (hk : ∀ T T', AR c σ C ⟨T, g⟩ ⟨T', marks, g⟩ → k T → k' T' = true) : ∀ {vs : List V} {ws : List Value} {i : Nat} {T : VTm} {T' : Tm}, VRL c σ C vs ws → AR c σ C ⟨T, g⟩ ⟨T', marks, g⟩ →
 lrec (β := Nat → VTm → Prop) (fun _ T => k T) (fun a _ ih i T => setTP a T i fun T => ih (Nat.succ i) T) vs i T →
 lrec (β := Nat → Tm → Bool) (fun _ T => k' T) (fun a _ ih i T => setTK a T i fun T => forceN (Nat.succ i) fun i => ih i T) ws i T' = true := by
 intro vs
 induction vs with
 | nil => intro ws i T T' rs a hv; rw [rs.nil_inv]; exact hk _ _ a hv
 | cons v vs ih =>
  intro ws i T T' rs a hv
  obtain ⟨w, ws', rfl, rv, rs⟩ := rs.cons_inv
  rw [lrec_cons] at hv ⊢
  obtain ⟨h1, h2⟩ := setTP_iff hv
  rw [setTK_eq (by rw [show T'.n = T.n from a.n.symm]; exact h1), forceN_eq]
  exact ih rs (a.put rv) h2
theorem layPV_sim {k : VTm → Prop} {k' : Tm → Bool} {g : Nat} {marks : List Nat} (hk : ∀ T T', AR c σ C ⟨T, g⟩ ⟨T', marks, g⟩ → k T → k' T' = true) : ∀ {ps : List Tmp} {vs : List V} {ws : List Value} {T : VTm} {T' : Tm}, VRL c σ C vs ws → AR c σ C ⟨T, g⟩ ⟨T', marks, g⟩ → layPV ps vs T k → layP ps ws T' k' = true := by
 intro ps
 induction ps with
 | nil =>
  intro vs ws T T' rs a hv
  cases vs with
  | nil => rw [rs.nil_inv]; exact hk _ _ a hv
  | cons v vs => cases hv
 | cons p ps ih =>
  intro vs ws T T' rs a hv
  cases vs with
  | nil => cases hv
  | cons v vs =>
   obtain ⟨w, ws', rfl, rv, rs⟩ := rs.cons_inv
   have hv : setTP v T p (fun T => layPV ps vs T k) := hv
   obtain ⟨h1, h2⟩ := setTP_iff hv
   show setTK w T' p (fun T => layP ps ws' T k') = true
   rw [setTK_eq (by rw [show T'.n = T.n from a.n.symm]; exact h1)]
   exact ih rs (a.put rv) h2
def Cx.at (c : Cx) (n : Nat) : Cx := ⟨c.ι, c.η, c.θ, n⟩
theorem Cx.at0 (c : Cx) (n : Nat) : c.le0 (c.at n) := ⟨fun _ _ e => e, fun _ _ _ e => e, fun _ _ e => e⟩
theorem Fc.refl : Fc C σ σ C := ⟨Nat.le_refl _, fun _ _ _ _ _ _ e => e, fun _ h => .inl h⟩
theorem VS.at (s : VS P B σb c h σ) (n : Nat) : VS P B σb (c.at n) h σ := by
 refine ⟨s.base, s.bB, fun i o e eg => ?_, fun i vs t m e => ?_, s.inj, s.ηs, s.room, s.rooms, s.ηb, s.old⟩
 · obtain ⟨b, a, a1, a2, a3, a4, a5⟩ := s.ob i o e eg
   exact ⟨b, a, a1, a2, a3, a4, a5.mono' (c.at0 n) .refl⟩
 · obtain ⟨b, ws, olds, sz, a1, a2, a3, a4, a5, a6⟩ := s.gro i vs t m e
   exact ⟨b, ws, olds, sz, a1, a2, a3, a4, a5.mono' (c.at0 n) .refl, a6⟩
def kill (l : List Nat) (σ : St) : St := l.foldl (fun σ d => σ.set d .dead) σ
theorem kill_n : ∀ (l : List Nat) (σ : St), (kill l σ).n = σ.n := by
 intro l
 induction l with
 | nil => intro σ; rfl
 | cons d l ih => intro σ; exact ih _
theorem kill_other : ∀ (l : List Nat) (σ : St) {b : Nat}, b ∉ l → (kill l σ).obj b = σ.obj b := by
 intro l
 induction l with
 | nil => intro σ b _; rfl
 | cons d l ih =>
  intro σ b hb
  have := ih (σ.set d .dead) (b := b) (fun h => hb (.tail _ h))
  refine Eq.trans this ?_
  exact obj_set_other fun e => hb (e ▸ .head _)
theorem marksK_ok : ∀ (l : List Nat) (σ : St) (k : St → Bool), l.Nodup → (∀ d ∈ l, σ.obj d = some .defers) → marksK l σ k = k (kill l σ) := by
 intro l
 induction l with
 | nil => intro σ k _ _; rfl
 | cons d l ih =>
  intro σ k hn ho
  show (getK σ.h d fun o => match o with | .defers => setK σ d .dead fun σ => marksK l σ k | _ => false) = _
  rw [getO (ho d (.head _))]
  simp only
  rw [setK_eq]
  obtain ⟨h1, h2⟩ := List.nodup_cons.1 hn
  exact ih _ k h2 fun x hx => by rw [obj_set_other (fun e : x = d => h1 (e ▸ hx))]; exact ho x (.tail _ hx)
theorem kill_fc {l : List Nat} (hd : ∀ d ∈ l, σ.obj d = some .defers) : Fc C σ (kill l σ) C := by
 refine ⟨Nat.le_of_eq (kill_n l σ).symm, fun b h1 h2 vs e ck ho => ?_, fun _ h => .inl h⟩
 rw [kill_other l σ (fun hb => by rw [hd b hb] at ho; cases ho)]
 exact ho
theorem VS.kill (s : VS P B σb c h σ) {l : List Nat} (hd : ∀ d ∈ l, σb.n ≤ d ∧ ¬ Liv B c h d ∧ σ.obj d = some .defers) : VS P B σb c h (Am.kill l σ) := by
 have fc : Fc (Liv B c h) σ (Am.kill l σ) (Liv B c h) := kill_fc fun d hx => (hd d hx).2.2
 have l0 : c.le0 c := ⟨fun _ _ e => e, fun _ _ _ e => e, fun _ _ e => e⟩
 refine ⟨⟨by rw [kill_n]; exact s.base.n, fun j hj => ?_⟩, s.bB, fun i o e eg => ?_, fun i vs t m e => ?_, s.inj, s.ηs, s.room, s.rooms, fun i vs t n m b e e3 => by rw [kill_n]; exact s.ηb i vs t n m b e e3, fun i vs t n b ws e' olds e e3 e4 => s.old i vs t n b ws e' olds e e3 (by rw [kill_other l σ (fun hx => (hd b hx).2.1 (.inr ⟨i, .inr ⟨vs, t, n, n, e, e3⟩⟩))] at e4; exact e4)⟩
 · rw [kill_other l σ (fun hx => by have := (hd j hx).1; omega)]
   exact s.base.same j hj
 · obtain ⟨b, a, a1, a2, a3, a4, a5⟩ := s.ob i o e eg
   have hb : b ∉ l := fun hx => (hd b hx).2.1 (.inr ⟨i, .inl ⟨o, e, eg, a1⟩⟩)
   exact ⟨b, a, a1, a2, by rw [kill_n]; exact a3, by rw [kill_other l σ hb]; exact a4, a5.mono' l0 fc⟩
 · obtain ⟨b, ws, olds, sz, a1, a2, a3, a4, a5, a6⟩ := s.gro i vs t m e
   have hb : b ∉ l := fun hx => (hd b hx).2.1 (.inr ⟨i, .inr ⟨vs, t, m, m, e, a1⟩⟩)
   exact ⟨b, ws, olds, sz, a1, a2, by rw [kill_n]; exact a3, by rw [kill_other l σ hb]; exact a4, a5.mono' l0 fc, a6⟩
theorem resultsP_sim (s : VS P B σb c h σ) {A : VA} {A' : AAct} (a : AR c σ (Liv B c h) A A') : ∀ {rs : List ResultVar} {k : List V → Prop} {k' : List Value → Bool}, resultsP P rs A h k → (∀ vs ws, VRL c σ (Liv B c h) vs ws → k vs → k' ws = true) → resultsK P rs A' σ k' = true := by
 intro rs
 induction rs with
 | nil => intro k k' hv hk; exact hk [] [] .nil hv
 | cons x rs ih =>
  intro k k' hv hk
  cases x with
  | tmp t =>
   have hv : tmP A.tmps t (fun v => resultsP P rs A h fun vs => k (v :: vs)) := hv
   show tmK A'.tmps t (fun v => resultsK P rs A' σ fun vs => k' (v :: vs)) = true
   exact tmP_sim a hv fun v w rv hv => ih hv fun vs ws rs hv => hk _ _ (.cons rv rs) hv
  | cell x t =>
   have e1 : resultsP P (.cell x t :: rs) A h k = match isAggT P t, sizeT P t with
    | some false, _ => tmP A.tmps x fun a => vLd a h fun v _ => resultsP P rs A h fun vs => k (v :: vs)
    | some true, some (n + 1) => tmP A.tmps x fun a => vLdN (n + 1) a h fun v _ => resultsP P rs A h fun vs => k (v :: vs)
    | _, _ => False := rfl
   rw [e1] at hv
   show tmK A'.tmps x (fun a => loadK P t a σ fun v _ => resultsK P rs A' σ fun vs => k' (v :: vs)) = true
   split at hv
   · rename_i h1
     refine tmP_sim a hv fun v w rv hv => ?_
     rw [loadK_one h1]
     exact vLd_sim s rv (fun u y ru hu => ih hu fun vs ws rs hv => hk _ _ (.cons ru rs) hv) hv
   · rename_i n h1 h2
     refine tmP_sim a hv fun v w rv hv => ?_
     rw [loadK_agg h1 h2]
     exact vLdN_sim s (by omega) rv (fun u y ru hu => ih hu fun vs ws rs hv => hk _ _ (.cons ru rs) hv) hv
   · cases hv
theorem vRet_sim (s : VS P B σb c h σ) {v : V} {w : Value} (rv : VR' c σ (Liv B c h) v w) {Kv : KV} {K : VK} (k : KR P B σb c h σ Kv K) (hv : vRet v h Kv) : K w σ = true := by
 obtain ⟨h', u, hle, hf, hv⟩ := hv
 obtain ⟨d, τ, le, s2, f2, r2⟩ := Fz_sim s hle rv hf
 exact k d h' σ _ w le f2 s2 r2 (hv τ)
theorem fnV_sim {tb : FuncId → LiveT} {Ev : VE} {E : Env} (r : ER P B σb Ev E) (f : FuncId) {args : List V} {ws : List Value} {Kv : KV} {K : VK} (s : VS P B σb c h σ) (ra : VRL c σ (Liv B c h) args ws) (k : KR P B σb c h σ Kv K) (hv : fnV P tb f Ev args h Kv) : fnX P tb f E ws σ K = true := by
 unfold fnV at hv
 unfold fnX
 cases hf : P.funcs[f]? with
 | none => simp only [hf] at hv
 | some fn =>
  simp only [hf] at hv ⊢
  cases hb : fn.body with
  | none => simp only [hb] at hv
  | some q =>
   simp only [hb] at hv ⊢
   rw [forceN_eq]
   have m0 : MkOk (c.at σ.n) σ (Liv B c h) [] := ⟨Nat.le_refl _, .nil, fun d hd => by cases hd⟩
   refine layTP_go (c := c.at σ.n) (g := P.globals.size) (fun T T' a hv => ?_) (ra.mono' (c.at0 _) .refl) (.leaf m0) hv
   refine codeV_sim r (lpV_sim r deepX) q (s.at σ.n) (.inl ⟨rfl, rfl⟩) a ?_ hv
   intro c' h' σ' X X' e l f s' x hv
   have fin : resultsP P fn.results.toList X h' (fun vs => match vs with | [v] => vRet v h' Kv | vs => vRet (.tuple vs) h' Kv) → marksK X'.marks σ' (fun σ => resultsK P fn.results.toList X' σ fun vs => match vs with | [v] => K v σ | vs => K (.tuple ⟨vs⟩) σ) = true := by
    intro hv
    have hm := x.marks
    have hn0 : c'.n0 = σ.n := l.n0
    rw [marksK_ok X'.marks σ' _ hm.nd fun d hd => (hm.ok d hd).2.2.2]
    have s1 : VS P B σb c' h' (kill X'.marks σ') := s'.kill fun d hd => ⟨by have := (hm.ok d hd).1; have := s.base.n; omega, (hm.ok d hd).2.2.1, (hm.ok d hd).2.2.2⟩
    have s2 : VS P B σb (c'.at c.n0) h' (kill X'.marks σ') := s1.at c.n0
    have le2 : c.le (c'.at c.n0) := ⟨fun i b e => l.ι i b e, fun i n v e => l.η i n v e, fun i v e => l.θ i v e, rfl⟩
    have f2 : Fr' (Liv B c h) σ (kill X'.marks σ') (Liv B c' h') := by
     refine ⟨by rw [kill_n]; exact f.n, fun b h1 h2 => ?_, f.sub⟩
     rw [kill_other _ _ fun hx => by have := (hm.ok b hx).1; omega]
     exact f.same b h1 h2
    have fc : Fc (Liv B c' h') σ' (kill X'.marks σ') (Liv B c' h') := kill_fc fun d hd => (hm.ok d hd).2.2.2
    have x2 : AR c' (kill X'.marks σ') (Liv B c' h') X ⟨X'.tmps, [], X'.g⟩ :=
     ⟨x.n, x.g, ⟨by rw [kill_n]; exact hm.n0, .nil, fun d hd => by cases hd⟩, fun i v e => let ⟨w, p, q⟩ := x.got i v e; ⟨w, p, (q.mono' ⟨fun _ _ e => e, fun _ _ _ e => e, fun _ _ e => e⟩ fc)⟩, x.abs⟩
    show resultsK P fn.results.toList ⟨X'.tmps, [], X'.g⟩ (kill X'.marks σ') (fun vs => match vs with | [v] => K v (kill X'.marks σ') | vs => K (.tuple ⟨vs⟩) (kill X'.marks σ')) = true
    refine resultsP_sim s1 x2 hv fun vs ws rs hv => ?_
    have rs : VRL (c'.at c.n0) (kill X'.marks σ') (Liv B (c'.at c.n0) h') vs ws := rs.mono' (c'.at0 c.n0) .refl
    have kk : KR P B σb (c'.at c.n0) h' (kill X'.marks σ') Kv K := fun c2 h2 σ2 v w l2 f3 => k c2 h2 σ2 v w (le2.trans l2) (f2.trans f3)
    match vs, ws, rs, hv with
    | [v], ws, rs, hv =>
     obtain ⟨w, ws', rfl, rv, rs⟩ := rs.cons_inv
     rw [rs.nil_inv]
     exact vRet_sim s2 rv kk hv
    | [], ws, rs, hv =>
     rw [rs.nil_inv]
     exact vRet_sim s2 (.tuple (a' := []) rfl fun k v w e => by simp at e) kk hv
    | a :: b :: vs, ws, rs, hv =>
     obtain ⟨w, ws', rfl, rv, rs⟩ := rs.cons_inv
     obtain ⟨w2, ws2, rfl, rv2, rs⟩ := rs.cons_inv
     exact vRet_sim s2 (.tuple (VRL.cons rv (.cons rv2 rs)).len (VRL.cons rv (.cons rv2 rs)).rd) kk hv
   cases e with
   | normal => exact fin hv
   | ret => exact fin hv
   | exit i => cases hv
theorem valsK_of {T : Tm} {g : Nat} : ∀ {ls : List Nat} {vs : List V}, vs.length = ls.length → (∀ (j i : Nat) (v : V), ls[j]? = some i → vs[j]? = some v → ∃ w, T.t.get i = some w ∧ VR' c σ C v w) → ∃ ws, VRL c σ C vs ws ∧ ∀ k' : List Value → Bool, valsK ls ⟨T, [], g⟩ k' = k' ws := by
 intro ls
 induction ls with
 | nil =>
  intro vs hl _
  obtain rfl : vs = [] := List.eq_nil_of_length_eq_zero (by simpa using hl)
  exact ⟨[], .nil, fun k' => rfl⟩
 | cons i ls ih =>
  intro vs hl hg
  cases vs with
  | nil => simp at hl
  | cons v vs =>
   obtain ⟨w, e, rv⟩ := hg 0 i v rfl rfl
   obtain ⟨ws, rs, hk⟩ := ih (vs := vs) (by simpa using hl) fun j x u h1 h2 => hg (j + 1) x u (by simpa using h1) (by simpa using h2)
   refine ⟨w :: ws, .cons rv rs, fun k' => ?_⟩
   show tmK T i (fun v => valsK ls ⟨T, [], g⟩ fun vs => k' (v :: vs)) = _
   unfold tmK
   rw [getK_eq, e]
   exact hk _
theorem vOver_sim {l b : Nat} {st : LoopState} {pe : Option Code} {bb : Bool} {Kv : KV} {K : VK} (s : VS P B σb c h σ) (hb : c.ι l = some b) (k : KR P B σb c h σ Kv K) (hv : vOver l st pe bb h Kv) :
 ∃ T ps as bo st' pe', σ.obj b = some (.loop T ps as bo st' pe') ∧ K (.bool bb) (σ.set b (.loop T ps as bo st pe)) = true := by
 unfold vOver at hv
 split at hv
 · rename_i ls vs n ps as bo st' pe' e
   obtain ⟨b', ao, b1, b2, b3, b4, b5⟩ := s.ob l _ e rfl
   rw [hb] at b1
   injection b1 with b1
   subst b1
   obtain ⟨T, rfl, b6, b7, b8⟩ := b5
   obtain ⟨s3, f3⟩ := s.setOb e rfl hb (o := .loop ls vs n ps as bo st pe) (ao := .loop T ps as bo st pe) rfl (fun σ' C' f => ⟨T, rfl, b6, b7, fun j i v e1 e2 => by
    obtain ⟨w, g1, g2⟩ := b8 j i v e1 e2
    exact ⟨w, g1, g2.mono (.refl _) f⟩⟩)
   exact ⟨T, ps, as, bo, st', pe', b4, k _ _ _ _ _ (.refl _) f3 s3 .bool hv⟩
 · cases hv
theorem roundV_sim {tb : FuncId → LiveT} {Ev : VE} {E : Env} (r : ER P B σb Ev E) (l b : Nat) {args : List V} {ws : List Value} {Kv : KV} {K : VK} (s : VS P B σb c h σ) (hb : c.ι l = some b) (ra : VRL c σ (Liv B c h) args ws) (k : KR P B σb c h σ Kv K) (hv : roundV P tb Ev l args h Kv) : roundX P tb E b ws σ K = true := by
 unfold roundV at hv
 split at hv
 · rename_i ls vs n ps as bo st pe e
   obtain ⟨rfl, hv⟩ := hv
   obtain ⟨b', ao, b1, b2, b3, b4, b5⟩ := s.ob l _ e rfl
   rw [hb] at b1
   injection b1 with b1
   subst b1
   obtain ⟨T, rfl, rfl, b7, b8⟩ := b5
   unfold roundX
   rw [getO b4]
   simp only
   have m0 : MkOk (c.at σ.n) σ (Liv B c h) [] := ⟨Nat.le_refl _, .nil, fun d hd => by cases hd⟩
   obtain ⟨us, rs, hus⟩ := valsK_of (g := P.globals.size) b7 b8
   rw [hus]
   unfold roundC at hv
   refine canonP_sim (c := c.at σ.n) m0 (rs.mono' (c.at0 _) .refl) hv fun X X' x hv => ?_
   refine layPV_sim (g := P.globals.size) (marks := []) (fun T1 T1' a hv => ?_) (ra.mono' (c.at0 _) .refl) (show AR (c.at σ.n) σ (Liv B c h) ⟨X.tmps, P.globals.size⟩ ⟨X'.tmps, [], P.globals.size⟩ from ⟨x.n, rfl, m0, x.got, x.abs⟩) hv
   have back : ∀ {c' : Cx} {h' : Hp} {σ' : St}, (c.at σ.n).le c' → Fr' (Liv B c h) σ σ' (Liv B c' h') → KR P B σb (c'.at c.n0) h' σ' Kv K := by
    intro c' h' σ' l1 f1 c2 h2 σ2 v w l2 f2
    have l3 : c.le (c'.at c.n0) := ⟨fun i b e => l1.ι i b e, fun i n v e => l1.η i n v e, fun i v e => l1.θ i v e, rfl⟩
    exact k c2 h2 σ2 v w (l3.trans l2) (f1.trans f2)
   refine codeV_sim r (lpV_sim r deepX) as (s.at σ.n) (.inr ⟨l, b, rfl, rfl, hb⟩) a ?_ hv
   intro c' h' σ' Y Y' e' l1 f1 s' y hv
   cases e' with
   | exit i => cases hv
   | ret => cases hv
   | normal =>
    have hv : vBusy l h' (fun σ => (codeV P (tb (rkey T.n bo)) (some l) (lpVX P (tb (rkey T.n bo)) (some l) deepX) bo).f Ev Y σ (endV l Kv)) := hv
    have hb' : c'.ι l = some b := l1.ι _ _ hb
    unfold vBusy at hv
    split at hv
    · rename_i ls2 vs2 n2 ps2 as2 bo2 pe2 e2
      obtain ⟨b', ao, q1, q2, q3, q4, q5⟩ := s'.ob l _ e2 rfl
      rw [hb'] at q1
      injection q1 with q1
      subst q1
      obtain ⟨T2, rfl, q6, q7, q8⟩ := q5
      show (getK σ'.h b fun o => match o with
       | .loop tm ps as bo' .ready pe => setK σ' b (.loop tm ps as bo' .busy pe) fun σ => (codeX P (tb (rkey T.n bo)) (lpX P (tb (rkey T.n bo)) deepX) bo).f E (some b) Y' σ (endX b K)
       | _ => false) = true
      rw [getO q4]
      simp only
      rw [setK_eq]
      obtain ⟨s3, f3⟩ := s'.setOb e2 rfl hb' (o := .loop ls2 vs2 n2 ps2 as2 bo2 .busy pe2) (ao := .loop T2 ps2 as2 bo2 .busy pe2) rfl (fun σ' C' f => ⟨T2, rfl, q6, q7, fun j i v e1 e2 => by
       obtain ⟨w, g1, g2⟩ := q8 j i v e1 e2
       exact ⟨w, g1, g2.mono (.refl _) f⟩⟩)
      refine codeV_sim r (lpV_sim r deepX) bo s3 (.inr ⟨l, b, rfl, rfl, hb'⟩) (y.mono (.refl _) f3) ?_ hv
      intro c2 h2 σ2 Z Z' e3 l2 f2 s2 z hv
      have hb2 : c2.ι l = some b := l2.ι _ _ hb'
      have kk := back (l1.trans l2) ((f1.trans f3).trans f2)
      unfold endX
      cases e3 with
      | normal =>
       obtain ⟨T3, ps3, as3, bo3, st3, pe3, g1, g2⟩ := vOver_sim (s2.at c.n0) hb2 kk hv
       rw [getO g1]
       simp only
       rw [setK_eq]
       exact g2
      | ret =>
       obtain ⟨T3, ps3, as3, bo3, st3, pe3, g1, g2⟩ := vOver_sim (s2.at c.n0) hb2 kk hv
       rw [getO g1]
       simp only
       rw [setK_eq]
       exact g2
      | exit i =>
       obtain ⟨T3, ps3, as3, bo3, st3, pe3, g1, g2⟩ := vOver_sim (s2.at c.n0) hb2 kk hv
       rw [getO g1]
       simp only
       rw [setK_eq]
       exact g2
    · cases hv
 · cases hv
def OvSim (P : Program) (B : Nat → Prop) (σb : St) (ovv : OvV) (ov : FuncId → Option (List Value → St → VK → Bool)) : Prop :=
 (∀ f, ovv f = none → ov f = none) ∧ ∀ f g, ovv f = some g → ∃ g', ov f = some g' ∧ ∀ {args : List V} {ws : List Value} {c : Cx} {h : Hp} {σ : St} {Kv : KV} {K : VK}, VS P B σb c h σ → VRL c σ (Liv B c h) args ws → KR P B σb c h σ Kv K → g args h Kv → g' ws σ K = true
theorem venv_sim {tb : FuncId → LiveT} {ovv : OvV} {ov : FuncId → Option (List Value → St → VK → Bool)} (ho : OvSim P B σb ovv ov) (most : Nat) : ∀ n, ER P B σb (venv P tb ovv most n) (envX P tb ov most n) := by
 intro n
 induction n with
 | zero => exact ⟨rfl, rfl, fun f args ws c h σ Kv K s ra k hv => (by cases hv), fun l b args ws c h σ Kv K s hb ra k hv => (by cases hv)⟩
 | succ n ih =>
  refine ⟨rfl, rfl, fun f args ws c h σ Kv K s ra k hv => ?_, fun l b args ws c h σ Kv K s hb ra k hv => roundV_sim ih l b s hb ra k hv⟩
  have hv : (match ovv f with | some g => g args h Kv | none => fnV P tb f (venv P tb ovv most n) args h Kv) := hv
  show (match ov f with | some g => g ws σ K | none => fnX P tb f (envX P tb ov most n) ws σ K) = true
  cases hf : ovv f with
  | none =>
   rw [hf] at hv
   rw [ho.1 f hf]
   exact fnV_sim ih f s ra k hv
  | some g =>
   rw [hf] at hv
   obtain ⟨g', e, hg⟩ := ho.2 f g hf
   rw [e]
   exact hg s ra k hv
end
end Go.Am

namespace Go.Am
open Go.RowKit Go.MapKept
section
variable (P : Program) (T : LiveT) (r : Option Nat) (E : VE)
theorem descendV_join (m : Nat) (k k' : Nat → Code → CV → Prop) (h : ∀ D c K, k D c K = ncase m False fun _ => k' D c K) : ∀ (p : List Dir) (D : Nat) (c : Code) (ms : List Nat) (K : CV), descendV P T r E p D c ms K k = ncase m False fun _ => descendV P T r E p D c ms K k' := by
 have hf : (False : Prop) = ncase m False fun _ => False := by cases m <;> rfl
 intro p
 induction p with
 | nil => intro D c ms K; exact h D c K
 | cons q p ih =>
  intro D c ms K
  cases q <;> cases c <;> first
   | exact hf
   | exact ih _ _ _ _
   | (cases D with
      | zero => exact hf
      | succ D => cases ms with
       | nil => exact hf
       | cons m ms => exact ih _ _ _ _)
end
section
variable {P : Program} {tb : FuncId → LiveT}
theorem vjmpJ_eq (f : FuncId) (E : VE) (p : List Dir) (ms : List Nat) (vs : List V) (σ : Hp) (K : KV) (hm : E.most ≠ 0) : vjmpJ P tb f E p ms vs σ K = vjmp0 P tb f E p ms vs σ K := by
 obtain ⟨m, hm⟩ := Nat.exists_eq_succ_of_ne_zero hm
 unfold vjmpJ vjmp0
 cases P.funcs[f]? with
 | none => rfl
 | some fn =>
  simp only
  cases fn.body with
  | none => rfl
  | some c =>
   simp only
   rw [descendV_join P (tb f) none E E.most _ (fun D c K => match joinOf (tb f) c with
    | some l => vDrop σ fun σ => canonP l vs fn.ntmps P.globals.size fun A => (codeV P (tb f) none (lpVX P (tb f) none D) c).f E A σ K
    | none => False) (fun D c K => by
     cases joinOf (tb f) c with
     | none => rw [hm]; rfl
     | some l => rfl), hm]
   rfl
theorem roundV_at {E : VE} {l n : Nat} {ls : List Nat} {vs args : List V} {ps : List Tmp} {as bo : Code} {st : LoopState} {pe : Option Code} {σ : Hp} {K : KV} (h : σ l = some (.loop ls vs n ps as bo st pe)) (e : ls = rlive tb n bo) (hr : roundC P tb E n ps as bo l vs args σ K) : roundV P tb E l args σ K := by
 unfold roundV
 simp only [h]
 exact ⟨e, hr⟩
/-! what goes on as it is -/
theorem vRet_here {v : V} {σ : Hp} {K : KV} (h : K v σ) : vRet v σ K := ⟨σ, fun _ => v, fun _ _ h => h, fun _ => .one (.keep v), fun _ => h⟩
theorem vDrop_here {σ : Hp} {k : Hp → Prop} (h : k σ) : vDrop σ k := ⟨σ, fun _ _ h => h, h⟩
theorem VE.call_here {E : VE} {c : FuncId} {args : List V} {σ : Hp} {K : KV} (h : E.C c args σ K) : E.call c args σ K :=
 ⟨σ, fun _ => args, fun _ _ h => h, fun _ => ⟨rfl, fun j v u a b => by rw [a] at b; injection b with b; subst b; exact .keep v⟩, fun _ => h⟩
theorem venv_call {ov : OvV} {most n : Nat} {f : FuncId} (h : ov f = none) (args : List V) (σ : Hp) (K : KV) : (venv P tb ov most (n + 1)).C f args σ K = fnV P tb f (venv P tb ov most n) args σ K := by
 show (match (generalizing := false) ov f with | some g => g args σ K | none => fnV P tb f (venv P tb ov most n) args σ K) = _
 rw [h]
theorem venv_ov {ov : OvV} {most n : Nat} {f : FuncId} {g : List V → Hp → KV → Prop} (h : ov f = some g) (args : List V) (σ : Hp) (K : KV) : (venv P tb ov most (n + 1)).C f args σ K = g args σ K := by
 show (match (generalizing := false) ov f with | some g => g args σ K | none => fnV P tb f (venv P tb ov most n) args σ K) = _
 rw [h]
end
end Go.Am

namespace Go.Proofs.Mdl
def powF : Nat → Nat → Nat → Nat → Nat → Nat
 | 0, out, _, _, _ => out
 | f + 1, out, a, e, m => match Nat.beq e 0 with
  | true => out
  | false => powF f (match Nat.beq (e % 2) 1 with | true => out * a % m | false => out) (a * a % m) (e / 2) m
theorem powF_zero (f out a m : Nat) : powF f out a 0 m = out := by cases f <;> rfl
theorem powF_succ {f out a e m : Nat} (h : 0 < e) : powF (f + 1) out a e m = powF f (if e % 2 = 1 then out * a % m else out) (a * a % m) (e / 2) m := by
 have e1 : Nat.beq e 0 = false := by cases e with | zero => omega | succ e => rfl
 show (match Nat.beq e 0 with | true => out | false => _) = _
 rw [e1]
 by_cases h2 : e % 2 = 1
 · have e2 : Nat.beq (e % 2) 1 = true := by rw [h2]; rfl
   simp only [e2, if_pos h2]
 · have e2 : Nat.beq (e % 2) 1 = false := by have : e % 2 = 0 := by omega
                                             rw [this]; rfl
   simp only [e2, if_neg h2]
def subN (a b m : Nat) : Nat := (a % m + m - b % m) % m
def invF : Nat → Nat → Nat → Nat → Nat → Nat → Nat × Nat
 | 0, r, _, x, _, _ => (r, x)
 | f + 1, r, s, x, y, m => match Nat.beq s 0 with
  | true => (r, x)
  | false => invF f s (r % s) y (subN x (r / s * y % m) m) m
theorem invF_zero (f r x y m : Nat) : invF f r 0 x y m = (r, x) := by cases f <;> rfl
theorem invF_succ {f r s x y m : Nat} (h : 0 < s) : invF (f + 1) r s x y m = invF f s (r % s) y (subN x (r / s * y % m) m) m := by
 have e1 : Nat.beq s 0 = false := by cases s with | zero => omega | succ s => rfl
 show (match Nat.beq s 0 with | true => _ | false => _) = _
 rw [e1]
end Go.Proofs.Mdl

namespace Go.Am
open Go.RowKit Go.MapKept
section
variable {P : Program} {σ σ' σ0 : Hp} {K : KV}
theorem upd_upd {i : Nat} {a b : Ob} : upd (upd σ i a) i b = upd σ i b := by
 funext j
 unfold upd
 by_cases h : j = i
 · rw [if_pos h, if_pos h]
 · rw [if_neg h, if_neg h, if_neg h]
theorem upd_self {i : Nat} {a : Ob} (h : σ i = some a) : upd σ i a = σ := by
 funext j
 unfold upd
 by_cases e : j = i
 · rw [if_pos e, e, h]
 · rw [if_neg e]
theorem Hle.refl (σ : Hp) : Hle σ σ := fun _ _ h => h
theorem Hle.trans {a b c : Hp} (h : Hle a b) (k : Hle b c) : Hle a c := fun i o e => k i o (h i o e)
theorem Hle.upd_new {i : Nat} {a : Ob} (h : σ i = none) : Hle σ (upd σ i a) := fun j o e => by
 unfold upd
 by_cases h1 : j = i
 · subst h1; rw [h] at e; cases e
 · rw [if_neg h1]; exact e
/-! operations on what is known -/
@[simp] theorem vLd_p {i o : Nat} {vs : List V} {t : TypeId} (h : σ i = some (.row vs t)) : vLd (.ptr i o) σ K = vNth vs o fun v => K v σ := by
  show (match σ i with | some (.row vs _) => vNth vs o fun v => K v σ | _ => False) = _
  rw [h]
@[simp] theorem vLdN_p {n i o : Nat} {vs : List V} {t : TypeId} (h : σ i = some (.row vs t)) : vLdN n (.ptr i o) σ K = vPart vs o n fun l => K (.agg l) σ := by
  show (match σ i with | some (.row vs _) => vPart vs o n fun l => K (.agg l) σ | _ => False) = _
  rw [h]
theorem vLd_l {τ : Tag} {cs : List Dt} {o : Nat} : vLd (.lptr τ cs o) σ K = vNth cs o fun d => K (T (.sub τ o) d) σ := rfl
theorem vLdN_l {n : Nat} {τ : Tag} {cs : List Dt} {o : Nat} : vLdN n (.lptr τ cs o) σ K = vPart cs o n fun l => K (.agg (Tl τ o l)) σ := rfl
theorem vNil_p {i o : Nat} {k : V → Prop} : vNil P (.ptr i o) k = k (.ptr i o) := rfl
theorem vGuard_t {w : Bool} {op : KV → Prop} {k : KV} : vGuard w (.bool w) op σ k = op k := by cases w <;> rfl
theorem vGuard_tf {op : KV → Prop} {k : KV} : vGuard true (.bool false) op σ k = k undV σ := rfl
theorem vGuard_ft {op : KV → Prop} {k : KV} : vGuard false (.bool true) op σ k = k undV σ := rfl
theorem vLenS_l {τ : Tag} {cs : List Dt} {n : Nat} {k : V → Prop} : vLenS (.list τ cs n) k = k (.int .i64 (.ofNat n)) := rfl
theorem vIdx_l {size n : Nat} {τ : Tag} {cs : List Dt} {j : IntKind} {i : Nat} (h : i < n) {k : V → Prop} : vIdx size (.list τ cs n) (.int j (.ofNat i)) k = k (.lptr τ cs (i * size)) := by
 show (i < n ∧ _) = _
 simp [h]
theorem vNth_some {α : Type} {l : List α} {i : Nat} {a : α} (h : l[i]? = some a) {k : α → Prop} : vNth l i k = k a := by unfold vNth; rw [h]
theorem vPart_ok {α : Type} {l : List α} {o n : Nat} (h : o + n ≤ l.length) {k : List α → Prop} : vPart l o n k = k ((l.drop o).take n) := by unfold vPart; simp [h]
/-! a list that is made -/
theorem Hle.none {a b : Hp} (h : Hle a b) {i : Nat} (e : b i = none) : a i = none := by
 cases q : a i with
 | none => rfl
 | some o => rw [h i o q] at e; cases e
theorem upd_none {i j : Nat} {a : Ob} (e : upd σ i a j = none) : j ≠ i ∧ σ j = none := by
 by_cases h : j = i
 · subst h; rw [upd_same] at e; cases e
 · rw [upd_other h] at e; exact ⟨h, e⟩
theorem vBuildS_one {el : TypeId} {n : Nat} {zero : List Value} {z cs : List V} (hz : ofVs zero = some z) (hzl : z.length = n) (hc : cs.length = n) (ho : cs.all oneV = true) (hk : ∀ j, σ j = none → K (.own j 0 1 1) (upd σ j (.row cs el))) : vBuildS el 1 zero [(0, n, .agg cs)] σ K := by
 unfold vBuildS vZero
 rw [hz]
 show vFill [(0, n, .agg cs)] (List.replicate 1 z).flatten _
 unfold vFill
 refine ⟨ho, hc, by simp [hzl], ?_⟩
 unfold vFill
 have : splice 0 cs (List.replicate 1 z).flatten = cs := by simp [splice, hc, ← hzl]
 rw [this]
 exact hk
theorem vSrc_own {size i m c : Nat} {vs : List V} {t : TypeId} (h : σ i = some (.row vs t)) (hl : vs.length = m * size) {k : Nat → List V → Prop} (hk : k m vs) : vSrc size (.own i 0 m c) σ k := by
 unfold vSrc
 simp only [h]
 rw [vPart_ok (by omega), List.drop_zero, List.take_of_length_le (by omega)]
 exact hk
theorem vBinI_lss {t : TypeId} {k : IntKind} {x y : Int} {K : V → Prop} : vBin P .lss t (.int k x) (.int k y) K = K (.bool (decide (x < y))) := by simp [vBin, isShift, vBinI]
theorem vBinI_leq {t : TypeId} {k : IntKind} {x y : Int} {K : V → Prop} : vBin P .leq t (.int k x) (.int k y) K = K (.bool (decide (x ≤ y))) := by simp [vBin, isShift, vBinI]
theorem vBinI_gtr {t : TypeId} {k : IntKind} {x y : Int} {K : V → Prop} : vBin P .gtr t (.int k x) (.int k y) K = K (.bool (decide (y < x))) := by simp [vBin, isShift, vBinI]
theorem vBinI_geq {t : TypeId} {k : IntKind} {x y : Int} {K : V → Prop} : vBin P .geq t (.int k x) (.int k y) K = K (.bool (decide (y ≤ x))) := by simp [vBin, isShift, vBinI]
theorem vBinI_eql {t : TypeId} {k : IntKind} {x y : Int} {K : V → Prop} : vBin P .eql t (.int k x) (.int k y) K = K (.bool (decide (x = y))) := by simp [vBin, isShift, vBinI]
theorem vBinI_neq {t : TypeId} {k : IntKind} {x y : Int} {K : V → Prop} : vBin P .neq t (.int k x) (.int k y) K = K (.bool (!decide (x = y))) := by simp [vBin, isShift, vBinI]
theorem vBinI_add {t : TypeId} {k : IntKind} {x y : Int} {K : V → Prop} : vBin P .add t (.int k x) (.int k y) K = K (.int k (wrapI k (x + y))) := by simp [vBin, isShift, vBinI]
theorem vBinI_sub {t : TypeId} {k : IntKind} {x y : Int} {K : V → Prop} : vBin P .sub t (.int k x) (.int k y) K = K (.int k (wrapI k (x - y))) := by simp [vBin, isShift, vBinI]
theorem vBinI_mul {t : TypeId} {k : IntKind} {x y : Int} {K : V → Prop} : vBin P .mul t (.int k x) (.int k y) K = K (.int k (wrapI k (x * y))) := by simp [vBin, isShift, vBinI]
theorem vBinI_rem {t : TypeId} {k : IntKind} {x y : Int} (hy : y ≠ 0) {K : V → Prop} : vBin P .rem t (.int k x) (.int k y) K = K (.int k (x.tmod y)) := by simp [vBin, isShift, vBinI, hy]
theorem wrap_small {n : Int} (h0 : -9223372036854775808 ≤ n) (h1 : n ≤ 9223372036854775807) : wrapI .i64 n = n := by
 rw [wrapI_eq, wrap_in _ _ (by simpa [IntKind.min, IntKind.bits, IntKind.signed] using h0) (by simpa [IntKind.max, IntKind.bits, IntKind.signed] using h1)]
end
end Go.Am

namespace Go.Am
open Go.RowKit Go.MapKept
def Deep (P : Program) (tb : FuncId → LiveT) (ov : OvV) (M : Nat) : Nat → VE → Prop
 | 0, x => x.most = M
 | n + 1, x => x.most = M ∧ (∀ f g, ov f = some g → x.C f = g) ∧ ∃ y, Deep P tb ov M n y ∧ (∀ f, ov f = none → ∀ args σ K, x.C f args σ K = fnV P tb f y args σ K) ∧ ∀ l args σ K, x.R l args σ K = roundV P tb y l args σ K
section
variable {P : Program} {tb : FuncId → LiveT} {ov : OvV} {M : Nat} {x : VE} {σ : Hp} {K : KV}
theorem Deep.most {n : Nat} (h : Deep P tb ov M n x) : x.most = M := by cases n with | zero => exact h | succ n => exact h.1
theorem Deep.call {n : Nat} (hx : Deep P tb ov M (n + 1) x) {f : FuncId} (hf : ov f = none) {args : List V} (h : ∀ y, Deep P tb ov M n y → fnV P tb f y args σ K) : x.call f args σ K := by
 obtain ⟨h1, h2, y, h3, h4, _⟩ := hx
 exact VE.call_here (by rw [h4 f hf]; exact h y h3)
theorem Deep.round {n : Nat} (hx : Deep P tb ov M (n + 1) x) {l : Nat} {args : List V} (h : ∀ y, Deep P tb ov M n y → roundV P tb y l args σ K) : x.R l args σ K := by
 obtain ⟨h1, h2, y, h3, h4, h5⟩ := hx
 rw [h5]; exact h y h3
theorem Deep.callOv {n : Nat} (hx : Deep P tb ov M (n + 1) x) {f : FuncId} {g : List V → Hp → KV → Prop} (hf : ov f = some g) {args : List V} (h : g args σ K) : x.call f args σ K := by
 obtain ⟨h1, h2, _⟩ := hx
 exact VE.call_here (by rw [h2 f g hf]; exact h)
theorem venv_deep (n : Nat) : Deep P tb ov M n (venv P tb ov M n) := by
 induction n with
 | zero => rfl
 | succ n ih => exact ⟨rfl, fun f g h => by funext args σ K; exact venv_ov h args σ K, _, ih, fun f h args σ K => venv_call h args σ K, fun l args σ K => rfl⟩
theorem vSt_one {i o : Nat} {vs : List V} {t : TypeId} {v : V} (h : σ i = some (.row vs t)) (ho : oneV v = true) (hl : o < vs.length) {k : Hp → Prop} (hk : k (upd σ i (.row (splice o [v] vs) t))) : vSt 1 (.ptr i o) v σ k := by
 unfold vSt
 simp only [h]
 unfold vCells
 cases v <;> first | (cases ho; done) | exact ⟨rfl, by omega, hk⟩
theorem vRet_drop {v : V} {σ' : Hp} (l : Hle σ' σ) (h : K v σ') : vRet v σ K := ⟨σ', fun _ => v, l, fun _ => .one (.keep v), fun _ => h⟩
theorem vBox_agg {t : TypeId} {cs : List V} (ho : cs.all oneV = true) (hk : ∀ i, σ i = none → K (.ptr i 0) (upd σ i (.row cs t))) : vBox t (.agg cs) σ K := ⟨ho, hk⟩
theorem vAlloc_to {z : List Value} {l : List V} {t : TypeId} (hz : ofVs z = some l) (hk : ∀ i, σ i = none → K (.ptr i 0) (upd σ i (.row l t))) : vAlloc z t σ K := by
 unfold vAlloc vZero
 rw [hz]
 exact hk
theorem vBin_pn {t : TypeId} {i o : Nat} (h : kindT P t = some .ptr) {k : V → Prop} (hk : k (.bool false)) : vBin P .eql t (.ptr i o) .nilp k := ⟨rfl, h, .inr rfl, (fun e => by cases e), hk⟩
theorem vSt_all {n i : Nat} {vs cs : List V} {t : TypeId} (h : σ i = some (.row vs t)) (ho : cs.all oneV = true) (hc : cs.length = n) (hl : vs.length = n) {k : Hp → Prop} (hk : k (upd σ i (.row cs t))) : vSt n (.ptr i 0) (.agg cs) σ k := by
 unfold vSt
 simp only [h]
 refine ⟨ho, hc, by omega, ?_⟩
 have : splice 0 cs vs = cs := by simp [splice, hc, ← hl]
 rw [this]
 exact hk
theorem vGuard_u {w : Bool} {op : KV → Prop} {k : KV} : vGuard w undV op σ k = k undV σ := by cases w <;> rfl
theorem vGuardC_t {w : Bool} {u : V} {op : Prop → Prop} {k : Prop} : vGuardC w (.bool w) u op k = op k := by cases w <;> rfl
theorem vGuardC_tf {op : Prop → Prop} {k : Prop} : vGuardC true (.bool false) undV op k = k := rfl
end
end Go.Am

namespace Go.Am
open Go.RowKit Go.MapKept
section
variable {P : Program} {σ σ' σ0 : Hp} {K : KV} {x : VE}
theorem vIdx_acc {size n b : Nat} {j : IntKind} {i : Nat} (h : i < n) {k : V → Prop} : vIdx size (.acc b n) (.int j (.ofNat i)) k = k (.gptr b n (i * size)) := by
 show (i < n ∧ _) = _
 simp [h]
theorem vLd_g {i n o : Nat} {vs : List V} {t : TypeId} {v : V} (h : σ i = some (.gro vs t n)) (hv : vs[o]? = some v) (hk : K v σ) : vLd (.gptr i n o) σ K := by
 unfold vLd
 simp only [h]
 exact ⟨trivial, by rw [vNth_some hv]; exact hk⟩
theorem vSt_g {i n o : Nat} {vs : List V} {t : TypeId} {v : V} (h : σ i = some (.gro vs t n)) (ho : oneV v = true) (hl : o < vs.length) {k : Hp → Prop} (hk : k (upd σ i (.gro (splice o [v] vs) t n))) : vSt 1 (.gptr i n o) v σ k := by
 unfold vSt
 simp only [h]
 unfold vCells
 cases v <;> first | (cases ho; done) | exact ⟨trivial, rfl, by omega, hk⟩
theorem vSlS_lo {el size i n a : Nat} {vs : List V} {j : IntKind} (h : σ i = some (.gro vs el n)) (hl : a < n) {k : V → Prop} (hk : k (.asl i n (a * size) (n - a) (n - a))) : vSlS el size (.acc i n) (some (.int j (.ofNat a))) none none σ k := by
 unfold vSlS
 simp only [h]
 refine ⟨trivial, trivial, ?_⟩
 show a ≤ n ∧ n ≤ n ∧ n ≤ n ∧ (a < n → k _) ∧ _
 refine ⟨by omega, by omega, by omega, fun _ => ?_, fun e => absurd e (by omega)⟩
 rw [Nat.zero_add]; exact hk
theorem vSlS_end {el size i n : Nat} {vs : List V} {j : IntKind} (h : σ i = some (.gro vs el n)) {k : V → Prop} (hk : k (.emp i n)) : vSlS el size (.acc i n) (some (.int j (.ofNat n))) none none σ k := by
 unfold vSlS
 simp only [h]
 refine ⟨trivial, trivial, ?_⟩
 show n ≤ n ∧ n ≤ n ∧ n ≤ n ∧ (n < n → k _) ∧ _
 exact ⟨by omega, by omega, by omega, fun e => absurd e (by omega), fun _ => hk⟩
def del (σ : Hp) (i : Nat) : Hp := fun j => if j = i then none else σ j
theorem del_le {i : Nat} : Hle (del σ i) σ := fun j o e => by
 unfold del at e
 by_cases h : j = i
 · rw [if_pos h] at e; cases e
 · rw [if_neg h] at e; exact e
theorem del_none {i : Nat} : del σ i i = none := if_pos rfl
/-! loops over functions -/
theorem vBusy_at {l n : Nat} {ls : List Nat} {vs : List V} {ps : List Tmp} {as bo : Code} {pe : Option Code} (h : σ l = some (.loop ls vs n ps as bo .ready pe)) {k : Hp → Prop} (hk : k (upd σ l (.loop ls vs n ps as bo .busy pe))) : vBusy l σ k := by
 unfold vBusy
 simp only [h]
 exact hk
theorem vOver_at {l n : Nat} {ls : List Nat} {vs : List V} {ps : List Tmp} {as bo : Code} {st st' : LoopState} {pe pe' : Option Code} {b : Bool} (h : σ l = some (.loop ls vs n ps as bo st pe)) (hk : K (.bool b) (upd σ l (.loop ls vs n ps as bo st' pe'))) : vOver l st' pe' b σ K := by
 unfold vOver
 simp only [h]
 exact hk
theorem vLeft_at {l n : Nat} {ls : List Nat} {vs : List V} {ps : List Tmp} {as bo : Code} {st : LoopState} {pe : Option Code} (h : σ l = some (.loop ls vs n ps as bo st pe)) (hs : st ≠ .busy) {k : Option Code → Hp → Prop} (hk : k pe (upd σ l (.loop ls vs n ps as bo .exhausted pe))) : vLeft l σ k := by
 unfold vLeft
 simp only [h]
 cases st <;> first | exact absurd rfl hs | exact hk
theorem vRange_to {g n : Nat} {a c : List V} {ls : List Nat} {vs : List V} {ps : List Tmp} {as bo : Code} {k : Option Code → Hp → Prop} (hk : ∀ l, σ l = none → x.call g (a ++ [.yield l] ++ c) (upd σ l (.loop ls vs n ps as bo .ready none)) fun _ σ => vLeft l σ k) : vRange x (.func g a c) ls vs n ps as bo σ k := hk
theorem vPend_n {kn kr : Prop} {ke : Nat → Prop} : vPend none kn kr ke = kn := rfl
theorem vCallV_y {l : Nat} {args : List V} : vCallV x (.yield l) args σ K = x.R l args σ K := rfl
theorem splice_one {vs : List V} {o : Nat} {v : V} (h : o < vs.length) : splice o [v] vs = vs.set o v := by
 unfold splice
 apply List.ext_getElem?
 intro j
 rw [List.getElem?_set]
 by_cases h1 : j < o
 · rw [if_neg (by omega), List.append_assoc, List.getElem?_append_left (by rw [List.length_take]; omega), List.getElem?_take, if_pos h1]
 · by_cases h2 : j = o
   · subst h2
     rw [if_pos rfl, if_pos h, List.getElem?_append_left (by simp; omega), List.getElem?_append_right (by rw [List.length_take]; omega), List.length_take]
     rw [show j - min j vs.length = 0 by omega]; rfl
   · rw [if_neg (by omega), List.getElem?_append_right (by simp; omega), List.getElem?_drop]
     simp only [List.length_append, List.length_take, List.length_cons, List.length_nil]
     rw [show o + (0 + 1) + (j - (min o vs.length + (0 + 1))) = j by omega]
end
end Go.Am

namespace Go.Am
open Go.RowKit Go.MapKept
section
variable {P : Program} {σ σ' : Hp} {K : KV} {x : VE}
theorem vFld_z {off i : Nat} {k : V → Prop} : vFld off (.ptr i 0) k = k (.ptr i off) := by show k (.ptr i (0 + off)) = _; rw [Nat.zero_add]
theorem vSame_ok {v : V} {p : Prop} (h : sameOk v = true) : vSame v v p = p := propext ⟨fun q => q.2.2, fun q => ⟨rfl, h, q⟩⟩
theorem vSame_i {k : IntKind} {z : Int} {p : Prop} : vSame (.int k z) (.int k z) p = p := vSame_ok rfl
theorem vNot_b {b : Bool} {k : V → Prop} : vUn .not (.bool b) k = k (.bool (!b)) := rfl
theorem vRet_val {v : V} {cs : List Dt} {n : Nat} (l : Hle σ' σ) (h : Frz σ' σ v (.list cs n)) (hk : ∀ τ, K (.list τ cs n) σ') : vRet v σ K :=
 ⟨σ', fun τ => .list (τ 0) cs n, l, fun _ => .one (.dat h), fun _ => hk _⟩
end
end Go.Am

namespace Go.Mq
def stp : BitVec 64 := 0x9E3779B97F4A7C15#64
def m1 : BitVec 64 := 0xBF58476D1CE4E5B9#64
def m2 : BitVec 64 := 0x94D049BB133111EB#64
def mixB (s : BitVec 64) : BitVec 64 :=
 let a := (s ^^^ (s >>> 30)) * m1
 let b := (a ^^^ (a >>> 27)) * m2
 b ^^^ (b >>> 31)
def i1 : BitVec 64 := 0x96de1b173f119089#64
def i2 : BitVec 64 := 0x319642b2d24d8ec3#64
theorem i1_ok : m1 * i1 = 1#64 := by decide
theorem i2_ok : m2 * i2 = 1#64 := by decide
theorem undo (z : BitVec 64) (k : Nat) (h : 64 ≤ 3 * k) : (z ^^^ (z >>> k)) ^^^ ((z ^^^ (z >>> k)) >>> k) ^^^ ((z ^^^ (z >>> k)) >>> (2 * k)) = z := by
 apply BitVec.eq_of_getLsbD_eq
 intro i hi
 simp only [BitVec.getLsbD_xor, BitVec.getLsbD_ushiftRight]
 have e1 : z.getLsbD (2 * k + (k + i)) = false := BitVec.getLsbD_of_ge _ _ (by omega)
 have e2 : k + (2 * k + i) = 2 * k + (k + i) := by omega
 have e3 : k + (k + i) = 2 * k + i := by omega
 rw [e2, e1, e3]
 cases z.getLsbD i <;> cases z.getLsbD (k + i) <;> cases z.getLsbD (2 * k + i) <;> rfl
def unB (y : BitVec 64) : BitVec 64 :=
 let b := y ^^^ (y >>> 31) ^^^ (y >>> 62)
 let b := b * i2
 let a := b ^^^ (b >>> 27) ^^^ (b >>> 54)
 let a := a * i1
 a ^^^ (a >>> 30) ^^^ (a >>> 60)
theorem unB_mixB (s : BitVec 64) : unB (mixB s) = s := by
 unfold unB mixB
 simp only
 rw [undo _ 31 (by omega), BitVec.mul_assoc, i2_ok, BitVec.mul_one, undo _ 27 (by omega), BitVec.mul_assoc, i1_ok, BitVec.mul_one, undo _ 30 (by omega)]
def topB (x : BitVec 64) : Prop := 18446744073709551610 ≤ x.toNat
theorem top_of (x : BitVec 64) (h : topB x) : x = 0xfffffffffffffffa#64 ∨ x = 0xfffffffffffffffb#64 ∨ x = 0xfffffffffffffffc#64 ∨ x = 0xfffffffffffffffd#64 ∨ x = 0xfffffffffffffffe#64 ∨ x = 0xffffffffffffffff#64 := by
 unfold topB at h
 have hl := x.isLt
 have : x.toNat = 18446744073709551610 ∨ x.toNat = 18446744073709551611 ∨ x.toNat = 18446744073709551612 ∨ x.toNat = 18446744073709551613 ∨ x.toNat = 18446744073709551614 ∨ x.toNat = 18446744073709551615 := by omega
 rcases this with h | h | h | h | h | h
 · exact .inl (BitVec.eq_of_toNat_eq h)
 · exact .inr (.inl (BitVec.eq_of_toNat_eq h))
 · exact .inr (.inr (.inl (BitVec.eq_of_toNat_eq h)))
 · exact .inr (.inr (.inr (.inl (BitVec.eq_of_toNat_eq h))))
 · exact .inr (.inr (.inr (.inr (.inl (BitVec.eq_of_toNat_eq h)))))
 · exact .inr (.inr (.inr (.inr (.inr (BitVec.eq_of_toNat_eq h)))))
theorem once (s : BitVec 64) (h : topB (mixB s)) : ¬ topB (mixB (s + stp)) := by
 have e := unB_mixB s
 rcases top_of _ h with q | q | q | q | q | q
 all_goals
  rw [q] at e
  rw [← e]
  unfold topB
  decide
end Go.Mq

namespace Go.Am
open Go.RowKit Go.MapKept
theorem mapM_some {α β : Type} {f : α → Option β} : ∀ {l : List α} {xs : List β}, l.mapM f = some xs → xs.length = l.length ∧ ∀ (i : Nat) (a : α), l[i]? = some a → ∃ x, xs[i]? = some x ∧ f a = some x := by
 intro l
 induction l with
 | nil => intro xs h; simp at h; subst h; exact ⟨rfl, fun i a h => by simp at h⟩
 | cons b l ih =>
  intro xs h
  rw [List.mapM_cons] at h
  cases hb : f b with
  | none => rw [hb] at h; cases h
  | some y =>
   rw [hb] at h
   cases hl : l.mapM f with
   | none => rw [hl] at h; cases h
   | some ys =>
    rw [hl] at h
    have h : some (y :: ys) = some xs := h
    injection h with h
    subst h
    obtain ⟨i1, i2⟩ := ih hl
    refine ⟨by simp [i1], fun i a ha => ?_⟩
    cases i with
    | zero => simp at ha; subst ha; exact ⟨y, rfl, hb⟩
    | succ i => simpa using i2 i a (by simpa using ha)
def itsF (P : Program) (g : TypeId → Option (List It)) : List Field → Nat → Option (List It)
 | [], _ => some []
 | fd :: fs, off => if fd.offset = off then match g fd.type, sizeT P fd.type with
  | some its, some m => if m = its.length then (itsF P g fs (off + m)).map (its ++ ·) else none
  | _, _ => none else none
def itsT (P : Program) : Nat → TypeId → Option (List It)
 | 0, _ => none
 | f + 1, t => match P.underlying t with
  | some .bool => some [.is]
  | some (.int .u64) => some [.num]
  | some (.int .u8) => some [.kind]
  | some (.int .i64) => some [.int]
  | some .string => some [.text]
  | some (.slice e) => match itsT P f e, sizeT P e, P.bytesOf e with
   | some (i :: its), some m, _ + 1 => if m = its.length + 1 then (match i, its with | .num, [] => some [.nums] | i, its => some [.list (i :: its)]) else none
   | _, _, _ => none
  | some (.struct fs) => match itsF P (itsT P f) fs.toList 0, sizeT P t with
   | some its, some m => if m = its.length then some its else none
   | _, _ => none
  | _ => none
def Lay (P : Program) (w : World) (ρ : Rn) (σ : St) : Prop := Rel P w ρ σ w ∧ ∀ i o, σ.obj i = some o → o.reads = true
section
variable {P : Program} {w : World}
theorem Lay.add {ρ : Rn} {σ : St} (h : Lay P w ρ σ) (vs : List Value) (e : TypeId) (L : Loc) {cs : Array Value} {t : TypeId} {fz : Nat × Nat} (hb : w.heap[L.b]? = some (.cells cs t fz))
 (hc : ∀ (j : Nat) (v : Value), vs[j]? = some v → ∃ v', cs[L.s + j]? = some v' ∧ VR ρ v v') (hm : sizeT P e = some L.m) (hz : ∀ j, j < vs.length → ¬ (fz.1 ≤ L.s + j ∧ L.s + j < fz.2)) :
 Lay P w (ρ.put σ.n L) (σ.new (.cells vs e .rs)) ∧ Ext ρ (ρ.put σ.n L) := by
 obtain ⟨h, hr⟩ := h
 have hnone := h.dom σ.n (Nat.le_refl _)
 have he : Ext ρ (ρ.put σ.n L) := Rn.ext_put hnone
 have hput : ∀ j M, ρ.put σ.n L j = some M → (j = σ.n ∧ M = L) ∨ (j ≠ σ.n ∧ ρ j = some M) := fun j M hj => by
  unfold Rn.put at hj
  by_cases e : j = σ.n
  · rw [if_pos e] at hj; injection hj with hj; exact .inl ⟨e, hj.symm⟩
  · rw [if_neg e] at hj; exact .inr ⟨e, hj⟩
 have hobj : ∀ j x, (σ.new (.cells vs e .rs)).obj j = some x → (j = σ.n ∧ x = .cells vs e .rs) ∨ (j ≠ σ.n ∧ σ.obj j = some x) := fun j x hx => by
  rw [obj_new] at hx
  by_cases e : j = σ.n
  · rw [if_pos e] at hx; injection hx with hx; exact .inl ⟨e, hx.symm⟩
  · rw [if_neg e] at hx; exact .inr ⟨e, hx⟩
 have hreads : ∀ j x, (σ.new (.cells vs e .rs)).obj j = some x → x.reads = true := fun j x hx => by
  rcases hobj j x hx with ⟨_, rfl⟩ | ⟨_, hx⟩
  · rfl
  · exact hr j x hx
 have hlt : L.b < w.heap.size := (Array.getElem?_eq_some_iff.1 hb).1
 refine ⟨⟨⟨fun g hg => let ⟨M, h1, h2⟩ := h.glob g hg; ⟨M, he _ _ h1, h2⟩, fun j x hx => ?_, fun j hj => ?_, fun j x hx => ?_, fun j M hj => ?_, fun i j a b M N hij ha hb' _ _ _ _ _ => .inl ⟨hreads i a ha, hreads j b hb'⟩, fun j us e' olds hj i hi => ?_, h.base⟩, hreads⟩, he⟩
 · rcases hobj j x hx with ⟨rfl, rfl⟩ | ⟨_, hx⟩
   · exact ⟨L, cs, t, fz, Rn.put_same _ _ _, hb, fun j v hv => let ⟨v', a, b⟩ := hc j v hv; ⟨v', a, b.mono he⟩, hm, hz⟩
   · exact (h.objs j x hx).frame he fun _ _ => rfl
 · have hj' : σ.n + 1 ≤ j := hj
   unfold Rn.put; rw [if_neg (by omega)]; exact h.dom j (by omega)
 · rcases hobj j x hx with ⟨rfl, _⟩ | ⟨_, hx⟩
   · exact Nat.lt_succ_self _
   · exact Nat.lt_succ_of_lt (h.lt j x hx)
 · rcases hput j M hj with ⟨_, rfl⟩ | ⟨_, hM⟩
   · exact hlt
   · exact h.loc j M hM
 · have := hreads j _ hj
   simp [AObj.reads] at this
def Laying (P : Program) (w : World) (cs : List Value) (its : List It) : Prop :=
 ∀ (ρ : Rn) (σ : St), Lay P w ρ σ → ∃ ρ' σ' vs ds, Ext ρ ρ' ∧ Lay P w ρ' σ' ∧ Ext' σ σ' ∧ VRs ρ' vs cs ∧ RdA σ' (fun _ => False) its vs ds
theorem Ext'.none {σ σ' : St} (h : Ext' σ σ') : Fr' (fun _ => False) σ σ' (fun _ => False) := h.fr _
theorem Laying.plain {v : Value} {it : It} {d : D} (hf : flat0 v = true) (hr : ∀ σ, Rd σ (fun _ => False) it v d) : Laying P w [v] [it] := fun ρ σ h =>
 ⟨ρ, σ, [v], [d], .refl ρ, h, .refl σ, .cons (.flat hf) (.nil ρ), rfl, rfl, fun j it' v' d' a b c => by
  cases j with
  | zero => simp at a b c; subst a b c; exact hr σ
  | succ j => simp at a⟩
theorem Laying.append {a b : List Value} {x y : List It} (h : Laying P w a x) (k : Laying P w b y) : Laying P w (a ++ b) (x ++ y) := fun ρ σ hl => by
 obtain ⟨ρ1, σ1, v1, d1, e1, l1, x1, r1, s1⟩ := h ρ σ hl
 obtain ⟨ρ2, σ2, v2, d2, e2, l2, x2, r2, s2⟩ := k ρ1 σ1 l1
 refine ⟨ρ2, σ2, v1 ++ v2, d1 ++ d2, e1.trans e2, l2, x1.trans x2, (r1.mono e2).append r2, by simp [s1.len, s2.len], by simp [s1.dlen, s2.dlen], fun j it v d p q r => ?_⟩
 have s1' := s1.fr x2.none
 by_cases hj : j < x.length
 · rw [List.getElem?_append_left hj] at p
   rw [List.getElem?_append_left (by rw [s1.len]; exact hj)] at q
   rw [List.getElem?_append_left (by rw [s1.dlen]; exact hj)] at r
   exact s1'.rd j it v d p q r
 · rw [List.getElem?_append_right (by omega)] at p
   rw [List.getElem?_append_right (by rw [s1.len]; omega), s1.len] at q
   rw [List.getElem?_append_right (by rw [s1.dlen]; omega), s1.dlen] at r
   exact s2.rd _ it v d p q r
theorem lay_all {its : List It} : ∀ {css : List (List Value)}, (∀ cs ∈ css, Laying P w cs its) → ∀ (ρ : Rn) (σ : St), Lay P w ρ σ → ∃ (ρ' : Rn) (σ' : St) (vss : List (List Value)) (dss : List (List D)), Ext ρ ρ' ∧ Lay P w ρ' σ' ∧ Ext' σ σ' ∧ vss.length = css.length ∧ dss.length = css.length ∧
 (∀ (k : Nat) (vs cs : List Value), vss[k]? = some vs → css[k]? = some cs → VRs ρ' vs cs) ∧ ∀ (k : Nat) (vs : List Value) (ds : List D), vss[k]? = some vs → dss[k]? = some ds → RdA σ' (fun _ => False) its vs ds := by
 intro css
 induction css with
 | nil => intro _ ρ σ h; exact ⟨ρ, σ, [], [], .refl ρ, h, .refl σ, rfl, rfl, by simp, by simp⟩
 | cons cs css ih =>
  intro hall ρ σ h
  obtain ⟨ρ1, σ1, v1, d1, e1, l1, x1, r1, s1⟩ := hall cs (.head _) ρ σ h
  obtain ⟨ρ2, σ2, vss, dss, e2, l2, x2, n1, n2, r2, s2⟩ := ih (fun c hc => hall c (.tail _ hc)) ρ1 σ1 l1
  refine ⟨ρ2, σ2, v1 :: vss, d1 :: dss, e1.trans e2, l2, x1.trans x2, by simp [n1], by simp [n2], fun k vs cs' a b => ?_, fun k vs ds a b => ?_⟩
  · cases k with
    | zero => simp at a b; subst a b; exact r1.mono e2
    | succ k => exact r2 k vs cs' (by simpa using a) (by simpa using b)
  · cases k with
    | zero => simp at a b; subst a b; exact s1.fr x2.none
    | succ k => exact s2 k vs ds (by simpa using a) (by simpa using b)
theorem flatten_get {α : Type} {m : Nat} : ∀ {l : List (List α)}, (∀ x ∈ l, x.length = m) → ∀ (k j : Nat), j < m → l.flatten[k * m + j]? = (l[k]?).bind (·[j]?) := by
 intro l
 induction l with
 | nil => intro _ k j _; simp
 | cons x l ih =>
  intro h k j hj
  have hx := h x (.head _)
  cases k with
  | zero =>
   rw [List.flatten_cons, List.getElem?_append_left (by omega)]
   simp
  | succ k =>
   rw [List.flatten_cons, List.getElem?_append_right (by rw [hx, Nat.add_mul]; omega), hx]
   rw [show (k + 1) * m + j - m = k * m + j by rw [Nat.add_mul]; omega, ih (fun y hy => h y (.tail _ hy)) k j hj]
   simp
theorem flatten_len {α : Type} {m : Nat} : ∀ {l : List (List α)}, (∀ x ∈ l, x.length = m) → l.flatten.length = l.length * m := by
 intro l
 induction l with
 | nil => intro _; simp
 | cons x l ih => intro h; rw [List.flatten_cons, List.length_append, h x (.head _), ih fun y hy => h y (.tail _ hy), List.length_cons, Nat.add_mul]; omega
end
end Go.Am

namespace Go.Am
open Go.RowKit Go.MapKept
section
variable {P : Program} {w : World}
theorem cells_block {a : Addr} {n : Nat} {cs : List Value} (h : w.cells? 0 a n = some cs) (hn : 0 < n) : ∃ c t fz, w.heap[a.block]? = some (.cells c t fz) ∧ a.spot = none := by
 unfold World.cells? at h
 rw [if_pos (Nat.zero_le _)] at h
 obtain ⟨_, h2⟩ := mapM_some h
 obtain ⟨x, _, hx⟩ := h2 0 0 (by simp [hn])
 have hx : w.cell? a = some x := by simpa [Addr.add] using hx
 unfold World.cell? at hx
 cases hb : w.heap[a.block]? with
 | none => rw [hb] at hx; cases hx
 | some o =>
  rw [hb] at hx
  cases o with
  | cells c t fz =>
   simp only at hx
   cases hs : a.spot with
   | none => exact ⟨c, t, fz, rfl, rfl⟩
   | some s => rw [hs] at hx; simp at hx
  | _ => cases hx
theorem cells_get {b off n : Nat} {cs : List Value} {c : Array Value} {t : TypeId} {fz : Nat × Nat} (h : w.cells? 0 ⟨b, off, none⟩ n = some cs) (hb : w.heap[b]? = some (.cells c t fz)) : cs.length = n ∧ ∀ (j : Nat) (v : Value), cs[j]? = some v → c[off + j]? = some v := by
 unfold World.cells? at h
 rw [if_pos (Nat.zero_le _)] at h
 obtain ⟨h1, h2⟩ := mapM_some h
 have h1 : cs.length = n := by simpa using h1
 refine ⟨h1, fun j v hv => ?_⟩
 have hj : j < n := by rw [← h1]; exact (List.getElem?_eq_some_iff.1 hv).1
 obtain ⟨x, hx, hc⟩ := h2 j j (by simp [hj])
 rw [hv] at hx
 injection hx with hx
 subst hx
 rw [add_none] at hc
 unfold World.cell? at hc
 rw [hb] at hc
 simpa using hc
variable {H : Type} {enc : TypeId × Value → H}
theorem weights_all {e : TypeId} {x : Nat} : ∀ {l : List (DataW H)} {d : DataW H}, d ∈ l → x ∈ d.weights P e → x ∈ DataW.weightsAll P e l := by
 intro l
 induction l with
 | nil => intro d h; cases h
 | cons y l ih =>
  intro d h hx
  rw [DataW.weightsAll]
  rcases List.mem_cons.1 h with rfl | h
  · exact List.mem_append.2 (.inl hx)
  · exact List.mem_append.2 (.inr (ih h hx))
theorem itsF_spec {g : TypeId → Option (List It)} : ∀ {fs : List Field} {off : Nat} {its : List It}, itsF P g fs off = some its → ∀ (cs : List Value) (F : TypeId → List Value → Option (DataW H × List MemPlace)) (xs : List (DataW H × List MemPlace)),
 (fs.mapM fun f => F f.type ((cs.drop f.offset).take (P.cellsOf f.type))) = some xs → cs.length = off + its.length →
 (∀ (k : Nat) (f : Field) (x : DataW H × List MemPlace), fs[k]? = some f → xs[k]? = some x → ∀ (i : List It) (c : List Value), g f.type = some i → F f.type c = some x → Laying P w c i) → Laying P w (cs.drop off) its := by
 intro fs
 induction fs with
 | nil =>
  intro off its h cs F xs _ hl _
  unfold itsF at h
  injection h with h
  subst h
  rw [List.drop_of_length_le (by simp at hl; omega)]
  exact fun ρ σ hl => ⟨ρ, σ, [], [], .refl ρ, hl, .refl σ, .nil ρ, rfl, rfl, fun j it v d a => by simp at a⟩
 | cons f fs ih =>
  intro off its h cs F xs hx hl hall
  unfold itsF at h
  split at h
  · rename_i hoff
    split at h
    · rename_i i m hg hm
      split at h
      · rename_i hmi
        cases hr : itsF P g fs (off + m) with
        | none => rw [hr] at h; cases h
        | some rest =>
         rw [hr] at h
         have h : some (i ++ rest) = some its := h
         injection h with h
         subst h
         obtain ⟨x1, x2⟩ := mapM_some hx
         obtain ⟨x, hx0, hF⟩ := x2 0 f rfl
         have hcm : P.cellsOf f.type = m := by
          unfold Program.cellsOf
          unfold sizeT at hm
          rw [hm]; rfl
         rw [hcm, hoff] at hF
         have h1 : Laying P w ((cs.drop off).take m) i := hall 0 f x rfl hx0 i _ hg hF
         have hxs : ∃ ys, xs = x :: ys := by
          cases xs with
          | nil => simp at hx0
          | cons y ys => simp at hx0; subst hx0; exact ⟨ys, rfl⟩
         obtain ⟨ys, rfl⟩ := hxs
         have hys : (fs.mapM fun f => F f.type ((cs.drop f.offset).take (P.cellsOf f.type))) = some ys := by
          rw [List.mapM_cons] at hx
          cases ha : F f.type ((cs.drop f.offset).take (P.cellsOf f.type)) with
          | none => rw [ha] at hx; cases hx
          | some y =>
           rw [ha] at hx
           cases hb : (fs.mapM fun f => F f.type ((cs.drop f.offset).take (P.cellsOf f.type))) with
           | none => rw [hb] at hx; cases hx
           | some zs =>
            rw [hb] at hx
            have hx : some (y :: zs) = some (x :: ys) := hx
            injection hx with hx
            injection hx with _ hx
            rw [hx]
         have h2 := ih hr cs F ys hys (by rw [hl, List.length_append]; omega) fun k f' x' a b => hall (k + 1) f' x' (by simpa using a) (by simpa using b)
         have := h1.append h2
         rwa [show (cs.drop off).take m ++ cs.drop (off + m) = cs.drop off by rw [← List.drop_drop]; exact List.take_append_drop _ _] at this
      · cases h
    · cases h
  · cases h
end
end Go.Am

namespace Go.Am
open Go.RowKit Go.MapKept
section
variable {P : Program} {w : World} {H : Type} {enc : TypeId × Value → H}
theorem wf_range {k : IntKind} {n : Int} (h : (Lit.int k n).wf = true) : k.min ≤ n ∧ n ≤ k.max := by
 unfold Lit.wf at h
 simpa using h
theorem lay_slice {a : Addr} {len cap m : Nat} {e : TypeId} {its : List It} {els : List (DataW H × List MemPlace)} {F : List Value → Option (DataW H × List MemPlace)} (hm : its.length = m) (hpos : 0 < m) (hsz : sizeT P e = some m) (_hcell : P.cellsOf e = m) (hlc : len ≤ cap)
 (hel : (List.range len).mapM (fun i => (w.cells? 0 (a.add (i * m)) m).bind F) = some els) (hN : len ≤ 140737488355328)
 (hsp : cap = 0 ∨ ∃ c t fz, w.heap[a.block]? = some (.cells c t fz) ∧ a.spot = none)
 (hz : ∀ i, i < len * m → w.frozen? ⟨a.block, a.off + i, none⟩ = false)
 (hall : ∀ x ∈ els, ∀ cs, F cs = some x → Laying P w cs its) :
 ∀ (ρ : Rn) (σ : St), Lay P w ρ σ → ∃ ρ' σ' v ds, Ext ρ ρ' ∧ Lay P w ρ' σ' ∧ Ext' σ σ' ∧ VR ρ' v (.slice (some a) len cap) ∧ Rd σ' (fun _ => False) (.list its) v (.l ds) := by
 intro ρ σ hl
 rcases Nat.eq_zero_or_pos cap with hc0 | hc0
 · have : len = 0 := by omega
   subst this hc0
   obtain ⟨b, o, sp⟩ := a
   refine ⟨ρ, σ, .slice (some ⟨b, o, some ((match sp with | none => 0 | some k => k + 1) + 2)⟩) 0 0, [], .refl ρ, hl, .refl σ, .sliceR ?_, .emptyR⟩
   cases sp <;> rfl
 · rcases hsp with hsp | ⟨c, t, fz, hb, hspot⟩
   · omega
   · obtain ⟨b, o, sp⟩ := a
     have hspot : sp = none := hspot
     subst hspot
     obtain ⟨h1, h2⟩ := mapM_some hel
     have h1 : els.length = len := by simpa using h1
     -- the elements' cells
     let css : List (List Value) := (List.range len).map fun i => (w.cells? 0 ((⟨b, o, none⟩ : Addr).add (i * m)) m).getD []
     have hcss : ∀ i, i < len → ∃ cs x, css[i]? = some cs ∧ w.cells? 0 ⟨b, o + i * m, none⟩ m = some cs ∧ els[i]? = some x ∧ F cs = some x := by
      intro i hi
      obtain ⟨x, hx, hF⟩ := h2 i i (by simp [hi])
      rw [add_none] at hF
      cases hcs : w.cells? 0 ⟨b, o + i * m, none⟩ m with
      | none => rw [hcs] at hF; cases hF
      | some cs =>
       rw [hcs] at hF
       refine ⟨cs, x, ?_, rfl, hx, hF⟩
       show ((List.range len).map fun i => (w.cells? 0 ((⟨b, o, none⟩ : Addr).add (i * m)) m).getD [])[i]? = some cs
       rw [List.getElem?_map, List.getElem?_range hi]
       show some ((w.cells? 0 ((⟨b, o, none⟩ : Addr).add (i * m)) m).getD []) = some cs
       rw [add_none, hcs]; rfl
     have hcl : css.length = len := by show ((List.range len).map _).length = len; simp
     have hlay : ∀ cs ∈ css, Laying P w cs its := by
      intro cs hcs
      obtain ⟨i, hi⟩ := List.getElem?_of_mem hcs
      have hil : i < len := by rw [← hcl]; exact (List.getElem?_eq_some_iff.1 hi).1
      obtain ⟨cs', x, g1, _, g3, g4⟩ := hcss i hil
      rw [hi] at g1
      injection g1 with g1
      subst g1
      exact hall x (List.mem_of_getElem? g3) cs g4
     obtain ⟨ρ1, σ1, vss, dss, e1, l1, x1, n1, n2, r1, s1⟩ := lay_all hlay ρ σ hl
     have hvl : ∀ vs ∈ vss, vs.length = m := by
      intro vs hvs
      obtain ⟨i, hi⟩ := List.getElem?_of_mem hvs
      have hil : i < dss.length := by rw [n2, ← n1]; exact (List.getElem?_eq_some_iff.1 hi).1
      rw [(s1 i vs _ hi (List.getElem?_eq_getElem hil)).len, hm]
     have hfl := flatten_len hvl
     have hA : ∀ (j : Nat) (v : Value), vss.flatten[j]? = some v → ∃ v', c[o + j]? = some v' ∧ VR ρ1 v v' := by
      intro j v hj
      have hjl : j < len * m := by
       have := (List.getElem?_eq_some_iff.1 hj).1
       rw [hfl, n1, hcl] at this; exact this
      have hk : j / m < len := Nat.div_lt_of_lt_mul (by rw [Nat.mul_comm]; exact hjl)
      have hjm : j % m < m := Nat.mod_lt _ hpos
      have ej : j = (j / m) * m + j % m := by rw [Nat.mul_comm]; exact (Nat.div_add_mod j m).symm
      rw [ej, flatten_get hvl _ _ hjm] at hj
      obtain ⟨cs, x, g1, g2, g3, g4⟩ := hcss (j / m) hk
      cases hvk : vss[j / m]? with
      | none => rw [hvk] at hj; cases hj
      | some vs =>
       rw [hvk] at hj
       have hvr := r1 _ vs cs hvk g1
       obtain ⟨v', hv', hr'⟩ := hvr.get hj
       obtain ⟨_, q2⟩ := cells_get g2 hb
       have := q2 _ _ hv'
       exact ⟨v', by rw [Nat.add_assoc, ← ej] at this; exact this, hr'⟩
     have hB : ∀ j, j < vss.flatten.length → ¬ (fz.1 ≤ o + j ∧ o + j < fz.2) := by
      intro j hj
      have hjl : j < len * m := by rw [hfl, n1, hcl] at hj; exact hj
      have := hz j hjl
      unfold World.frozen? at this
      rw [hb] at this
      intro ⟨q1, q2⟩
      simp at this
      have := this q1
      omega
     obtain ⟨l2, e2⟩ := l1.add vss.flatten e ⟨b, o, 0, m⟩ hb hA hsz hB
     have x2 := Ext'.new σ1 (.cells vss.flatten e .rs)
     refine ⟨_, _, .slice (some ⟨σ1.n, 0, none⟩) len cap, dss, e1.trans e2, l2, x1.trans x2, ?_, ?_⟩
     · have := VR.slice (ρ := ρ1.put σ1.n ⟨b, o, 0, m⟩) (o := 0) (n := len) (c := cap) (Rn.put_same ρ1 σ1.n ⟨b, o, 0, m⟩)
       exact this
     · refine .row (e := e) (ck := .rs) rfl (Nat.lt_succ_self _) (fun h => h) obj_new_same (.inl rfl) (by rw [n2, hcl]) (by rw [hfl, n1, hcl, hm]; omega) (fun ds hds => ?_) hN hlc (fun k ds j it v d a1 a2 a3 a4 => ?_)
       · obtain ⟨i, hi⟩ := List.getElem?_of_mem hds
         have hil : i < vss.length := by rw [n1, ← n2]; exact (List.getElem?_eq_some_iff.1 hi).1
         exact (s1 i _ ds (List.getElem?_eq_getElem hil) hi).dlen
       · have hjm : j < m := by rw [← hm]; exact (List.getElem?_eq_some_iff.1 a2).1
         rw [hm, Nat.zero_add, flatten_get hvl k j hjm] at a3
         cases hk : vss[k]? with
         | none => rw [hk] at a3; cases a3
         | some vs =>
          rw [hk] at a3
          exact ((s1 k vs ds hk a1).fr x2.none).rd j it v d a2 a3 a4
theorem weights_each {y : Nat} : ∀ {fs : List Field} {xs : List (DataW H × List MemPlace)} {j : Nat} {f : Field} {x : DataW H × List MemPlace}, fs[j]? = some f → xs[j]? = some x → y ∈ x.1.weights P f.type → y ∈ DataW.weightsEach P (fs.map (·.type)) (xs.map (·.1)) := by
 intro fs
 induction fs with
 | nil => intro xs j f x h; simp at h
 | cons g fs ih =>
  intro xs j f x h1 h2 h3
  cases xs with
  | nil => simp at h2
  | cons z xs =>
   rw [List.map_cons, List.map_cons, DataW.weightsEach]
   cases j with
   | zero => simp at h1 h2; subst h1 h2; exact List.mem_append.2 (.inl h3)
   | succ j => exact List.mem_append.2 (.inr (ih (by simpa using h1) (by simpa using h2) h3))
theorem lay (sp : Nat → Bool) (hsp : ∀ b, sp b = true) : ∀ (F k : Nat) (t : TypeId) (cs : List Value) (d : DataW H) (ps : List MemPlace), DataW.trod enc P w 0 sp true F t cs = some (d, ps) → (∀ b off, MemPlace.cell b off ∈ ps → w.frozen? ⟨b, off, none⟩ = false) →
 (∀ x ∈ d.weights P t, x ≤ reachBytes) → ∀ its, itsT P k t = some its → Laying P w cs its := by
 intro F
 induction F with
 | zero => intro k t cs d ps h; cases h
 | succ F ih =>
  intro k t cs d ps h hz hw its hi
  cases k with
  | zero => cases hi
  | succ k =>
   unfold itsT at hi
   unfold DataW.trod at h
   cases hu : P.underlying t with
   | none => rw [hu] at hi; cases hi
   | some td =>
    rw [hu] at hi h
    cases td with
    | bool =>
     injection hi with hi; subst hi
     match cs, h with
     | [.bool b], _ => exact Laying.plain rfl fun σ => .is
    | int kd =>
     match cs, h with
     | [.int k' n], h =>
      simp only at h
      split at h
      · rename_i hk
        obtain ⟨rfl, hwf⟩ := hk
        obtain ⟨r1, r2⟩ := wf_range hwf
        cases k' with
        | u64 =>
         injection hi with hi; subst hi
         have r1 : (0 : Int) ≤ n := r1
         have r2 : n ≤ 18446744073709551615 := r2
         obtain ⟨m, rfl⟩ := Int.eq_ofNat_of_zero_le r1
         exact Laying.plain rfl fun σ => .num (z := m) (by omega)
        | u8 =>
         injection hi with hi; subst hi
         have r1 : (0 : Int) ≤ n := r1
         have r2 : n ≤ 255 := r2
         obtain ⟨m, rfl⟩ := Int.eq_ofNat_of_zero_le r1
         exact Laying.plain rfl fun σ => .kind (z := m) (by omega)
        | i64 =>
         injection hi with hi; subst hi
         have r1 : (-9223372036854775808 : Int) ≤ n := r1
         have r2 : n ≤ 9223372036854775807 := r2
         exact Laying.plain rfl fun σ => .int r1 (by omega)
        | _ => cases hi
      · cases h
    | string =>
     injection hi with hi; subst hi
     match cs, h with
     | [.string s], h =>
      simp only at h
      split at h
      · injection h with h
        injection h with h _
        subst h
        obtain ⟨⟨l⟩⟩ := s
        have := hw l.length (by simp [DataW.weights])
        exact Laying.plain rfl fun σ => .text (l := l) (by unfold reachBytes at this; omega)
      · cases h
    | slice e =>
     simp only at hi
     split at hi
     · rename_i i0 its0 m by0 hit hsz hby
       split at hi
       · rename_i hm
         have hcell : P.cellsOf e = m := by unfold Program.cellsOf; unfold sizeT at hsz; rw [hsz]; rfl
         have hfin : (∀ (ρ : Rn) (σ : St), Lay P w ρ σ → ∃ ρ' σ' v ds, Ext ρ ρ' ∧ Lay P w ρ' σ' ∧ Ext' σ σ' ∧ VRs ρ' [v] cs ∧ Rd σ' (fun _ => False) (.list (i0 :: its0)) v (.l ds)) → Laying P w cs its := by
          intro hgo ρ σ hl
          obtain ⟨ρ', σ', v, ds, g1, g2, g3, g4, g5⟩ := hgo ρ σ hl
          refine ⟨ρ', σ', [v], [.l ds], g1, g2, g3, g4, ?_⟩
          split at hi
          · injection hi with hi; subst hi
            exact ⟨rfl, rfl, fun j it v' d' a b c => by
             cases j with
             | zero => simp at a b c; subst a b c; exact .nums g5
             | succ j => simp at a⟩
          · injection hi with hi; subst hi
            exact ⟨rfl, rfl, fun j it v' d' a b c => by
             cases j with
             | zero => simp at a b c; subst a b c; exact g5
             | succ j => simp at a⟩
         match cs, h, hfin with
         | [.slice none 0 0], _, hfin => exact hfin fun ρ σ hl => ⟨ρ, σ, _, [], .refl ρ, hl, .refl σ, .cons (.flat rfl) (.nil ρ), .empty⟩
         | [.slice (some a) len cap], h, hfin =>
          simp only at h
          split at h
          · rename_i hcond
            rw [hcell] at h
            cases hels : (List.range len).mapM (fun i => (w.cells? 0 (a.add (i * m)) m).bind (DataW.trod enc P w 0 sp true F e)) with
            | none => rw [hels] at h; cases h
            | some els =>
             rw [hels] at h
             simp only [Option.bind_some, hsp, if_true] at h
             cases hrest : (List.range (cap - len)).mapM (fun j => (w.cells? 0 (a.add ((len + j) * m)) m).bind (DataW.trod enc P w 0 sp true F e)) with
             | none => rw [hrest] at h; cases h
             | some rest =>
              rw [hrest] at h
              injection h with h
              injection h with hd hps
              subst hd hps
              obtain ⟨n1, n2⟩ := mapM_some hels
              obtain ⟨n3, n4⟩ := mapM_some hrest
              have n1 : els.length = len := by simpa using n1
              have n3 : rest.length = cap - len := by simpa using n3
              have hwt : (els.length + rest.length) * P.bytesOf e ≤ reachBytes := hw _ (by rw [DataW.weights, hu]; simp)
              rw [hby, n1] at hwt
              have hlen47 : len ≤ 140737488355328 := by
               unfold reachBytes at hwt
               have : len ≤ (len + rest.length) * by0.succ := Nat.le_trans (Nat.le_add_right _ _) (Nat.le_mul_of_pos_right _ (Nat.succ_pos _))
               omega
              refine hfin fun ρ σ hl => ?_
              obtain ⟨ρ', σ', v, ds, g1, g2, g3, g4, g5⟩ := lay_slice (F := DataW.trod enc P w 0 sp true F e) (its := i0 :: its0) (e := e) (by rw [hm]; rfl) (by omega) hsz hcell hcond.2.1 hels hlen47 (by
               rcases Nat.eq_zero_or_pos cap with h0 | h0
               · exact .inl h0
               · right
                 rcases Nat.eq_zero_or_pos len with h1 | h1
                 · obtain ⟨x, _, hx⟩ := n4 0 0 (List.getElem?_range (by omega))
                   cases hcs : w.cells? 0 (a.add ((len + 0) * m)) m with
                   | none => rw [hcs] at hx; cases hx
                   | some c0 =>
                    rw [h1] at hcs
                    simp only [Nat.add_zero, Nat.zero_mul] at hcs
                    exact cells_block (by simpa [Addr.add] using hcs) (by omega)
                 · obtain ⟨x, _, hx⟩ := n2 0 0 (List.getElem?_range (by omega))
                   cases hcs : w.cells? 0 (a.add (0 * m)) m with
                   | none => rw [hcs] at hx; cases hx
                   | some c0 =>
                    simp only [Nat.zero_mul] at hcs
                    exact cells_block (by simpa [Addr.add] using hcs) (by omega)) (fun i hi => by
               refine hz a.block (a.off + i) (List.mem_append.2 (.inl ?_))
               unfold MemPlace.row
               refine List.mem_map.2 ⟨i, List.mem_range.2 ?_, rfl⟩
               rw [n1]
               have : len * m ≤ (len + rest.length) * m := Nat.mul_le_mul_right _ (Nat.le_add_right _ _)
               omega) (fun x hx cs' hF => by
               obtain ⟨dx, px⟩ := x
               refine ih k e cs' dx px hF (fun b off hb => hz b off (List.mem_append.2 (.inr (List.mem_flatMap.2 ⟨(dx, px), List.mem_append.2 (.inl hx), hb⟩)))) (fun y hy => hw y ?_) _ hit
               rw [DataW.weights, hu]
               exact List.mem_cons_of_mem _ (List.mem_append.2 (.inl (weights_all (List.mem_map.2 ⟨(dx, px), hx, rfl⟩) hy)))) ρ σ hl
              exact ⟨ρ', σ', v, ds, g1, g2, g3, .cons g4 (.nil ρ'), g5⟩
          · cases h
       · cases hi
     · cases hi
    | struct fs =>
     simp only at hi h
     have hi : ∃ m, itsF P (itsT P k) fs.toList 0 = some its ∧ sizeT P t = some m ∧ m = its.length := by
      split at hi
      · rename_i its' m' h1 h2
        split at hi
        · rename_i h3
          injection hi with hi
          subst hi
          exact ⟨m', h1, h2, h3⟩
        · cases hi
      · cases hi
     obtain ⟨mm, hi, hsz, hmm⟩ := hi
     have hct : P.cellsOf t = mm := by unfold Program.cellsOf; unfold sizeT at hsz; rw [hsz]; rfl
     split at h
     · rename_i hlen
       cases hxs : (fs.toList.mapM fun f => DataW.trod enc P w 0 sp true F f.type ((cs.drop f.offset).take (P.cellsOf f.type))) with
       | none => rw [hxs] at h; cases h
       | some xs =>
        rw [hxs] at h
        injection h with h
        injection h with hd hps
        subst hd hps
        have := itsF_spec (w := w) hi cs (fun t c => DataW.trod enc P w 0 sp true F t c) xs hxs (by omega) (fun j f x hf hx i c hg hF => by
         obtain ⟨dx, px⟩ := x
         refine ih k f.type c dx px hF (fun b off hb => hz b off (List.mem_flatMap.2 ⟨(dx, px), List.mem_of_getElem? hx, hb⟩)) (fun y hy => hw y ?_) i hg
         rw [DataW.weights, hu]
         exact weights_each hf hx hy)
        rwa [List.drop_zero] at this
     · cases h
    | _ => cases hi
end
end Go.Am

namespace Go.Am
open Go.RowKit Go.ChangeShapes
section
variable {H : Type} {enc : TypeId × Value → H} {P : Program} {w : World} {base fuel : Nat} {spare : Nat → Bool} {held : Bool} {t e : TypeId} {k : IntKind} {n : Nat} {cs : List Value}
theorem ints_of_trod {x : DataW H × List MemPlace} (ht : P.underlying t = some (.array n e)) (he : P.underlying e = some (.int k)) (hc : P.cellsOf e = 1) (hct : P.cellsOf t = n) (h : DataW.trod enc P w base spare held fuel t cs = some x) {ns : List Int}
 (hx : x.1 = .agg (ns.map fun i => .lit (.int k i))) : cs = ns.map (Value.int k) := by
 obtain ⟨xs, m, rfl, rfl, hlen, hn, hel⟩ := DataW.trod_array ht h
 simp only [DataW.agg.injEq] at hx
 have hl : xs.length = ns.length := by have := congrArg List.length hx; simpa using this
 apply List.ext_getElem?
 intro i
 by_cases hi : i < n
 · have h1 := hel i hi
   have hix : i < xs.length := by omega
   rw [List.getElem?_eq_getElem hix] at h1
   obtain ⟨j, e1, e2, _⟩ := DataW.trod_int he h1
   have h2 := congrArg (·[i]?) hx
   have hin : i < ns.length := by omega
   simp only [List.getElem?_map, List.getElem?_eq_getElem hix, List.getElem?_eq_getElem hin, Option.map_some, e2, Option.some.injEq, DataW.lit.injEq, Lit.int.injEq, true_and] at h2
   subst h2
   rw [hc, Nat.mul_one] at e1
   have h3 : cs[i]? = ((cs.drop i).take 1)[0]? := by rw [List.getElem?_take, if_pos (by omega), List.getElem?_drop]; simp
   rw [h3, e1]
   simp [List.getElem?_eq_getElem hin]
 · rw [List.getElem?_eq_none (by omega), List.getElem?_eq_none (by simp; omega)]
end
theorem var?_heap {P : Program} {w : World} {n : String} {g : Nat} {cs : Array Value} (hg : P.globalNamed n = some g) (h : w.var? P n = some cs) : ∃ t fz, w.heap[g]? = some (.cells cs t fz) := by
 simp only [World.var?, hg, Option.bind_some] at h
 split at h
 · rename_i c t fr hb
   cases h
   exact ⟨t, fr, hb⟩
 · cases h
end Go.Am

namespace Go.Am
open Go.RowKit Go.ChangeShapes
theorem size_of_shaped {P : Program} {w : World} (h : w.ShapedOpen P) {g : Nat} (hg : g < P.globals.size) (hk : (((begin P (fun _ _ => 0) default).world.heap[g]?).bind Obj.row?).isSome = true) : g < w.heap.size := by
 obtain ⟨⟨zero, t⟩, hz⟩ := Option.isSome_iff_exists.1 hk
 obtain ⟨cs, hc, _⟩ := h.1 g zero t hg hz
 exact (Array.getElem?_eq_some_iff.1 hc).1
end Go.Am

namespace Go.Am
open Go.RowKit
theorem returns_open {H : Type} {enc : TypeId × Value → H} {a : Assume} {C : Checked} {os : Os} {f : FuncId} {fn : Func} {s : ChangeSpec} {X : World → Prop} (hX : ∀ w w' : World, w.heap = w'.heap → X w → X w')
 (own : ownKnob C.prog.godebug = none) (started : os.Started) (noInit : C.prog.inits.idxOf? f = none) (hfn : C.prog.funcs[f]? = some fn)
 (witness : ∃ (w : World) (tape : Tape) (i : Input), w.os = os ∧ (w.forCall tape i).Shaped C.prog ∧ i.vars = [] ∧ Input.okWide C.prog (w.forCall tape i) .any w.heap.size f i ∧
  ((s.pre enc C.prog fn [] false (w.forCall tape i).memory i.args ∧ X (w.forCall tape i).memory) ∧ sizedMet enc C.prog fn (OpenSpec.ofChange s) false (w.forCall tape i).memory i.args) ∧ a.holds C.prog (lone (Frame.enter C.prog f i.args .normal) [] (w.forCall tape i)))
 (contract : ∀ (W : World) (base : Nat) (args : Array Value) (ds gs : List (DataW H)) (before : List MemPlace), (∀ (j : Nat) t v, fn.params[j]? = some t → args[j]? = some v → Value.okWide C.prog W .any base t v) → DataW.Whole enc C.prog fn.params.toList s.vars false W args.toList ds gs before →
  (DataW.weightsEach C.prog (fn.params.toList ++ s.plain.varTypes C.prog) (ds ++ gs)).all (· ≤ reachBytes) = true → W.ShapedOpen C.prog → X W →
  Calls C.prog f args W fun e W' => ∃ v, e = .returned v ∧ s.post enc C.prog fn false true false false W args v W') :
 ReturnsInHanded a C os f .any (fun w args => (s.pre enc C.prog fn [] false w args ∧ X w) ∧ sizedMet enc C.prog fn (OpenSpec.ofChange s) false w args) (s.post enc C.prog fn false true false false) := by
 refine returnsInHanded_of_calls own started noInit witness ?_
 intro w tape i _ hsh _ hok hpre _
 obtain ⟨_, _, _, fn', hfn', _, _, _, _, hval⟩ := hok
 have e : fn' = fn := Option.some.inj (hfn'.symm.trans hfn)
 subst e
 obtain ⟨⟨⟨ds, gs, before, hw, _⟩, hx⟩, hz⟩ := hpre
 have hw' := DataW.Whole.of_heap (w' := w.forCall tape i) (by rfl) hw
 refine (contract (w.forCall tape i) w.heap.size i.args ds gs before hval hw' (hz.weights hw) hsh (hX _ _ (by rfl) hx)).mono fun e W' ⟨v, he, hp⟩ => ?_
 subst he
 exact ChangeSpec.post_blind hp
end Go.Am
