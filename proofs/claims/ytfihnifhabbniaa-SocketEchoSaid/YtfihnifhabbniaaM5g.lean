/- Datagrams are taken. -/
import Derived.Test.YtfihnifhabbniaaM5f
set_option autoImplicit false
set_option maxRecDepth 100000
set_option linter.unusedVariables false
set_option linter.unusedSimpArgs false
namespace Go.Proofs.Ytfihnifhabbniaa
open Go Go.AM Go.Proofs
open P4 (Pk)
theorem mine_c {p : Pk} {H : AHeap} {k m : Nat} {a b : Int} {l : List Int} (h : Nd H k m a b l) {K : AV → AHeap → Prop} (hk : K (.d (.bool (decide ((p.dd = b ∨ p.dd = 255) ∧ (p.dn = a ∨ p.dn = 0))))) H) : CallsA Try.prog 35 [.ptr k 0 0 0, p.av] H K := by
  apply C35
  unfold S35 Pk.av
  refine box_open rfl fun k1 G hG hle hk1 => ?_
  have hn := (h.le hle).node
  simp only [AV.cells] at hG
  simp only [getM_of hG, getM_of hn, nilCk_ptr, ti72_f0, ti36_f1, ti28_f0, ti28_f1, go_sem]
  repeat' first
    | (exact ⟨H, hle, k_bool hk (by first | (exact (decide_eq_true (by omega)).symm) | (exact (decide_eq_false (by omega)).symm) | (exact decide_eq_decide.2 (by omega)))⟩)
    | split
theorem Qv.app {H : AHeap} {v : AV} {q : List (List Dat)} (h : Qv H v q) {c : List Dat} (hc : c.length = 10) (hq : q.length < 2 ^ 40) {K : AV → AHeap → Prop} (hk : ∀ v' H', Qv H' v' (q ++ [c]) → (∀ i, (H i).isSome → idOf v ≠ some i → H' i = H i) → (∀ i, idOf v' = some i → idOf v = some i ∨ H i = none) → isRs v' = true → K v' H') : newK H (fun n => apA 10 96 v (.lit [c]) H n) K := by
  intro n hn
  have h1 : elemsA (.lit [c]) H = some (avs [c]) := rfl
  have hall : ((avs [c]).all fun y => y.length == 10) = true := by simp [avs, hc]
  have hq2 : ∀ x ∈ q ++ [c], x.length = 10 := fun x hx => by
    rcases List.mem_append.1 hx with hx | hx
    · exact h.1 x hx
    · rw [List.mem_singleton] at hx; rw [hx]; exact hc
  simp only [apA, h1, hall, and_self, if_true, Nat.lt_irrefl, show (0 : Nat) < 10 by omega, show (0 : Nat) < 96 by omega]
  rcases h.2 with ⟨rfl, rfl⟩ | ⟨i, ver, off, L, rfl, g1, g2, g3⟩
  · have hm : ([c.map AV.d] : List (List AV)).length * 96 ≤ mostBytes := by unfold mostBytes; simp
    simp only [appA, avs, List.map_cons, List.map_nil, hm, if_true, stepK, optA, sets_cons, sets_nil']
    refine hk _ _ ⟨hq2, .inr ⟨n, 0, 0, _, rfl, set_self, rfl, by simp⟩⟩ (fun i hi _ => set_ne (some_ne hi hn)) (fun i hi => .inr (by cases hi; exact hn)) rfl
  · have hm : (q.length + (avs [c]).length) * 96 ≤ mostBytes := by unfold mostBytes; simp [avs]; omega
    simp only [appA, g1, g3, Nat.zero_le, hm, and_self, if_true, stepK, optA, sets_cons, sets_nil']
    refine hk _ _ ⟨hq2, .inr ⟨i, ver + 1, 0, _, by simp [avs], by rw [Nat.zero_sub]; exact set_self, ?_, by simp [avs, g2]⟩⟩ (fun j hj hne => set_ne fun he => hne (by rw [he]; rfl)) (fun j hj => .inl hj) rfl
    rw [List.drop_zero, g2]
    have e : avs q ++ avs [c] = avs (q ++ [c]) := by simp [avs]
    rw [e]
    exact List.take_of_length_le (by simp [avs])
theorem bs36 {p : Pk} {H : AHeap} {n : Nat} : bsA ti36 1 [0] [.agg [.d (.int .i64 p.hops), .d (.int .i64 p.dn), .d (.int .i64 p.dd), .d (.int .i64 p.sn), .d (.int .i64 p.sd), .d (.int .i64 p.ds), .d (.int .i64 p.ss), .d (.int .i64 p.ty), .d (.sl p.nl (bs p.data)), .d (.bool p.sum)]] H n = some (.lit [Pk.cells p], []) := rfl
theorem Qv.some {H : AHeap} {v : AV} {q : List (List Dat)} (h : Qv H v q) {i : Nat} (hi : idOf v = some i) : ∃ ver L, H i = some (.mem ver 0 10 L) := by
  rcases h.2 with ⟨rfl, _⟩ | ⟨j, ver, off, L, rfl, g1, _⟩
  · cases hi
  · cases hi; exact ⟨ver, L, g1⟩
theorem set_id {H : AHeap} {k : Nat} {o : AObj} (h : H k = some o) : H.set k o = H := by
  funext j
  by_cases hj : j = k
  · rw [hj, set_self, h]
  · exact set_ne hj
theorem ap_rs_d {i v z o n : Nat} {x : Dat} : apart (.rs i v z o n) (.d x) = True := rfl
theorem take_c {p : Pk} {H : AHeap} {k m : Nat} {a b s : Int} {v : AV} {q : List (List Dat)} (h : Nq H k m a b s v q) (hv : p.Valid) (hm : (p.dd = b ∨ p.dd = 255) ∧ (p.dn = a ∨ p.dn = 0)) (hs : p.ds = s) (h4 : s ≠ 4) (hnl : p.nl = true → p.data = []) (hql : q.length ≤ 100) {K : AV → AHeap → Prop}
    (hfull : q.length = 100 → K (.tup [.agg zp, .d (.bool false), .d (.int .i64 4)]) H)
    (hk : q.length ≠ 100 → ∀ H' v', Nq H' k m a b s v' (q ++ [Pk.cells p]) → (∀ i, (H i).isSome → i ≠ m → idOf v ≠ some i → H' i = H i) → (∀ i, idOf v' = some i → idOf v = some i ∨ H i = none) → K (.tup [.agg zp, .d (.bool false), .d (.int .i64 0)]) H') : CallsA Try.prog 14 [.ptr k 0 0 0, p.av] H K := by
  subst hs
  apply C14
  unfold S14
  refine box_open rfl fun k1 G1 hG1 hle1 hk1 => ?_
  refine alloc_open fun k2 G2 hG2 hle2 hk2 => ?_
  have hle := le_trans' hle1 hle2
  have h' := h.le hle
  have hG1' := hle2 _ _ hG1
  simp only [AV.cells, Pk.av, List.length_cons, List.length_nil, Nat.reduceAdd, Nat.zero_add] at hG1'
  obtain ⟨bn, cl, h1⟩ := h'.map
  have e12 := le_ne hG1 hk2
  simp only [go_sem]
  refine none_c h'.nd ?_
  simp only [getM_of hG1', go_sem]
  refine P4.valid_c (p := p) ?_
  simp only [hv, decide_true, Bool.not_true, getM_of hG1', go_sem]
  refine mine_c (p := p) h'.nd ?_
  simp only [hm, decide_true, Bool.not_true, getM_of hG1', ti36_f3, go_sem]
  rw [if_pos h4]
  try simp only [getM_of hG1', ti36_f3, go_sem]
  refine is_c h'.nd ?_
  simp only [List.mem_singleton, decide_true, Bool.not_true, getM_of hG1', ti36_f3, go_sem]
  rw [if_pos h4]
  try simp only [getM_of hG1', getM_of h'.node, nilCk_ptr, keyInt, look_q h1, h'.qv.len, ti72_f1, ti36_f3, go_sem]
  by_cases hq : q.length = 100
  · rw [if_pos (show ((q.length : Nat) : Int) = 100 by omega)]
    simp only [getM_of hG2, zp, stoA_agg, stoA_get, stoM, setCells, and_self, true_and, Nat.le_refl, Nat.reduceLeDiff, List.cons_append, List.set_cons_zero, List.getElem?_cons_zero, go_sem]
    exact ⟨H, set_le hle (le_none hle1 hk2), hfull hq⟩
  rw [if_neg (show ¬ ((q.length : Nat) : Int) = 100 by omega)]
  rw [if_pos h4]
  try simp only [getM_of hG1', ti36_f6, go_sem]
  have hdl : p.data.length < 2 ^ 40 := by have := hv.2.2.2.2; omega
  refine P4.clone_c hdl hnl ?_
  simp only [getM_of hG1', getM_of hG2, getM_of h'.node, nilCk_ptr, keyInt, look_q h1, h'.qv.len, ti72_f1, ti36_f3, ti36_f6, stoA_agg, stoA_get, stoM, setCells, and_self, true_and, Nat.le_refl, Nat.reduceLeDiff, List.cons_append, List.set_cons_zero, List.getElem?_cons_zero, go_sem]
  simp only [set_id hG1', getM_of h'.node, keyInt, look_q h1, bs36, go_sem]
  have hkn := h'.node
  intro n90 _
  simp only [go_sem]
  refine ⟨?_, ?_, ?_⟩
  · rcases h'.qv.2 with ⟨rfl, _⟩ | ⟨i, ver, off, L, rfl, g1, _⟩
    · trivial
    · exact fun he => by subst he; rcases h.qv.2 with ⟨e, _⟩ | ⟨_, _, _, _, e, g2, _⟩ <;> cases e; rw [hk1] at g2; cases g2
  · rcases h'.qv.2 with ⟨rfl, _⟩ | ⟨i, ver, off, L, rfl, g1, _⟩
    · trivial
    · exact fun he => by subst he; rw [hkn] at g1; cases g1
  refine Qv.app h'.qv rfl (by omega) fun v' H3 hv' hf hid hrs => ?_
  have n2 : idOf v ≠ some k2 := fun he => by obtain ⟨_, _, g⟩ := h.qv.some he; rw [le_none hle1 hk2] at g; cases g
  have nm : idOf v ≠ some m := fun he => by obtain ⟨_, _, g⟩ := h'.qv.some he; rw [h1] at g; cases g
  have nk : idOf v ≠ some k := fun he => by obtain ⟨_, _, g⟩ := h'.qv.some he; rw [hkn] at g; cases g
  have f2 := hf k2 (by rw [hG2]; rfl) n2
  have fm := hf m (by rw [h1]; rfl) nm
  have fk := hf k (by rw [hkn]; rfl) nk
  rw [hG2] at f2
  rw [h1] at fm
  rw [hkn] at fk
  have e2m : k2 ≠ m := fun he => by rw [he, h1] at hG2; cases hG2
  have ek2 : k ≠ k2 := le_ne h.node (le_none hle1 hk2)
  obtain ⟨i', ver', z', o', n', rfl⟩ : ∃ i ver z o n, v' = .rs i ver z o n := by
    cases v' <;> first | (exact ⟨_, _, _, _, _, rfl⟩) | (cases hrs)
  have ni' : i' ≠ k2 := by
    rcases hid i' rfl with h5 | h5
    · exact fun he => n2 (he ▸ h5)
    · exact fun he => by rw [he, hG2] at h5; cases h5
  have ni'' : i' ≠ m := by
    rcases hid i' rfl with h5 | h5
    · exact fun he => nm (he ▸ h5)
    · exact fun he => by rw [he, h1] at h5; cases h5
  simp only [mu_q fm (w := .rs i' ver' z' o' n') rfl rfl (fun l hl => by cases hl), getM_of f2, e2m, zp, stoA_agg, stoA_get, stoM, setCells, and_self, true_and, Nat.le_refl, Nat.reduceLeDiff, List.cons_append, List.set_cons_zero, List.getElem?_cons_zero, go_sem]
  refine ⟨_, le_refl', hk hq _ _ ⟨?_, ⟨bn, cl, ?_⟩, (hv'.keep fun j hj => ?_)⟩ (fun j hj hjm hjv => ?_) fun j hj => ?_⟩
  · rw [set_ne ek2, set_ne h'.nd.ne]; exact fk
  · rw [set_ne (Ne.symm e2m)]; exact set_self
  · cases hj; rw [set_ne ni', set_ne ni'']
  · rw [set_ne (some_ne hj (le_none hle1 hk2)), set_ne hjm, hf j (by rw [le_eq hle hj]; exact hj) hjv]; exact le_eq hle hj
  · rcases hid j hj with h5 | h5
    · exact .inl h5
    · exact .inr (le_none hle h5)
end Go.Proofs.Ytfihnifhabbniaa
