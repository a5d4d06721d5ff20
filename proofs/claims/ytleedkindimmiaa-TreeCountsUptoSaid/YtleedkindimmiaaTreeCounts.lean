/- tree.Count and its reference count alike; so the law TreeCounts answers true. -/
import Derived.Test.YtleedkindimmiaaVTab
set_option linter.unusedVariables false
set_option linter.unusedSimpArgs false
namespace Go.VL.TreeCounts
open Go Go.Proofs Go.VL
set_option maxRecDepth 100000
attribute [local irreducible] CallWP WP
inductive Nd where
  | mk (a : List UInt8) (b : List (List D)) (c : List UInt8) (ps : List Nd)
mutual
def Nd.d : Nd → List D
  | .mk a b c ps => [.str a, .sl b, .str c, .sl (nds ps)]
def nds : List Nd → List (List D)
  | [] => []
  | n :: r => n.d :: nds r
end
def Nd.ps : Nd → List Nd | .mk _ _ _ ps => ps
mutual
def Nd.sz : Nd → Nat
  | .mk _ _ _ ps => szs ps + 1
def szs : List Nd → Nat
  | [] => 0
  | n :: r => n.sz + szs r
end
mutual
def Nd.dp : Nd → Nat
  | .mk _ _ _ ps => dps ps + 1
def dps : List Nd → Nat
  | [] => 0
  | n :: r => max n.dp (dps r)
end
theorem nds_eq : ∀ l : List Nd, nds l = l.map Nd.d
  | [] => rfl
  | n :: r => by rw [nds, nds_eq r]; rfl
theorem nds_len (l : List Nd) : (nds l).length = l.length := by simp [nds_eq]
theorem nds_get (l : List Nd) (i : Nat) : (nds l)[i]? = (l[i]?).map Nd.d := by simp [nds_eq]
theorem Nd.sz_eq (n : Nd) : n.sz = szs n.ps + 1 := by cases n; simp [Nd.sz, Nd.ps]
theorem Nd.dp_eq (n : Nd) : n.dp = dps n.ps + 1 := by cases n; simp [Nd.dp, Nd.ps]
theorem szs_take (l : List Nd) (i : Nat) (h : i < l.length) : szs (l.take (i + 1)) = szs (l.take i) + l[i].sz := by
  induction l generalizing i with
  | nil => simp at h
  | cons n r ih =>
    cases i with
    | zero => simp [szs]
    | succ i => simp [szs, ih i (by simpa using h)]; omega
theorem dps_take (l : List Nd) (i : Nat) (h : i < l.length) : dps (l.take (i + 1)) = max (dps (l.take i)) l[i].dp := by
  induction l generalizing i with
  | nil => simp at h
  | cons n r ih =>
    cases i with
    | zero => simp [dps]
    | succ i => simp [dps, ih i (by simpa using h)]; try omega
theorem szs_mem {l : List Nd} (i : Nat) (h : i < l.length) : szs (l.take i) + l[i].sz ≤ szs l := by
  induction l generalizing i with
  | nil => simp at h
  | cons n r ih =>
    cases i with
    | zero => simp [szs]
    | succ i => have := ih i (by simpa using h); simp [szs]; omega
mutual
theorem Nd.dp_le : ∀ n : Nd, n.dp ≤ n.sz
  | .mk _ _ _ ps => by have := dps_le ps; simp [Nd.dp, Nd.sz]; omega
theorem dps_le : ∀ l : List Nd, dps l ≤ szs l
  | [] => by simp [dps]
  | n :: r => by have := dps_le r; have := Nd.dp_le n; simp [dps, szs]; omega
end
theorem len_le : ∀ l : List Nd, l.length ≤ szs l
  | [] => by simp
  | n :: r => by have := len_le r; have := n.sz_eq; simp [szs]; omega

theorem count (m : Nat) : ∀ ns : List Nd, szs ns < m → szs ns ≤ 1048576 → CallWP Try.prog 12 [.d (.sl (nds ns))] [] (fun r h => r = .tup [.d (.int .i64 (szs ns)), .d (.int .i64 (dps ns))] ∧ h = []) := by
  induction m with
  | zero => intro ns h; omega
  | succ m ih =>
  intro ns hm hb
  have hlen := len_le ns
  refine CallWP.start tabOK Try.func12 0 31 [(0, .d (.sl (nds ns)))] rfl rfl rfl rfl rfl ?_
  conv => whnf
  refine WP.loop (α := Nat) tabOK (fun i => i ≤ ns.length) (fun i => ⟨[(8, .d (.sl (nds ns))), (9, .d (.int .i64 (nds ns).length)), (10, .d (.int .i64 i)), (2, .d (.int .i64 (szs (ns.take i)))), (3, .d (.int .i64 (dps (ns.take i))))], [], 0, 31⟩) (fun i => ns.length - i) 0 (Nat.zero_le _) ?_ ?_
  · conv => whnf
    refine ⟨rfl, ?_⟩
    conv => whnf
    refine ⟨rfl, ?_⟩
    conv => whnf
    refine ⟨rfl, ?_⟩
    conv => whnf
    refine ⟨by simp [szs], ?_⟩
    conv => whnf
    refine ⟨by simp [dps], ?_⟩
    conv => whnf
    trivial
  intro i hi
  conv => whnf
  refine ⟨fun h2 => ?_, fun h2 => ?_⟩
  · have h2 : i < ns.length := by simp [nds_len] at h2; omega
    conv => whnf
    refine ⟨by simp [nds_len]; omega, fun c hc => ?_⟩
    obtain ⟨a, b, c', ps, hn⟩ : ∃ a b c' ps, ns[i] = .mk a b c' ps := by cases ns[i]; exact ⟨_, _, _, _, rfl⟩
    obtain rfl : c = [.str a, .sl b, .str c', .sl (nds ps)] := by simp [nds_get, h2, hn, Nd.d] at hc; exact hc.symm
    refine ⟨rfl, ?_⟩
    conv => whnf
    have hs : ns[i].sz = szs ps + 1 := by rw [hn]; simp [Nd.sz]
    have hd : ns[i].dp = dps ps + 1 := by rw [hn]; simp [Nd.dp]
    have hmem := szs_mem i h2
    have hdl := dps_le ps
    have hdt := dps_le (ns.take i)
    refine CallWP.mono (ih ps (by omega) (by omega)) ?_
    rintro r h ⟨rfl, rfl⟩
    conv => whnf
    refine Or.inl ⟨⟨by omega, by omega⟩, ?_⟩
    conv => whnf
    refine Or.inl ⟨⟨by omega, by omega⟩, ?_⟩
    conv => whnf
    refine Or.inl ⟨⟨by omega, by omega⟩, ?_⟩
    conv => whnf
    refine Or.inl ⟨⟨by omega, by omega⟩, ?_⟩
    conv => whnf
    refine ⟨i + 1, h2, by show ns.length - (i + 1) < ns.length - i; omega, ?_⟩
    conv => whnf
    refine ⟨rfl, ?_⟩
    conv => whnf
    refine ⟨rfl, ?_⟩
    conv => whnf
    refine ⟨by omega, ?_⟩
    conv => whnf
    refine ⟨by rw [szs_take _ _ h2, hs]; omega, ?_⟩
    conv => whnf
    refine ⟨by rw [dps_take _ _ h2, hd]; omega, ?_⟩
    conv => whnf
    trivial
  · conv => whnf
    have : ns.take i = ns := List.take_of_length_le (by simp [nds_len] at h2; omega)
    rw [this]
    exact ⟨rfl, rfl⟩

def parts : List Nd → List Nd
  | [] => []
  | n :: r => n.ps ++ parts r
theorem szs_app (a b : List Nd) : szs (a ++ b) = szs a + szs b := by
  induction a with
  | nil => simp [szs]
  | cons n r ih => simp [szs, ih]; omega
theorem dps_app (a b : List Nd) : dps (a ++ b) = max (dps a) (dps b) := by
  induction a with
  | nil => simp [dps]
  | cons n r ih => simp [dps, ih]
theorem szs_parts (l : List Nd) : szs l = l.length + szs (parts l) := by
  induction l with
  | nil => simp [szs, parts]
  | cons n r ih => simp [szs, parts, szs_app, n.sz_eq]; omega
theorem dps_parts (l : List Nd) (h : l ≠ []) : dps l = dps (parts l) + 1 := by
  induction l with
  | nil => simp at h
  | cons n r ih =>
    cases r with
    | nil => simp [dps, parts, n.dp_eq]
    | cons m r => have := ih (by simp); simp only [dps, parts, dps_app, Nd.dp_eq] at this ⊢; omega
theorem parts_take (l : List Nd) (i : Nat) (h : i < l.length) : parts (l.take (i + 1)) = parts (l.take i) ++ l[i].ps := by
  induction l generalizing i with
  | nil => simp at h
  | cons n r ih =>
    cases i with
    | zero => simp [parts]
    | succ i => simp [parts, ih i (by simpa using h)]
theorem nds_app (a b : List Nd) : nds (a ++ b) = nds a ++ nds b := by simp [nds_eq]
theorem nds_each {l : List Nd} : ∀ c ∈ nds l, c.length = 4 := fun c hc => by
  rw [nds_eq, List.mem_map] at hc
  obtain ⟨n, _, rfl⟩ := hc
  cases n; rfl

theorem ref (ns : List Nd) (hb : szs ns ≤ 1048576) : CallWP Try.prog 13 [.d (.sl (nds ns))] [] (fun r h => r = .tup [.d (.int .i64 (szs ns)), .d (.int .i64 (dps ns))] ∧ h = []) := by
  have hdd := dps_le ns
  refine CallWP.start tabOK Try.func13 0 32 [(0, .d (.sl (nds ns)))] rfl rfl rfl rfl rfl ?_
  conv => whnf
  refine WP.loop (α := List Nd) tabOK (fun l => szs l ≤ szs ns ∧ dps l ≤ dps ns) (fun l => ⟨[(0, .d (.sl (nds l))), (4, .d (.int .i64 ((szs ns : Int) - szs l))), (5, .d (.int .i64 ((dps ns : Int) - dps l)))], [], 0, 32⟩) (fun l => szs l) ns ⟨Nat.le_refl _, Nat.le_refl _⟩ ?_ ?_
  · conv => whnf
    refine ⟨rfl, ?_⟩
    conv => whnf
    refine ⟨by omega, ?_⟩
    conv => whnf
    refine ⟨by omega, ?_⟩
    conv => whnf
    trivial
  rintro l ⟨hl1, hl2⟩
  conv => whnf
  refine ⟨fun h2 => ?_, fun h2 => ?_⟩
  · have h2 : 0 < l.length := by simp [nds_len] at h2; omega
    have hsp := szs_parts l
    have hdp := dps_parts l (by rintro rfl; simp at h2)
    have hll := len_le l
    conv => whnf
    refine Or.inl ⟨⟨by omega, by omega⟩, ?_⟩
    conv => whnf
    refine Or.inl ⟨by rw [nds_len]; exact ⟨by omega, by omega⟩, ?_⟩
    conv => whnf
    refine WP.loop (α := Nat) tabOK (fun i => i ≤ l.length) (fun i => ⟨[(4, .d (.int .i64 ((szs ns : Int) - szs l + l.length))), (5, .d (.int .i64 ((dps ns : Int) - dps l + 1))), (6, .full 0), (18, .d (.sl (nds l))), (19, .d (.int .i64 (nds l).length)), (20, .d (.int .i64 i))], [(0, .row 41 (nds (parts (l.take i))))], 1, 32⟩) (fun i => l.length - i) 0 (Nat.zero_le _) ?_ ?_
    · conv => whnf
      refine ⟨by rw [nds_len], ?_⟩
      conv => whnf
      refine ⟨rfl, ?_⟩
      conv => whnf
      refine ⟨rfl, ?_⟩
      conv => whnf
      refine ⟨rfl, ?_⟩
      conv => whnf
      refine ⟨rfl, ?_⟩
      conv => whnf
      refine ⟨rfl, ?_⟩
      conv => whnf
      trivial
    intro i hi
    conv => whnf
    refine ⟨fun h3 => ?_, fun h3 => ?_⟩
    · have h3 : i < l.length := by simp [nds_len] at h3; omega
      conv => whnf
      refine ⟨by rw [nds_len]; omega, fun c hc => ?_⟩
      obtain ⟨a, b, c', ps, hn⟩ : ∃ a b c' ps, l[i] = .mk a b c' ps := by cases l[i]; exact ⟨_, _, _, _, rfl⟩
      obtain rfl : c = [.str a, .sl b, .str c', .sl (nds ps)] := by simp [nds_get, h3, hn, Nd.d] at hc; exact hc.symm
      refine ⟨rfl, ?_⟩
      conv => whnf
      have hm := szs_mem i h3
      have hpt := szs_parts (l.take i)
      have hl1' := len_le (parts (l.take i))
      have hl2' := len_le ps
      have hsz : l[i].sz = szs ps + 1 := by rw [hn]; simp [Nd.sz]
      refine ⟨⟨?_, ?_, nds_each⟩, ?_⟩
      · show _ * 80 ≤ _
        rw [nds_len, nds_len]; omega
      · rw [nds_len, nds_len]; omega
      conv => whnf
      refine Or.inl ⟨⟨by omega, by omega⟩, ?_⟩
      conv => whnf
      refine ⟨i + 1, h3, by show l.length - (i + 1) < l.length - i; omega, ?_⟩
      conv => whnf
      refine ⟨rfl, ?_⟩
      conv => whnf
      refine ⟨rfl, ?_⟩
      conv => whnf
      refine ⟨rfl, ?_⟩
      conv => whnf
      refine ⟨rfl, ?_⟩
      conv => whnf
      refine ⟨by omega, ?_⟩
      conv => whnf
      refine ⟨by rw [parts_take _ _ h3, nds_app, hn]; rfl, ?_⟩
      conv => whnf
      trivial
    · conv => whnf
      have ht : l.take i = l := List.take_of_length_le (by simp [nds_len] at h3; omega)
      refine ⟨parts l, ⟨by omega, by omega⟩, by show szs (parts l) < szs l; omega, ?_⟩
      rw [ht]
      conv => whnf
      refine ⟨rfl, ?_⟩
      conv => whnf
      refine ⟨by omega, ?_⟩
      conv => whnf
      refine ⟨by omega, ?_⟩
      conv => whnf
      trivial
  · conv => whnf
    have : l = [] := by cases l with | nil => rfl | cons n r => simp [nds_len] at h2
    subst this
    simp [szs, dps]

theorem law (ns : List Nd) (hb : szs ns ≤ 1048576) : CallWP Try.prog 5 [.d (.sl (nds ns))] [] (fun r _ => r = .d (.bool true)) := by
  refine CallWP.start tabOK Try.func5 0 (1 + (Try.f5.ntmps - 1)) [(0, .d (.sl (nds ns)))] rfl rfl rfl rfl rfl ?_
  conv => whnf
  refine CallWP.mono (count (szs ns + 1) ns (by omega) hb) ?_
  rintro r h ⟨rfl, rfl⟩
  conv => whnf
  refine CallWP.mono (ref ns hb) ?_
  rintro r h ⟨rfl, rfl⟩
  conv => whnf
  refine ⟨fun _ => ?_, fun h => absurd (by simp) h⟩
  conv => whnf
  refine ⟨fun _ => ?_, fun h => absurd (by simp) h⟩
  conv => whnf
  refine ⟨fun _ => ?_, fun h => absurd (by simp) h⟩
  conv => whnf
  refine ⟨fun _ => ?_, fun h => by simp at h⟩
  conv => whnf
  show T.d (.bool _) = _
  simp
end Go.VL.TreeCounts
