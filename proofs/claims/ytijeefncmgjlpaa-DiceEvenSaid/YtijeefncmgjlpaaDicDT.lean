import Derived.Test.YtijeefncmgjlpaaDicD0
import Derived.Test.YtijeefncmgjlpaaDicD1
namespace Go.Proofs.Try.Dn
open Go.Dn

def tab : Tab := (.two 76 (.two 55 (.two 27 (.two 23 (.two 20 (.one 5 d5) (.two 21 (.one 20 d20) (.one 21 d21))) (.two 25 (.two 24 (.one 23 d23) (.one 24 d24)) (.two 26 (.one 25 d25) (.one 26 d26)))) (.two 42 (.two 35 (.one 27 d27) (.two 41 (.one 35 d35) (.one 41 d41))) (.two 47 (.two 46 (.one 42 d42) (.one 46 d46)) (.two 48 (.one 47 d47) (.one 48 d48))))) (.two 62 (.two 58 (.two 56 (.one 55 d55) (.two 57 (.one 56 d56) (.one 57 d57))) (.two 60 (.two 59 (.one 58 d58) (.one 59 d59)) (.two 61 (.one 60 d60) (.one 61 d61)))) (.two 66 (.two 63 (.one 62 d62) (.two 65 (.one 63 d63) (.one 65 d65))) (.two 69 (.two 68 (.one 66 d66) (.one 68 d68)) (.two 75 (.one 69 d69) (.one 75 d75)))))) (.two 91 (.two 84 (.two 79 (.two 77 (.one 76 d76) (.two 78 (.one 77 d77) (.one 78 d78))) (.two 82 (.two 80 (.one 79 d79) (.one 80 d80)) (.two 83 (.one 82 d82) (.one 83 d83)))) (.two 87 (.two 85 (.one 84 d84) (.two 86 (.one 85 d85) (.one 86 d86))) (.two 89 (.two 88 (.one 87 d87) (.one 88 d88)) (.two 90 (.one 89 d89) (.one 90 d90))))) (.two 102 (.two 94 (.two 92 (.one 91 d91) (.two 93 (.one 92 d92) (.one 93 d93))) (.two 100 (.two 95 (.one 94 d94) (.one 95 d95)) (.two 101 (.one 100 d100) (.one 101 d101)))) (.two 109 (.two 103 (.one 102 d102) (.two 106 (.one 103 d103) (.one 106 d106))) (.two 121 (.two 110 (.one 109 d109) (.one 110 d110)) (.two 122 (.one 121 d121) (.one 122 d122)))))))

theorem tab_ok : tab.Ok Try.prog := ⟨⟨⟨⟨⟨ok5, ⟨ok20, ok21⟩⟩, ⟨⟨ok23, ok24⟩, ⟨ok25, ok26⟩⟩⟩, ⟨⟨ok27, ⟨ok35, ok41⟩⟩, ⟨⟨ok42, ok46⟩, ⟨ok47, ok48⟩⟩⟩⟩, ⟨⟨⟨ok55, ⟨ok56, ok57⟩⟩, ⟨⟨ok58, ok59⟩, ⟨ok60, ok61⟩⟩⟩, ⟨⟨ok62, ⟨ok63, ok65⟩⟩, ⟨⟨ok66, ok68⟩, ⟨ok69, ok75⟩⟩⟩⟩⟩, ⟨⟨⟨⟨ok76, ⟨ok77, ok78⟩⟩, ⟨⟨ok79, ok80⟩, ⟨ok82, ok83⟩⟩⟩, ⟨⟨ok84, ⟨ok85, ok86⟩⟩, ⟨⟨ok87, ok88⟩, ⟨ok89, ok90⟩⟩⟩⟩, ⟨⟨⟨ok91, ⟨ok92, ok93⟩⟩, ⟨⟨ok94, ok95⟩, ⟨ok100, ok101⟩⟩⟩, ⟨⟨ok102, ⟨ok103, ok106⟩⟩, ⟨⟨ok109, ok110⟩, ⟨ok121, ok122⟩⟩⟩⟩⟩⟩

end Go.Proofs.Try.Dn

