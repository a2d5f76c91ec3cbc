import Derived.Test.YtijeefncmgjlpaaDicD0
import Derived.Test.YtijeefncmgjlpaaDicD1
namespace Go.Proofs.Try.Dn
open Go.Dn

def tab : Tab := (.two 78 (.two 57 (.two 41 (.two 24 (.two 20 (.one 12 d12) (.two 23 (.one 20 d20) (.one 23 d23))) (.two 25 (.one 24 d24) (.two 35 (.one 25 d25) (.one 35 d35)))) (.two 47 (.two 42 (.one 41 d41) (.two 43 (.one 42 d42) (.one 43 d43))) (.two 55 (.two 48 (.one 47 d47) (.one 48 d48)) (.two 56 (.one 55 d55) (.one 56 d56))))) (.two 66 (.two 61 (.two 58 (.one 57 d57) (.two 60 (.one 58 d58) (.one 60 d60))) (.two 63 (.one 61 d61) (.two 65 (.one 63 d63) (.one 65 d65)))) (.two 70 (.two 68 (.one 66 d66) (.two 69 (.one 68 d68) (.one 69 d69))) (.two 76 (.two 75 (.one 70 d70) (.one 75 d75)) (.two 77 (.one 76 d76) (.one 77 d77)))))) (.two 93 (.two 85 (.two 82 (.two 79 (.one 78 d78) (.two 80 (.one 79 d79) (.one 80 d80))) (.two 83 (.one 82 d82) (.two 84 (.one 83 d83) (.one 84 d84)))) (.two 88 (.two 86 (.one 85 d85) (.two 87 (.one 86 d86) (.one 87 d87))) (.two 91 (.two 90 (.one 88 d88) (.one 90 d90)) (.two 92 (.one 91 d91) (.one 92 d92))))) (.two 101 (.two 97 (.two 94 (.one 93 d93) (.two 95 (.one 94 d94) (.one 95 d95))) (.two 98 (.one 97 d97) (.two 100 (.one 98 d98) (.one 100 d100)))) (.two 108 (.two 102 (.one 101 d101) (.two 103 (.one 102 d102) (.one 103 d103))) (.two 110 (.two 109 (.one 108 d108) (.one 109 d109)) (.two 131 (.one 110 d110) (.one 131 d131)))))))

theorem tab_ok : tab.Ok Try.prog := ⟨⟨⟨⟨⟨ok12, ⟨ok20, ok23⟩⟩, ⟨ok24, ⟨ok25, ok35⟩⟩⟩, ⟨⟨ok41, ⟨ok42, ok43⟩⟩, ⟨⟨ok47, ok48⟩, ⟨ok55, ok56⟩⟩⟩⟩, ⟨⟨⟨ok57, ⟨ok58, ok60⟩⟩, ⟨ok61, ⟨ok63, ok65⟩⟩⟩, ⟨⟨ok66, ⟨ok68, ok69⟩⟩, ⟨⟨ok70, ok75⟩, ⟨ok76, ok77⟩⟩⟩⟩⟩, ⟨⟨⟨⟨ok78, ⟨ok79, ok80⟩⟩, ⟨ok82, ⟨ok83, ok84⟩⟩⟩, ⟨⟨ok85, ⟨ok86, ok87⟩⟩, ⟨⟨ok88, ok90⟩, ⟨ok91, ok92⟩⟩⟩⟩, ⟨⟨⟨ok93, ⟨ok94, ok95⟩⟩, ⟨ok97, ⟨ok98, ok100⟩⟩⟩, ⟨⟨ok101, ⟨ok102, ok103⟩⟩, ⟨⟨ok108, ok109⟩, ⟨ok110, ok131⟩⟩⟩⟩⟩⟩

end Go.Proofs.Try.Dn

